/-
  Several boxes laid at once; what a call that writes one row leaves; the loop of along between its rounds. No walk.
-/
import Derived.Test.YtagcohpghgnalaaCQ6
import Derived.Test.YtagcohpghgnalaaCBA
set_option linter.unusedSimpArgs false
set_option linter.unusedVariables false
namespace Go.Proofs.Ytagcohpghgnalaa.QA
open Go.RowKit Go.RG Go.Hp Go.Pg Go.Shelf Go.Proofs.Ytagcohpghgnalaa Go.Proofs.Ytagcohpghgnalaa.RF Go.Proofs.Ytagcohpghgnalaa.U

def allocs (w : World) (os : List Obj) : World := os.foldl World.alloc w
theorem allocs_size : ∀ (os : List Obj) (w : World), (allocs w os).heap.size = w.heap.size + os.length
  | [], w => rfl
  | o :: os, w => by
    show (allocs (w.alloc o) os).heap.size = _
    rw [allocs_size os, World.size_alloc]
    simp only [List.length_cons]
    omega
theorem allocs_below (w0 : World) {B : Nat} : ∀ (os : List Obj) (w : World), Below B w0 w → B ≤ w.heap.size → Below B w0 (allocs w os)
  | [], w, h, _ => h
  | o :: os, w, h, hs => allocs_below w0 os (w.alloc o) (h.alloc hs _) (by rw [World.size_alloc]; omega)
theorem allocs_old : ∀ (os : List Obj) (w : World) (k : Nat), k < w.heap.size → (allocs w os).heap[k]? = w.heap[k]?
  | [], w, k, _ => rfl
  | o :: os, w, k, h => by
    show (allocs (w.alloc o) os).heap[k]? = _
    rw [allocs_old os (w.alloc o) k (by rw [World.size_alloc]; omega), heap_alloc_ne _ _ _ (by omega)]
theorem allocs_get : ∀ (os : List Obj) (w : World) (i : Nat) (o : Obj), os[i]? = some o → (allocs w os).heap[w.heap.size + i]? = some o
  | [], w, i, o, h => by cases h
  | o' :: os, w, 0, o, h => by
    injection h with h
    subst h
    show (allocs (w.alloc o') os).heap[w.heap.size + 0]? = _
    rw [allocs_old os _ _ (by rw [World.size_alloc]; omega)]
    exact World.alloc_heap_new w o'
  | o' :: os, w, i + 1, o, h => by
    show (allocs (w.alloc o') os).heap[w.heap.size + (i + 1)]? = _
    have := allocs_get os (w.alloc o') i o h
    rw [World.size_alloc] at this
    rw [show w.heap.size + (i + 1) = w.heap.size + 1 + i by omega]
    exact this

theorem keepsOthers_ext {S : Nat → Prop} {A B : World} (h : Ext S A B) (hS : ∀ k, S k → ∃ o, A.heap[k]? = some o ∧ o.isCells = true) : KeepsOthers A B := ⟨h.size, fun k o hk hc => h.heap hk fun hs => by
  obtain ⟨o', h1, h2⟩ := hS k hs
  rw [hk] at h1
  injection h1 with h1
  subst h1
  rw [hc] at h2
  cases h2⟩
theorem nums_keep {B : Nat} {A A' : World} {v : Value} {l : List Int} {row : Option Nat} (h : NumsAt B A v l) (hg : A.grownBy A' row) (hr : ∀ r, row = some r → ∃ o : Obj, A.heap[r]? = some o ∧ o.isCells = false) : NumsAt B A' v l := by
  refine owns_of_block h fun k hk => ?_
  obtain ⟨o, h1, h2⟩ := owns_cells h hk
  rw [h1]
  exact heap_keep h1 h2 hg hr

def evNums (e : Ev) : List Int := [e.k.t, e.k.s, e.n]
theorem evNums_len (l : List Ev) : (l.flatMap evNums).length = l.length * 3 := by
  induction l with
  | nil => rfl
  | cons e l ih => rw [List.flatMap_cons, List.length_append, ih]; simp [evNums]; omega
def AlongPost (w : World) (E : List Ev) (most : Nat) (e : Ending) (w' : World) : Prop := ∃ v, e = .returned v ∧ NumsAt w.heap.size w' v ((E.take most).flatMap evNums) ∧ Below w.heap.size w w'

/-- the list's and the counts' boxes between two rounds -/
def LI (w : World) (z L C M m : Nat) (pre : List Ev) (W : World) : Prop :=
  (∃ v, W.heap[L]? = some (.cells #[v] 76 (0, 0)) ∧ NumsAt z W v (pre.flatMap evNums) ∧ W.heap[C]? = some (.cells #[.int .i64 pre.length] 3 (0, 0)) ∧ W.heap[M]? = some (.cells #[.int .i64 m] 3 (0, 0))) ∧ Below w.heap.size w W
theorem LI.below {w : World} {z L C M m : Nat} {pre : List Ev} {W W' : World} (h : LI w z L C M m pre W) (hb : Below W.heap.size W W') : LI w z L C M m pre W' := by
  obtain ⟨⟨v, h1, h2, h3, h4⟩, h5⟩ := h
  exact ⟨⟨v, below_heap hb h1, h2.below hb, below_heap hb h3, below_heap hb h4⟩, h5.trans (hb.mono h5.size)⟩
theorem LI.own {w : World} {z L C M m : Nat} {B : Nat} (hB : w.heap.size ≤ B) : OwnFrom B (LI w z L C M m) := fun pre A A' row ⟨⟨v, h1, h2, h3, h4⟩, h5⟩ hg hr =>
  ⟨⟨v, heap_keep h1 rfl hg fun r e => (hr r e).2, nums_keep h2 hg fun r e => (hr r e).2, heap_keep h3 rfl hg fun r e => (hr r e).2, heap_keep h4 rfl hg fun r e => (hr r e).2⟩, ownFrom_below (Nat.le_refl _) hB () A A' row h5 hg hr⟩

/-- a round: the list has grown by an entry, the count by one -/
theorem LI.round {w W W1 : World} {z L C M m : Nat} {pre : List Ev} {x : Ev} {v v1 : Value} (hL : W.heap[L]? = some (.cells #[v] 76 (0, 0))) (hn : NumsAt z W v (pre.flatMap evNums)) (hC : W.heap[C]? = some (.cells #[.int .i64 pre.length] 3 (0, 0)))
    (hM : W.heap[M]? = some (.cells #[.int .i64 m] 3 (0, 0))) (hB : Below w.heap.size w W) (hwL : w.heap.size ≤ L) (hwC : w.heap.size ≤ C) (hzw : w.heap.size ≤ z) (hLz : L < z) (hCz : C < z) (hMz : M < z) (hLC : L ≠ C) (hML : M ≠ L) (hMC : M ≠ C)
    (hn1 : NumsAt z W1 v1 (pre.flatMap evNums ++ [x.k.t, x.k.s, x.n])) (hX : Ext (fun k => v.ownBlock = some k) W W1) (hv1 : ∀ k, v1.ownBlock = some k → v.ownBlock = some k ∨ W.heap.size ≤ k) :
    LI w z L C M m (pre ++ [x]) ((W1.setCell ⟨L, 0, none⟩ v1).setCell ⟨C, 0, none⟩ (.int .i64 ((pre.length : Int) + 1))) ∧ KpL L C W ((W1.setCell ⟨L, 0, none⟩ v1).setCell ⟨C, 0, none⟩ (.int .i64 ((pre.length : Int) + 1))) ∧
      ∀ B, KeepsFrom B W ((W1.setCell ⟨L, 0, none⟩ v1).setCell ⟨C, 0, none⟩ (.int .i64 ((pre.length : Int) + 1))) := by
  have hvz : ∀ k, v.ownBlock = some k → z ≤ k := fun k hk => (hn.lt k hk).1
  have hs := hX.size
  have e1 : W1.heap[L]? = some (.cells #[v] 76 (0, 0)) := hX.heap hL fun h => by have := hvz _ h; omega
  have e2 : W1.heap[C]? = some (.cells #[.int .i64 pre.length] 3 (0, 0)) := hX.heap hC fun h => by have := hvz _ h; omega
  have e3 : W1.heap[M]? = some (.cells #[.int .i64 m] 3 (0, 0)) := hX.heap hM fun h => by have := hvz _ h; omega
  have f1 : ((W1.setCell ⟨L, 0, none⟩ v1).setCell ⟨C, 0, none⟩ (.int .i64 ((pre.length : Int) + 1))).heap[L]? = some (.cells #[v1] 76 (0, 0)) := heap_set_ne _ (heap1_set v1 e1) hLC
  have f2 := heap1_set (.int .i64 ((pre.length : Int) + 1)) (heap_set_ne (c := L) (i := 0) v1 e2 hLC.symm)
  have f3 := heap_set_ne (c := C) (i := 0) (.int .i64 ((pre.length : Int) + 1)) (heap_set_ne (c := L) (i := 0) v1 e3 hML) hMC
  have hlt1 := fun k (hk : v1.ownBlock = some k) => owns_lt hn1 hk
  refine ⟨⟨⟨v1, f1, ?_, ?_, f3⟩, ?_⟩, KpL.turn hL (by simpa using hs) (fun k hk h1 h2 h3 => ?_) f1 (fun b hb => ⟨hv1 b hb, by simpa using hlt1 b hb⟩), fun B => ?_⟩
  · rw [List.flatMap_append, List.flatMap_singleton]
    exact owns_of_block hn1 fun k hk => by have := (hn1.lt k hk).1; rw [heap_setCell_ne _ _ _ _ (by show k ≠ C; omega), heap_setCell_ne _ _ _ _ (by show k ≠ L; omega)]
  · rw [List.length_append]
    exact f2
  · exact ((hB.trans (hX.to_belowAt (B := w.heap.size) hB.size fun k hk h => by have := hvz k h; omega)).setCell (p := ⟨L, 0, none⟩) hwL _).setCell (p := ⟨C, 0, none⟩) hwC _
  · rw [heap_setCell_ne _ _ _ _ h2, heap_setCell_ne _ _ _ _ h1]
    exact hX.block k hk h3
  · exact (((keepsOthers_ext hX fun k hk => owns_cells hn hk).trans (KeepsOthers.setCell _ _ _)).trans (KeepsOthers.setCell _ _ _)).from B

theorem kpL_put {L C : Nat} {w : World} (W : World) (l : Nat) (o o' : Obj) (_ : w.heap.size ≤ l) (h : W.heap[l]? = some o) (hc : o.isCells = false) (_ : o.isWalk = false) : KpL L C W (W.putObj l o') :=
  (guard_L L C).grown W _ _ (grownBy_putObj' W l o') fun r e => by injection e with e; subst e; exact ⟨o, h, hc⟩
end Go.Proofs.Ytagcohpghgnalaa.QA
