/-
  PagesWalks: what lies between the calls and the rounds.
-/
import Derived.Test.YtagcohpghgnalaaCSC
import Derived.Test.YtagcohpghgnalaaCQA
import Derived.Test.YtagcohpghgnalaaCLO
set_option linter.unusedSimpArgs false
set_option linter.unusedVariables false
namespace Go.Proofs.Ytagcohpghgnalaa.SO
open Go.RowKit Go.RG Go.Hp Go.Pg Go.Shelf Go.Proofs.Ytagcohpghgnalaa Go.Proofs.Ytagcohpghgnalaa.RF Go.Proofs.Ytagcohpghgnalaa.U Go.Proofs.Ytagcohpghgnalaa.LB Go.Proofs.Ytagcohpghgnalaa.BK Go.Proofs.Ytagcohpghgnalaa.QA

/-- an iterator's function value, and its two boxes -/
def ItAt (f bx : Nat) (s : St) : RG.Spec := fun v w => ∃ B, v = .func (.func f) #[] #[.pointer (some ⟨B, 0, none⟩), .pointer (some ⟨B + 1, 0, none⟩)] ∧
  w.heap[B]? = some (.cells #[.pointer (some ⟨bx, 0, none⟩)] 29 (0, 0)) ∧ w.heap[B + 1]? = some (.cells #[.int .u64 s.t, .int .u64 s.s] 38 (0, 0))
theorem ItAt.st (f bx : Nat) (s : St) : RG.Spec.stable (ItAt f bx s) := fun _ _ _ ⟨B, h1, h2, h3⟩ hb => ⟨B, h1, below_heap hb h2, below_heap hb h3⟩
theorem itAt_new (f bx : Nat) (s : St) (w : World) : Below w.heap.size w ((w.alloc (.cells #[.pointer (some ⟨bx, 0, none⟩)] 29)).alloc (.cells #[.int .u64 s.t, .int .u64 s.s] 38)) ∧
    ItAt f bx s (.func (.func f) #[] #[.pointer (some ⟨w.heap.size, 0, none⟩), .pointer (some ⟨w.heap.size + 1, 0, none⟩)]) ((w.alloc (.cells #[.pointer (some ⟨bx, 0, none⟩)] 29)).alloc (.cells #[.int .u64 s.t, .int .u64 s.s] 38)) :=
  ⟨(below_box w _).alloc (by simp) _, _, rfl, allocs_get [.cells #[.pointer (some ⟨bx, 0, none⟩)] 29, .cells #[.int .u64 s.t, .int .u64 s.s] 38] w 0 _ rfl, allocs_get [.cells #[.pointer (some ⟨bx, 0, none⟩)] 29, .cells #[.int .u64 s.t, .int .u64 s.s] 38] w 1 _ rfl⟩
/-- a new box for a function value -/
def FBox (z : Nat) : RG.Spec := fun v w => ∃ B, v = .pointer (some ⟨B, 0, none⟩) ∧ z ≤ B ∧ w.heap[B]? = some (.cells #[.nilFunc] 57 (0, 0))
theorem FBox.st (z : Nat) : RG.Spec.stable (FBox z) := fun _ _ _ ⟨B, h1, h3, h2⟩ hb => ⟨B, h1, h3, below_heap hb h2⟩
/-- some blocks, and what lies there -/
def Held (L : List (Nat × Obj)) (W : World) : Prop := ∀ x ∈ L, W.heap[x.1]? = some x.2
theorem Held.ext {L : List (Nat × Obj)} {S : Nat → Prop} {W W' : World} (h : Held L W) (hX : Ext S W W') (hS : ∀ x ∈ L, ¬ S x.1) : Held L W' := fun x hx => hX.heap (h x hx) (hS x hx)
theorem Held.below {L : List (Nat × Obj)} {W W' : World} (h : Held L W) (hb : Below W.heap.size W W') : Held L W' := fun x hx => below_heap hb (h x hx)
theorem Held.lt {L : List (Nat × Obj)} {W : World} (h : Held L W) : ∀ x ∈ L, x.1 < W.heap.size := fun x hx => block_lt_of_heap (h x hx)
theorem two_new {bx size : Nat} {B : Nat} {w : World} {vr : Value} (hM : U.MemV w bx size [] (· = bx) vr []) (hb : B ≤ bx) : Two B bx size [] (.slice none 0 0) [] (· = bx) w where
  mem := ⟨vr, [], hM⟩
  lim := fun k hk => by have := block_lt_of_heap hM.str; omega
  good := ⟨by simp, by simp [keys, Rising]⟩
  num := fun e he => by simp at he
  row := World.ownsRow_nil _ _ _ _
  off := fun k hk => by cases hk
  pnum := fun e he => by cases he

theorem row_off_box {w : World} {B n b : Nat} {v : Value} {cs : List Value} {c : Array Value} (h : w.ownsRow B 60 3 v n cs) (hb : w.heap[b]? = some (.cells c 35 (0, 0))) : v.ownBlock ≠ some b := by
  rcases h.2 with ⟨rfl, _⟩ | ⟨g, cap, cur, rfl, _, hh, _⟩
  · intro e; cases e
  · intro e
    injection e with e
    subst e
    rw [hb] at hh
    injection hh with hh
    injection hh with _ hh
    exact absurd hh (by decide)
/-- the index and the book, where a block is written that is neither's -/
theorem two_set {B bx size : Nat} {R : List (List Ent)} {bv : Value} {p : List Ent} {Z : Nat → Prop} {w : World} (h : Two B bx size R bv p Z w) {b i : Nat} (u : Value) (hb : ¬ Z b) (hr : bv.ownBlock ≠ some b) : Two B bx size R bv p Z (w.setCell ⟨b, i, none⟩ u) :=
  two_cells h (by simp) fun k o h1 _ h2 => heap_set_ne u h1 (by
    rintro rfl
    obtain ⟨vr, pvs, hM⟩ := h.mem
    rcases h2 with h2 | h2 | h2
    · exact hb (by rw [h2]; exact hM.sx)
    · exact hb h2
    · exact hr h2)
/-- the state between two calls of the script, and between two rounds of the law's own loop -/
structure Mid (B bx size tot bB : Nat) (L : List (Nat × Obj)) (R : List (List Ent)) (bv : Value) (Z : Nat → Prop) (w wr : World) : Prop where
  two : Two B bx size R bv R.flatten Z wr
  tot : total R ≤ tot
  held : Held L wr
  off : ∀ x ∈ L, ¬ Z x.1
  box : wr.heap[bB]? = some (.cells #[bv] 35 (0, 0))
  boff : ¬ Z bB
  bL : ∀ x ∈ L, x.1 ≠ bB
  bw : w.heap.size ≤ bB
  nn : NN R
  below : Below w.heap.size w wr
/-- the index and the book have been turned, and the book's new row has been stored -/
theorem Mid.turned {B bx size tot tot' bB : Nat} {L : List (Nat × Obj)} {R R' : List (List Ent)} {bv bv' : Value} {Z Z' : Nat → Prop} {w wr w3 : World} (h : Mid B bx size tot bB L R bv Z w wr) (hw : w.heap.size ≤ B) (hT : Two B bx size R' bv' R'.flatten Z' w3)
    (ht : total R' ≤ tot') (hnn : NN R') (hX : Ext Z wr w3) (hZ : ∀ k, Z' k → Z k ∨ wr.heap.size ≤ k) : Mid B bx size tot' bB L R' bv' Z' w (w3.setCell ⟨bB, 0, none⟩ bv') := by
  have hb3 := hX.heap h.box h.boff
  have hbl := block_lt_of_heap h.box
  have hoff : ¬ Z' bB := fun hk => (hZ _ hk).elim h.boff fun h1 => by omega
  refine ⟨two_set hT _ hoff (row_off_box hT.row hb3), ht, fun x hx => heap_set_ne _ (hX.heap (h.held x hx) (h.off x hx)) (h.bL x hx), fun x hx hk => ?_, heap1_set _ hb3, hoff, h.bL, h.bw, hnn, ?_⟩
  · have := h.held.lt x hx
    rcases hZ _ hk with h1 | h1
    · exact h.off x hx h1
    · omega
  · exact (h.below.trans (hX.to_belowAt h.below.size fun k hk hz => by have := (h.two.lim k hz).1; omega)).setCell (p := ⟨bB, 0, none⟩) h.bw _

theorem Mid.below' {B bx size tot bB : Nat} {L : List (Nat × Obj)} {R : List (List Ent)} {bv : Value} {Z : Nat → Prop} {w wr W : World} (h : Mid B bx size tot bB L R bv Z w wr) (hb : Below wr.heap.size wr W) : Mid B bx size tot bB L R bv Z w W :=
  ⟨h.two.below hb, h.tot, h.held.below hb, h.off, below_heap hb h.box, h.boff, h.bL, h.bw, h.nn, h.below.trans (hb.mono h.below.size)⟩
/-- a turn of a block that is none of cells, and none that is held -/
theorem Mid.own {B bx size tot bB z : Nat} {L : List (Nat × Obj)} {R : List (List Ent)} {bv : Value} {Z : Nat → Prop} {w W W' : World} {row : Option Nat} (h : Mid B bx size tot bB L R bv Z w W) (hL : ∀ x ∈ L, x.1 < z) (hz : w.heap.size ≤ z)
    (hg : W.grownBy W' row) (hr : ∀ r, row = some r → z ≤ r ∧ ∃ o : Obj, W.heap[r]? = some o ∧ o.isCells = false) : Mid B bx size tot bB L R bv Z w W' := by
  have hc : ∀ {k : Nat} {o : Obj}, W.heap[k]? = some o → o.isCells = true → W'.heap[k]? = some o := fun h1 h2 => heap_keep h1 h2 hg fun r e => (hr r e).2
  have hlo : ∀ {k : Nat} {o : Obj}, W.heap[k]? = some o → k < z → W'.heap[k]? = some o := fun h1 h2 => (hg.block _ (block_lt_of_heap h1) (fun e => by have := (hr _ e.symm).1; omega)).trans h1
  refine ⟨two_cells h.two hg.size fun k o h1 h2 _ => hc h1 h2, h.tot, fun x hx => hlo (h.held x hx) (hL x hx), h.off, hc h.box rfl, h.boff, h.bL, h.bw, h.nn, ?_⟩
  exact (ownFrom_below (Nat.le_refl _) hz) () W W' row h.below hg hr
/-- only blocks of cells are the index's -/
theorem Mid.cells {B bx size tot bB : Nat} {L : List (Nat × Obj)} {R : List (List Ent)} {bv : Value} {Z : Nat → Prop} {w W : World} (h : Mid B bx size tot bB L R bv Z w W) : Mid B bx size tot bB L R bv (fun k => Z k ∧ ∃ o, W.heap[k]? = some o ∧ o.isCells = true) w W := by
  refine ⟨⟨?_, fun k hk => h.two.lim k hk.1, h.two.good, h.two.num, h.two.row, fun k hk hz => h.two.off k hk hz.1, h.two.pnum⟩, h.tot, h.held, fun x hx hz => h.off x hx hz.1, h.box, fun hz => h.boff hz.1, h.bL, h.bw, h.nn, h.below⟩
  obtain ⟨vr, pvs, hM⟩ := h.two.mem
  exact ⟨vr, pvs, hM.str, hM.rows, hM.pages, ⟨hM.sx, _, hM.str, rfl⟩, fun k hk => ⟨⟨(hM.sr k hk).1, owns_cells hM.rows hk⟩, (hM.sr k hk).2⟩, fun i hi k hk => ⟨⟨(hM.sp i hi k hk).1, owns_cells (hM.pages i hi).row hk⟩, (hM.sp i hi k hk).2⟩⟩
/-- a store into a block of the loop's own, or into one that has been laid since -/
theorem keepW_set' {bx n : Nat} {T : Nat → Prop} {A W : World} (h : KeepW bx n T A W) {b i : Nat} (u : Value) (hb : T b ∨ A.heap.size ≤ b) (hbx : b ≠ bx) : KeepW bx n T A (W.setCell ⟨b, i, none⟩ u) := by
  have hc : (W.setCell ⟨b, i, none⟩ u).cell? ⟨bx, 2, none⟩ = W.cell? ⟨bx, 2, none⟩ := by
    unfold World.cell?
    rw [heap_setCell_ne _ _ _ _ (Ne.symm hbx)]
  refine ⟨fun h0 => ?_, by simpa using h.size, fun k hk => ?_⟩
  · obtain ⟨h1, h2, vr, h3, h4⟩ := h.inv h0
    exact ⟨by simpa using h1, h2, vr, by rw [hc]; exact h3, by simpa using h4⟩
  · obtain ⟨⟨⟨o, p1, p2⟩, p3, ⟨vr, p5⟩, p4⟩, e⟩ := h.keep k hk
    have hkb : k ≠ b := by
      rintro rfl
      rcases hb with hb | hb
      · exact p3 hb
      · obtain ⟨⟨o', q1, -⟩, -⟩ := hk
        have := block_lt_of_heap q1
        omega
    have hs := heap_set_ne (c := b) (i := i) u p1 hkb
    refine ⟨⟨⟨o, hs, p2⟩, p3, ⟨vr, by rw [hc]; exact p5⟩, fun hh => p4 ?_⟩, by rw [← e, p1]; exact hs⟩
    unfold WrW at hh
    rwa [hc] at hh

theorem row_held {w : World} {B n : Nat} {v : Value} {cs : List Value} (h : w.ownsRow B 60 3 v n cs) : ∃ l : List (Nat × Obj), Held l w ∧ (∀ x ∈ l, v.ownBlock = some x.1) ∧ ∀ W, Held l W → W.ownsRow B 60 3 v n cs := by
  cases hv : v.ownBlock with
  | none => exact ⟨[], fun x hx => (by cases hx), fun x hx => (by cases hx), fun W _ => owns_of_block h fun k hk => (by rw [hv] at hk; cases hk)⟩
  | some g =>
    obtain ⟨o, ho, -⟩ := owns_cells h hv
    refine ⟨[(g, o)], fun x hx => (by obtain rfl := List.mem_singleton.1 hx; exact ho), fun x hx => (by obtain rfl := List.mem_singleton.1 hx; rfl), fun W hW => owns_of_block h fun k hk => ?_⟩
    rw [hv] at hk
    injection hk with hk
    subst hk
    rw [ho]; exact hW (g, o) (List.mem_singleton.2 rfl)
theorem Held.append {l L : List (Nat × Obj)} {W : World} (h1 : Held l W) (h2 : Held L W) : Held (l ++ L) W := fun x hx => (List.mem_append.1 hx).elim (h1 x) (h2 x)
theorem Held.left {l L : List (Nat × Obj)} {W : World} (h : Held (l ++ L) W) : Held l W := fun x hx => h x (List.mem_append_left _ hx)
theorem Held.right {l L : List (Nat × Obj)} {W : World} (h : Held (l ++ L) W) : Held L W := fun x hx => h x (List.mem_append_right _ hx)
theorem Mid.more {B bx size tot bB : Nat} {l L : List (Nat × Obj)} {R : List (List Ent)} {bv : Value} {Z : Nat → Prop} {w W : World} (h : Mid B bx size tot bB L R bv Z w W) (hh : Held l W) (ho : ∀ x ∈ l, ¬ Z x.1) (hb : ∀ x ∈ l, x.1 ≠ bB) : Mid B bx size tot bB (l ++ L) R bv Z w W :=
  ⟨h.two, h.tot, hh.append h.held, fun x hx => (List.mem_append.1 hx).elim (ho x) (h.off x), h.box, h.boff, fun x hx => (List.mem_append.1 hx).elim (hb x) (h.bL x), h.bw, h.nn, h.below⟩
theorem Mid.less {B bx size tot tot' bB : Nat} {l L : List (Nat × Obj)} {R : List (List Ent)} {bv : Value} {Z : Nat → Prop} {w W : World} (h : Mid B bx size tot bB (l ++ L) R bv Z w W) (ht : tot ≤ tot') : Mid B bx size tot' bB L R bv Z w W :=
  ⟨h.two, Nat.le_trans h.tot ht, h.held.right, fun x hx => h.off x (List.mem_append_right _ hx), h.box, h.boff, fun x hx => h.bL x (List.mem_append_right _ hx), h.bw, h.nn, h.below⟩
/-- between two rounds of the range over Up -/
structure Rng (B bx size tot bB b17 b18 j z : Nat) (L : List (Nat × Obj)) (E : List Ev) (w : World) (pre : List Ev) (W : World) : Prop where
  mid : ∃ (R' : List (List Ent)) (Z' : Nat → Prop) (m' : Nat) (ab' : Option Addr) (cb' : Nat), R'.flatten.length = m' ∧ Mid B bx size (tot + pre.length) bB L R' (.slice ab' m' cb') Z' w W ∧ ¬ Z' b17 ∧ ¬ Z' b18
  c17 : W.heap[b17]? = some (.cells #[.int .i64 ((j + pre.length : Nat) : Int)] 3 (0, 0))
  c18 : W.heap[b18]? = some (.cells #[.int .i64 ((pre.length : Nat) : Int)] 3 (0, 0))
  pre : pre <+: E
  sz : z ≤ W.heap.size
theorem Rng.own {B bx size tot bB b17 b18 j z : Nat} {L : List (Nat × Obj)} {E : List Ev} {w : World} (hL : ∀ x ∈ L, x.1 < z) (hz : w.heap.size ≤ z) : OwnFrom z (fun pre W => Rng B bx size tot bB b17 b18 j z L E w pre W) := fun pre W W' row h hg hr => by
  obtain ⟨R', Z', m', ab', cb', h1, h2, h3, h4⟩ := h.mid
  exact ⟨⟨R', Z', m', ab', cb', h1, h2.own hL hz hg hr, h3, h4⟩, heap_keep h.c17 rfl hg fun r e => (hr r e).2, heap_keep h.c18 rfl hg fun r e => (hr r e).2, h.pre, Nat.le_trans h.sz hg.size⟩
theorem Rng.below {B bx size tot bB b17 b18 j z : Nat} {L : List (Nat × Obj)} {E : List Ev} {w W W' : World} {pre : List Ev} (h : Rng B bx size tot bB b17 b18 j z L E w pre W) (hb : Below W.heap.size W W') : Rng B bx size tot bB b17 b18 j z L E w pre W' := by
  obtain ⟨R', Z', m', ab', cb', h1, h2, h3, h4⟩ := h.mid
  exact ⟨⟨R', Z', m', ab', cb', h1, h2.below' hb, h3, h4⟩, below_heap hb h.c17, below_heap hb h.c18, h.pre, Nat.le_trans h.sz hb.size⟩

theorem row_off {w : World} {B n b : Nat} {v : Value} {cs : List Value} {c : Array Value} {ty : TypeId} (h : w.ownsRow B 60 3 v n cs) (hty : 60 ≠ ty) (hb : w.heap[b]? = some (.cells c ty (0, 0))) : v.ownBlock ≠ some b := by
  rcases h.2 with ⟨rfl, _⟩ | ⟨g, cap, cur, rfl, _, hh, _⟩
  · intro e; cases e
  · intro e
    injection e with e
    subst e
    rw [hb] at hh
    injection hh with hh
    injection hh with _ hh
    exact hty hh.symm
theorem Mid.set {B bx size tot bB : Nat} {L : List (Nat × Obj)} {R : List (List Ent)} {bv : Value} {Z : Nat → Prop} {w W : World} (h : Mid B bx size tot bB L R bv Z w W) {b i : Nat} (u : Value) (hb : ¬ Z b) (hr : bv.ownBlock ≠ some b) (hL : ∀ x ∈ L, x.1 ≠ b) (hB : bB ≠ b) (hw : w.heap.size ≤ b) :
    Mid B bx size tot bB L R bv Z w (W.setCell ⟨b, i, none⟩ u) :=
  ⟨two_set h.two u hb hr, h.tot, fun x hx => heap_set_ne _ (h.held x hx) (hL x hx), h.off, heap_set_ne _ h.box hB, h.boff, h.bL, h.bw, h.nn, h.below.setCell (p := ⟨b, i, none⟩) hw _⟩
theorem Mid.up {B bx size tot tot' bB : Nat} {L : List (Nat × Obj)} {R : List (List Ent)} {bv : Value} {Z : Nat → Prop} {w W : World} (h : Mid B bx size tot bB L R bv Z w W) (ht : tot ≤ tot') : Mid B bx size tot' bB L R bv Z w W :=
  ⟨h.two, Nat.le_trans h.tot ht, h.held, h.off, h.box, h.boff, h.bL, h.bw, h.nn, h.below⟩
/-- the two counters go on -/
theorem Mid.count {B bx size tot bB b17 b18 : Nat} {L : List (Nat × Obj)} {R : List (List Ent)} {bv : Value} {Z : Nat → Prop} {w W : World} (h : Mid B bx size tot bB L R bv Z w W) {x17 x18 : Value} (h17 : W.heap[b17]? = some (.cells #[x17] 3 (0, 0))) (h18 : W.heap[b18]? = some (.cells #[x18] 3 (0, 0)))
    (z17 : ¬ Z b17) (z18 : ¬ Z b18) (hL : ∀ x ∈ L, x.1 ≠ b17 ∧ x.1 ≠ b18) (hB : bB ≠ b17 ∧ bB ≠ b18) (hne : b17 ≠ b18) (hw : w.heap.size ≤ b17 ∧ w.heap.size ≤ b18) (u17 u18 : Value) :
    Mid B bx size tot bB L R bv Z w ((W.setCell ⟨b17, 0, none⟩ u17).setCell ⟨b18, 0, none⟩ u18) ∧ ((W.setCell ⟨b17, 0, none⟩ u17).setCell ⟨b18, 0, none⟩ u18).heap[b17]? = some (.cells #[u17] 3 (0, 0)) ∧ ((W.setCell ⟨b17, 0, none⟩ u17).setCell ⟨b18, 0, none⟩ u18).heap[b18]? = some (.cells #[u18] 3 (0, 0)) := by
  have e18 : (W.setCell ⟨b17, 0, none⟩ u17).heap[b18]? = some (.cells #[x18] 3 (0, 0)) := heap_set_ne _ h18 (Ne.symm hne)
  have m1 := h.set (i := 0) u17 z17 (row_off h.two.row (by decide) h17) (fun x hx => (hL x hx).1) hB.1 hw.1
  exact ⟨m1.set u18 z18 (row_off m1.two.row (by decide) e18) (fun x hx => (hL x hx).2) hB.2 hw.2, heap_set_ne _ (heap1_set u17 h17) hne, heap1_set u18 e18⟩

/-- the law's own loop, between two rounds -/
def LoopI (w : World) (xb BU bD bB bx size : Nat) (L : List (Nat × Obj)) (a' : Act) (wr : World) : Prop := ∃ (u : Nat → Value) (r tot : Nat) (R : List (List Ent)) (Z : Nat → Prop) (m : Nat) (ab : Option Addr) (cb : Nat) (ds : List Nat),
        a' = { tmps := fr u, defers := ds.map fun D => { target := .collected D, args := #[] } } ∧ u 6 = .pointer (some ⟨w.heap.size, 0, none⟩) ∧ u 7 = .pointer (some ⟨w.heap.size + 1, 0, none⟩) ∧ u 8 = .pointer (some ⟨w.heap.size + 1 + 1, 0, none⟩) ∧ u 9 = .pointer (some ⟨xb, 0, none⟩) ∧ u 11 = .func (.func 75) #[] #[.pointer (some ⟨BU, 0, none⟩), .pointer (some ⟨BU + 1, 0, none⟩)] ∧ u 12 = .pointer (some ⟨bD, 0, none⟩) ∧ u 13 = .pointer (some ⟨bB, 0, none⟩) ∧ u 15 = .int .i64 r ∧ ds.length = r ∧ r ≤ 2 ∧ ds.Nodup ∧ (∀ D ∈ ds, w.heap.size ≤ D ∧ wr.heap[D]? = some (.deferred (some []))) ∧ (∀ D ∈ ds, ¬ Z D) ∧
        (r = 0 → tot ≤ 1048576) ∧ (r = 1 → tot ≤ 2097152) ∧ tot ≤ 4194304 ∧ R.flatten.length = m ∧ Mid (w.heap.size + 3) bx size tot bB L R (.slice ab m cb) Z w wr

theorem total_rem_le {size : Nat} {R : List (List Ent)} (hG : Pg.Good size R) (k : St) : total (removeR size R k) ≤ total R := by
  have h2 := total_flat (removeR size R k)
  rw [← rem_flat hG] at h2
  have h3 := remGo_length k R.flatten
  have h4 := total_flat R
  omega
/-- a stamp's entry is taken out and put in anew, in the index and in the book -/
theorem Mid.step {B bx size tt bB Bk : Nat} {L : List (Nat × Obj)} {R1 : List (List Ent)} {bv v5 : Value} {Z S8 : Nat → Prop} {w Wd W5 W7 W8 : World} {vr8 : Value} {pvs8 : List Value} (h4 : 4 ≤ size) (hw : w.heap.size ≤ B)
    (hd : Mid B bx size tt bB L R1 bv Z w Wd) (hb : Below Wd.heap.size Wd W5) (hBk : Wd.heap.size ≤ Bk) (k k' : St) (x : Int) (hk : k'.lt ⟨0, 0⟩ = false)
    (hown : W5.ownsRow Bk 60 3 v5 (putGo k' (.int .u64 x) (remGo k R1.flatten) false).length (cellsOf (putGo k' (.int .u64 x) (remGo k R1.flatten) false)))
    (h7 : Turned bx (W5.setCell ⟨bB, 0, none⟩ v5) W7) (h8 : Turned bx W7 W8) (hM8 : U.MemV W8 bx size (putR size (removeR size R1 k) k' (.int .u64 x)) S8 vr8 pvs8) (hS : ∀ j, S8 j → Z j ∨ W5.heap.size ≤ j) :
    ∃ Z' : Nat → Prop, (∀ j, Z' j → Z j ∨ W5.heap.size ≤ j) ∧ Mid B bx size (tt + 1) bB L (putR size (removeR size R1 k) k' (.int .u64 x)) v5 Z' w W8 := by
  have hd5 := hd.below' hb
  have hlim := fun k h => hd.two.lim k h
  have hT6 := two_set hd5.two (i := 0) v5 hd5.boff (row_off_box hd5.two.row hd5.box)
  obtain ⟨vr6, pvs6, hM6⟩ := hT6.mem
  have hX : Ext Z (W5.setCell ⟨bB, 0, none⟩ v5) W8 := (h7.trans h8).ext.mono fun k _ h => hM6.wr k h
  have hs6 : (W5.setCell ⟨bB, 0, none⟩ v5).heap.size = W5.heap.size := by simp
  have hs5 := hb.size
  have hs8 := hX.size
  rw [hs6] at hs8
  have hbB := block_lt_of_heap hd.box
  have hgr := good_remove hd.two.good k
  have hnum : ∀ e ∈ (putR size (removeR size R1 k) k' (.int .u64 x)).flatten, U.NumV e.v := by
    rw [← put_flat hgr, ← rem_flat hd.two.good]
    exact putGo_num (remGo_num hd.two.num)
  rw [rem_flat hd.two.good, put_flat hgr] at hown
  have hg : ∀ g, v5.ownBlock = some g → Wd.heap.size ≤ g ∧ g < W5.heap.size := fun g e => ⟨Nat.le_trans hBk (hown.lt g e).1, owns_lt hown e⟩
  obtain ⟨hB1, hB2⟩ := hlim bx hM6.sx
  have hrow : W8.ownsRow B 60 3 v5 (putR size (removeR size R1 k) k' (.int .u64 x)).flatten.length (cellsOf (putR size (removeR size R1 k) k' (.int .u64 x)).flatten) :=
    owns_base (owns_of_block hown fun g e => by
      obtain ⟨o, ho, -⟩ := owns_cells hown e
      have hgg := (hg g e).1
      rw [ho]
      exact hX.heap (heap_set_ne _ ho (by omega)) fun hz => by have := (hlim g hz).2; omega) fun g e => by have := (hg g e).1; omega
  have htot : total (putR size (removeR size R1 k) k' (.int .u64 x)) ≤ tt + 1 := by
    have h1 := total_put_le (size := size) (removeR size R1 k) k' (.int .u64 x)
    have h2 := total_flat (removeR size R1 k)
    rw [← rem_flat hd.two.good] at h2
    have h3 := remGo_length k R1.flatten
    have h4 := total_flat R1
    have := hd.tot
    omega
  have hbl : Below w.heap.size w (W5.setCell ⟨bB, 0, none⟩ v5) := hd5.below.setCell (p := ⟨bB, 0, none⟩) hd.bw v5
  refine ⟨fun j => (Z j ∨ W5.heap.size ≤ j) ∧ j < W8.heap.size, fun j h => h.1, ⟨⟨vr8, pvs8, hM8.str, hM8.rows, hM8.pages, ⟨hS _ hM8.sx, block_lt_of_heap hM8.str⟩, fun k hk => ⟨⟨hS _ (hM8.sr k hk).1, owns_lt hM8.rows hk⟩, (hM8.sr k hk).2⟩,
      fun i hi k hk => ⟨⟨hS _ (hM8.sp i hi k hk).1, owns_lt (hM8.pages i hi).row hk⟩, (hM8.sp i hi k hk).2⟩⟩, fun j h => ⟨h.1.elim (fun z => (hlim j z).1) (fun z => by omega), h.2⟩, hgr.put h4 _ _, hnum, hrow,
      fun g e hz => hz.1.elim (fun z => by have := (hlim g z).2; have := (hg g e).1; omega) (fun z => by have := (hg g e).2; omega), hnum⟩, htot, fun y hy => hX.heap (heap_set_ne _ (hd5.held y hy) (hd.bL y hy)) (hd.off y hy),
      fun y hy hz => hz.1.elim (hd.off y hy) (fun z => by have := hd5.held.lt y hy; omega), hX.heap (heap1_set v5 hd5.box) hd.boff, fun hz => hz.1.elim hd.boff (fun z => by omega), hd.bL, hd.bw, nn_put hgr (nn_rem hd.two.good hd.nn k) _ _ hk,
      hbl.trans (hX.to_belowAt hbl.size fun j hj hz => by have := (hlim j hz).1; omega)⟩
theorem keepW_step {bx n bB size : Nat} {T : Nat → Prop} {W Wd W5 W8 : World} {v5 vr8 : Value} {pvs8 : List Value} {R8 : List (List Ent)} {S8 : Nat → Prop} (hKd : KeepW bx n T W Wd) (h0 : WInv bx n W) (hT : ∀ k, T k → k < n) (hb : Below Wd.heap.size Wd W5)
    (hbB : T bB) (hne : bB ≠ bx) (h : Turned bx (W5.setCell ⟨bB, 0, none⟩ v5) W8) (hM8 : U.MemV W8 bx size R8 S8 vr8 pvs8) : KeepW bx n T W W8 :=
  (keepW_set' (hKd.trans (KeepP.below (guard_W hT) (hKd.inv h0) hb)) v5 (.inl hbB) hne).trans (h.keep hM8)
theorem keepsFrom_turned {bx size : Nat} {W W' : World} {R : List (List Ent)} {S : Nat → Prop} {vr : Value} {pvs : List Value} (h : Turned bx W W') (hM : U.MemV W bx size R S vr pvs) (n : Nat) : KeepsFrom n W W' :=
  ⟨h.ext.size, fun k o _ ho hc => h.ext.heap ho fun hz => by
    rcases hz with rfl | ⟨v, e1, e2⟩
    · rw [hM.str] at ho; injection ho with ho; subst ho; cases hc
    · rw [hM.cells.2.2] at e1
      injection e1 with e1
      subst e1
      obtain ⟨o', ho', hc'⟩ := owns_cells hM.rows e2
      rw [ho'] at ho; injection ho with ho; subst ho; rw [hc'] at hc; cases hc⟩
/-- a block of two words is none that a call on the index writes -/
theorem box2_off {bx size b : Nat} {W : World} {R : List (List Ent)} {S : Nat → Prop} {vr : Value} {pvs : List Value} (hM : U.MemV W bx size R S vr pvs) {x y : Value} (hb : W.heap[b]? = some (.cells #[x, y] 38 (0, 0))) : ¬ WrW W bx b := by
  rintro (rfl | ⟨v, e1, e2⟩)
  · rw [hM.str] at hb; injection hb with hb; injection hb with hb; simp at hb
  · rw [hM.cells.2.2] at e1
    injection e1 with e1
    subst e1
    rcases hM.rows.2 with ⟨rfl, _⟩ | ⟨g, cap, cur, rfl, _, hh, _⟩
    · cases e2
    · injection e2 with e2
      subst e2
      rw [hb] at hh
      injection hh with hh
      injection hh with _ hh
      exact absurd hh (by decide)

/-- within a round: the loop over the iterator that falls; only its counter turns -/
structure Inn (B bx size tt bB b17 b18 b21 n1 : Nat) (T : Nat → Prop) (L : List (Nat × Obj)) (R : List (List Ent)) (bv : Value) (Z : Nat → Prop) (v17 v18 : Value) (w W : World) (v21 : Value) (W2 : World) : Prop where
  mid : Mid B bx size tt bB L R bv Z w W2
  c17 : W2.heap[b17]? = some (.cells #[v17] 3 (0, 0))
  c18 : W2.heap[b18]? = some (.cells #[v18] 3 (0, 0))
  c21 : W2.heap[b21]? = some (.cells #[v21] 3 (0, 0))
  kw : KeepW bx n1 T W W2
  kf : KeepsFrom n1 W W2
theorem Inn.below {B bx size tt bB b17 b18 b21 n1 : Nat} {T : Nat → Prop} {L : List (Nat × Obj)} {R : List (List Ent)} {bv : Value} {Z : Nat → Prop} {v17 v18 : Value} {w W : World} {v21 : Value} {W2 W3 : World} (h : Inn B bx size tt bB b17 b18 b21 n1 T L R bv Z v17 v18 w W v21 W2)
    (hT : ∀ k, T k → k < n1) (h0 : WInv bx n1 W) (hb : Below W2.heap.size W2 W3) : Inn B bx size tt bB b17 b18 b21 n1 T L R bv Z v17 v18 w W v21 W3 :=
  ⟨h.mid.below' hb, below_heap hb h.c17, below_heap hb h.c18, below_heap hb h.c21, h.kw.trans (KeepP.below (guard_W hT) (h.kw.inv h0) hb), h.kf.trans ((keepsOthers_below hb).from _)⟩
theorem Inn.own {α : Type} {B bx size tt bB b17 b18 b21 n1 z : Nat} {T : Nat → Prop} {L : List (Nat × Obj)} {R : List (List Ent)} {bv : Value} {Z : Nat → Prop} {v17 v18 : Value} {w W : World} (v : α → Value) (hT : ∀ k, T k → k < n1) (hL : ∀ x ∈ L, x.1 < z) (hw : w.heap.size ≤ z) (hz : W.heap.size ≤ z) :
    OwnFrom z (fun pre W2 => Inn B bx size tt bB b17 b18 b21 n1 T L R bv Z v17 v18 w W (v pre) W2) := fun pre A C row h hg hr =>
  ⟨h.mid.own hL hw hg hr, heap_keep h.c17 rfl hg fun r e => (hr r e).2, heap_keep h.c18 rfl hg fun r e => (hr r e).2, heap_keep h.c21 rfl hg fun r e => (hr r e).2, h.kw.trans ((guard_W hT).grown A C row hg fun r e => (hr r e).2),
    ownFrom_keepsFrom (β := α) hz pre A C row h.kf hg hr⟩
theorem Inn.set {B bx size tt bB b17 b18 b21 n1 : Nat} {T : Nat → Prop} {L : List (Nat × Obj)} {R : List (List Ent)} {bv : Value} {Z : Nat → Prop} {v17 v18 : Value} {w W : World} {v21 : Value} {W2 : World} (h : Inn B bx size tt bB b17 b18 b21 n1 T L R bv Z v17 v18 w W v21 W2)
    (hz : ¬ Z b21) (hL : ∀ x ∈ L, x.1 ≠ b21) (hB : bB ≠ b21) (h17 : b17 ≠ b21) (h18 : b18 ≠ b21) (hw : w.heap.size ≤ b21) (hW : W.heap.size ≤ b21) (hbx : b21 ≠ bx) (u : Value) : Inn B bx size tt bB b17 b18 b21 n1 T L R bv Z v17 v18 w W u (W2.setCell ⟨b21, 0, none⟩ u) :=
  ⟨h.mid.set u hz (row_off h.mid.two.row (by decide) h.c21) hL hB hw, heap_set_ne _ h.c17 h17, heap_set_ne _ h.c18 h18, heap1_set u h.c21, keepW_set' h.kw u (.inr hW) hbx, h.kf.trans ((KeepsOthers.setCell _ _ _).from _)⟩

/-- which entry comes next, falling -/
theorem down_next {F : List Ent} {c : Nat} (hc : c ≤ F.length) {pre : List Ev} {x : Ev} (h : pre ++ [x] <+: evs (F.take c).reverse) : pre.length < c ∧ x = ⟨(ent F (c - 1 - pre.length)).k, numOf (ent F (c - 1 - pre.length)).v⟩ := by
  have hp : pre <+: evs (F.take c).reverse := (List.prefix_append pre [x]).trans h
  have h1 := h.length_le
  have hl : (F.take c).length = c := by rw [List.length_take]; omega
  rw [evs_length, List.length_reverse, hl, List.length_append, List.length_singleton] at h1
  have h2 := (pre_snoc hp).1 h
  rw [evs_get (by rw [List.length_reverse, hl]; omega)] at h2
  have e : ent (F.take c).reverse pre.length = ent F (c - 1 - pre.length) := by
    unfold ent
    rw [List.getD_eq_getElem?_getD, List.getD_eq_getElem?_getD, List.getElem?_reverse (by rw [hl]; omega), hl, List.getElem?_take, if_pos (by omega)]
  rw [e] at h2
  injection h2 with h2
  exact ⟨by omega, h2.symm⟩
/-- one more than what a counter says, and never below none -/
def cellP (w : World) (b : Nat) : Nat := match w.cell? ⟨b, 0, none⟩ with | some (.int _ n) => (n + 1).toNat | _ => 0
theorem cellP_eq {w : World} {b : Nat} {k : IntKind} {n : Int} (h : w.cell? ⟨b, 0, none⟩ = some (.int k n)) : cellP w b = (n + 1).toNat := by simp [cellP, h]
theorem wpIn_hideK {F : Fence} {n : Nat} {P : Program} {c : Code} {K : Act → World → Prop} {Q : Exit → Act → World → Prop} {a : Act} {w : World}
    (h : ∀ K' : Act → World → Prop, (∀ a w, K a w → K' a w) → c.wpIn F n P (Exit.then K' Q) a w) : c.wpIn F n P (Exit.then K Q) a w := h K (fun _ _ q => q)
end Go.Proofs.Ytagcohpghgnalaa.SO
