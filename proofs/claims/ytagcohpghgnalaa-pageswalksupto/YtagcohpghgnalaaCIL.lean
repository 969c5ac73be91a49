/-
  Least: the first entry that the iterator from a stamp on gives.
-/
import Derived.Test.YtagcohpghgnalaaCIT
import Derived.Test.YtagcohpghgnalaaCRGI
set_option linter.unusedSimpArgs false
set_option linter.unusedVariables false
namespace Go.Proofs.Ytagcohpghgnalaa.U
open Go.RowKit Go.RG Go.Hp Go.Pg Go.Shelf Go.Proofs.Ytagcohpghgnalaa
attribute [local go_sem] Oper.semAt_some


/-- the first of what an iterator gives, as Least and Greatest tell it -/
def firstOf : List Ev → Array Value
  | [] => #[.agg #[.int .u64 0, .int .u64 0], .int .u64 0, .bool false]
  | x :: _ => #[.agg #[.int .u64 x.k.t, .int .u64 x.k.s], .int .u64 x.n, .bool true]

set_option maxHeartbeats 1000000 in
set_option maxRecDepth 100000 in
theorem least_any (bx size : Nat) (h0s : 0 < size) (R : List (List Ent)) (hm : R.length ≤ 274877906944) (hO : Ordered R) (hl : ∀ i, i < R.length → (pageAt R i).length ≤ 64) (hN : ∀ e ∈ R.flatten, NumV e.v) (s : St)
    (S : Nat → Prop) (vr : Value) (pvs : List Value) (w : World) (hM : MemV w bx size R S vr pvs) :
    Calls Try.prog 41 #[.pointer (some ⟨bx, 0, none⟩), s.v] w fun e w' => e = .returned (.tuple (firstOf (evs (behind' R s)))) ∧ Below w.heap.size w w' := by
  have HM := Lib.hid hM; clear hM
  have hUp := up_call (some ⟨bx, 0, none⟩) s
  unfold St.v at hUp ⊢
  have HUp := Lib.hid hUp; clear hUp
  refine (callsIn_wide (n := 3)).1 ?_
  refine callsIn_of_wp_marks Try.func41 rfl trivial ?_ rfl
  simp only [Try.ntmps41, List.size_toArray, List.length_cons, List.length_nil, Nat.reduceAdd, Nat.reduceSub, Array.replicate_succ, Array.replicate_zero, List.push_toArray, List.append_toArray, List.nil_append, List.cons_append]
  gi_wp2_with fail
  refine ⟨trivial, callsIn_wide.2 ((HUp.out _).mono ?_)⟩
  rintro e w' ⟨rfl, rfl⟩
  gi_wp2_with fail
  have hsz : ((((((w.alloc (.cells #[.int .u64 s.t, .int .u64 s.s] 38)).alloc (.cells #[.int .u64 0, .int .u64 0] 38)).alloc (.cells #[.int .u64 0] 32)).alloc (.cells #[.bool false] 4)).alloc (.cells #[.pointer (some ⟨bx, 0, none⟩)] 29)).alloc (.cells #[.int .u64 s.t, .int .u64 s.s] 38)).heap.size = w.heap.size + 6 := by simp
  obtain ⟨W0, hW0⟩ : ∃ W0, (((((w.alloc (.cells #[.int .u64 s.t, .int .u64 s.s] 38)).alloc (.cells #[.int .u64 0, .int .u64 0] 38)).alloc (.cells #[.int .u64 0] 32)).alloc (.cells #[.bool false] 4)).alloc (.cells #[.pointer (some ⟨bx, 0, none⟩)] 29)).alloc (.cells #[.int .u64 s.t, .int .u64 s.s] 38) = W0 := ⟨_, rfl⟩
  have hB0 : Below w.heap.size w W0 := by rw [← hW0]; exact (((((below_box w _).alloc (by simp) _).alloc (by simp; omega) _).alloc (by simp; omega) _).alloc (by simp; omega) _).alloc (by simp; omega) _
  have g1 : W0.heap[w.heap.size + 1]? = some (.cells #[.int .u64 0, .int .u64 0] 38 (0, 0)) := by
    rw [← hW0, heap_alloc_ne _ _ _ (by simp), heap_alloc_ne _ _ _ (by simp), heap_alloc_ne _ _ _ (by simp), heap_alloc_ne _ _ _ (by simp)]
    have := World.alloc_heap_new (w.alloc (.cells #[.int .u64 s.t, .int .u64 s.s] 38)) (.cells #[.int .u64 0, .int .u64 0] 38)
    rwa [World.size_alloc] at this
  have g2 : W0.heap[w.heap.size + 1 + 1]? = some (.cells #[.int .u64 0] 32 (0, 0)) := by
    rw [← hW0, heap_alloc_ne _ _ _ (by simp), heap_alloc_ne _ _ _ (by simp), heap_alloc_ne _ _ _ (by simp)]
    have := World.alloc_heap_new ((w.alloc (.cells #[.int .u64 s.t, .int .u64 s.s] 38)).alloc (.cells #[.int .u64 0, .int .u64 0] 38)) (.cells #[.int .u64 0] 32)
    rwa [World.size_alloc, World.size_alloc] at this
  have g3 : W0.heap[w.heap.size + 1 + 1 + 1]? = some (.cells #[.bool false] 4 (0, 0)) := by
    rw [← hW0, heap_alloc_ne _ _ _ (by simp), heap_alloc_ne _ _ _ (by simp)]
    have := World.alloc_heap_new (((w.alloc (.cells #[.int .u64 s.t, .int .u64 s.s] 38)).alloc (.cells #[.int .u64 0, .int .u64 0] 38)).alloc (.cells #[.int .u64 0] 32)) (.cells #[.bool false] 4)
    rwa [World.size_alloc, World.size_alloc, World.size_alloc] at this
  have g4 : W0.heap[w.heap.size + 1 + 1 + 1 + 1]? = some (.cells #[.pointer (some ⟨bx, 0, none⟩)] 29 (0, 0)) := by
    rw [← hW0, heap_alloc_ne _ _ _ (by simp)]
    have := World.alloc_heap_new ((((w.alloc (.cells #[.int .u64 s.t, .int .u64 s.s] 38)).alloc (.cells #[.int .u64 0, .int .u64 0] 38)).alloc (.cells #[.int .u64 0] 32)).alloc (.cells #[.bool false] 4)) (.cells #[.pointer (some ⟨bx, 0, none⟩)] 29)
    rwa [World.size_alloc, World.size_alloc, World.size_alloc, World.size_alloc] at this
  have g5 : W0.heap[w.heap.size + 1 + 1 + 1 + 1 + 1]? = some (.cells #[.int .u64 s.t, .int .u64 s.s] 38 (0, 0)) := by
    rw [← hW0]
    have := World.alloc_heap_new (((((w.alloc (.cells #[.int .u64 s.t, .int .u64 s.s] 38)).alloc (.cells #[.int .u64 0, .int .u64 0] 38)).alloc (.cells #[.int .u64 0] 32)).alloc (.cells #[.bool false] 4)).alloc (.cells #[.pointer (some ⟨bx, 0, none⟩)] 29)) (.cells #[.int .u64 s.t, .int .u64 s.s] 38)
    rwa [World.size_alloc, World.size_alloc, World.size_alloc, World.size_alloc, World.size_alloc] at this
  rw [hW0] at hsz ⊢
  clear hW0
  have HM0 := Lib.hid (HM.out.below hB0)
  refine wpIn_rangeFunc_ownH (F := Fence.wide) rfl (by decide) (gf := 75) (lb := #[.pointer (some ⟨w.heap.size + 1 + 1 + 1 + 1, 0, none⟩), .pointer (some ⟨w.heap.size + 1 + 1 + 1 + 1 + 1, 0, none⟩)]) rfl trivial (enters_of Try.func75 (by kernel_rfl) rfl)
    (up_seq 2 bx size h0s R hm hO hl hN s S vr pvs (w.heap.size + 1 + 1 + 1 + 1) (w.heap.size + 1 + 1 + 1 + 1 + 1) W0.heap.size W0 HM0.out (by simp [World.cell?, g4]) (by simp [World.cell?, g5]) (by simp [World.cell?, g5])
      (fun _ => False) (fun _ h => h.elim) (Nat.le_refl _) (fun _ _ h => h)) (fun h k => h.trans k) (fun W l o o' h1 h2 h3 h4 => KeepC.putObj W l o o' h1 h2 h3 h4) (Below.refl _ _) (fun _ => rfl)
    (fun pre W => (pre = [] ∧ W.heap[w.heap.size + 1]? = some (.cells #[.int .u64 0, .int .u64 0] 38 (0, 0)) ∧ W.heap[w.heap.size + 1 + 1]? = some (.cells #[.int .u64 0] 32 (0, 0)) ∧ W.heap[w.heap.size + 1 + 1 + 1]? = some (.cells #[.bool false] 4 (0, 0))) ∧ Below w.heap.size w W)
    (fun c pre W => (c = .ret ∧ ∃ x, pre = [x] ∧ W.heap[w.heap.size + 1]? = some (.cells #[.int .u64 x.k.t, .int .u64 x.k.s] 38 (0, 0)) ∧ W.heap[w.heap.size + 1 + 1]? = some (.cells #[.int .u64 x.n] 32 (0, 0)) ∧ W.heap[w.heap.size + 1 + 1 + 1]? = some (.cells #[.bool true] 4 (0, 0))) ∧ Below w.heap.size w W)
    (OwnFrom.and (fun pre A B row hs hg hr => ⟨hs.1, heap_keep hs.2.1 rfl hg fun r e => (hr r e).2, heap_keep hs.2.2.1 rfl hg fun r e => (hr r e).2, heap_keep hs.2.2.2 rfl hg fun r e => (hr r e).2⟩) (ownFrom_below (Nat.le_refl _) (by omega)))
    (fun c => OwnFrom.and (fun pre A B row hs hg hr => by
      obtain ⟨h1, x, h2, h3, h4, h5⟩ := hs
      exact ⟨h1, x, h2, heap_keep h3 rfl hg fun r e => (hr r e).2, heap_keep h4 rfl hg fun r e => (hr r e).2, heap_keep h5 rfl hg fun r e => (hr r e).2⟩) (ownFrom_below (Nat.le_refl _) (by omega)))
    ⟨⟨rfl, g1, g2, g3⟩, hB0⟩
    (fun x a' W => ∃ B7, W.heap[B7]? = some (.cells #[.int .u64 x.k.t, .int .u64 x.k.s] 38 (0, 0)) ∧ a' = { tmps := #[.pointer (some ⟨bx, 0, none⟩), .agg #[.int .u64 s.t, .int .u64 s.s], undef, .pointer (some ⟨w.heap.size, 0, none⟩), .pointer (some ⟨w.heap.size + 1, 0, none⟩), .pointer (some ⟨w.heap.size + 1 + 1, 0, none⟩), .pointer (some ⟨w.heap.size + 1 + 1 + 1, 0, none⟩), .pointer (some ⟨B7, 0, none⟩), .int .u64 x.n, undef, .pointer (some ⟨bx, 0, none⟩), .agg #[.int .u64 s.t, .int .u64 s.s],
        .func (.func 75) #[] #[.pointer (some ⟨w.heap.size + 1 + 1 + 1 + 1, 0, none⟩), .pointer (some ⟨w.heap.size + 1 + 1 + 1 + 1 + 1, 0, none⟩)], .agg #[.int .u64 x.k.t, .int .u64 x.k.s], .int .u64 x.n, undef, undef, undef, undef], defers := [] })
    (fun x a' _ A B row hs hg hr => by obtain ⟨B7, h1, h2⟩ := hs; exact ⟨B7, heap_keep h1 rfl hg fun r e => (hr r e).2, h2⟩)
    ?assign ?body ?done ?stop
  case assign =>
    rintro l pre x W K ⟨⟨h1, h2, h3, h4⟩, hB1⟩ hK
    gi_wp2_with fail
    exact hK _ _ ((KeepsOthers.alloc _ _).from _) (KeepC.below (below_box _ _)) ⟨⟨h1, heap_alloc_old _ h2, heap_alloc_old _ h3, heap_alloc_old _ h4⟩, hB1.alloc hB1.size _⟩ ⟨W.heap.size, World.alloc_heap_new W _, rfl⟩
  case body =>
    rintro l pre x a' W hl ⟨r, hr⟩ ⟨⟨rfl, h2, h3, h4⟩, hB1⟩ ⟨B7, h7, rfl⟩ hlt
    obtain ⟨k0, k1, -, -⟩ := heap2 h7
    obtain ⟨k2, k3, k4, k5⟩ := heap2 h2
    obtain ⟨k6, k7⟩ := heap1 h3
    obtain ⟨k8, k9⟩ := heap1 h4
    gi_wp2_with fail
    have hz := hB1.size
    exact ⟨((((KeepsOthers.setCell _ _ _).trans (KeepsOthers.setCell _ _ _)).trans (KeepsOthers.setCell _ _ _)).trans (KeepsOthers.setCell _ _ _)).from _,
      ⟨rfl, x, rfl, heap_set_ne _ (heap_set_ne _ (heap2_set1 _ (heap2_set0 _ h2)) (by omega)) (by omega), heap_set_ne _ (heap1_set _ (heap_set_ne _ (heap_set_ne _ h3 (by omega)) (by omega))) (by omega),
        heap1_set _ (heap_set_ne _ (heap_set_ne _ (heap_set_ne _ h4 (by omega)) (by omega)) (by omega))⟩,
      (((hB1.setCell (p := ⟨w.heap.size + 1, 0, none⟩) (by simp) _).setCell (p := ⟨w.heap.size + 1, 1, none⟩) (by simp) _).setCell (p := ⟨w.heap.size + 1 + 1, 0, none⟩) (by simp; omega) _).setCell (p := ⟨w.heap.size + 1 + 1 + 1, 0, none⟩) (by simp; omega) _⟩
  case done =>
    rintro D zs W hD rfl ⟨⟨h1, h2, h3, h4⟩, hB1⟩ hK
    obtain ⟨k2, k3, k4, k5⟩ := heap2 h2
    obtain ⟨k6, k7⟩ := heap1 h3
    obtain ⟨k8, k9⟩ := heap1 h4
    gi_wp2_with fail
    have hBl := (((hB1.setCell (p := ⟨w.heap.size + 1, 0, none⟩) (by simp) (.int .u64 0)).setCell (p := ⟨w.heap.size + 1, 1, none⟩) (by simp) (.int .u64 0)).setCell (p := ⟨w.heap.size + 1 + 1, 0, none⟩) (by simp; omega) (.int .u64 0)).setCell (p := ⟨w.heap.size + 1 + 1 + 1, 0, none⟩) (by simp; omega) (.bool false)
    have hK' := ((((KeepsOthers.setCell W ⟨w.heap.size + 1, 0, none⟩ (.int .u64 0)).trans (KeepsOthers.setCell _ ⟨w.heap.size + 1, 1, none⟩ (.int .u64 0))).trans (KeepsOthers.setCell _ ⟨w.heap.size + 1 + 1, 0, none⟩ (.int .u64 0))).trans (KeepsOthers.setCell _ ⟨w.heap.size + 1 + 1 + 1, 0, none⟩ (.bool false))).same D _ hK rfl
    have e1 := heap_set_ne (c := w.heap.size + 1 + 1 + 1) (i := 0) (.bool false) (heap_set_ne (c := w.heap.size + 1 + 1) (i := 0) (.int .u64 0) (heap2_set1 (.int .u64 0) (heap2_set0 (.int .u64 0) h2)) (by omega)) (by omega)
    have e2 := heap_set_ne (c := w.heap.size + 1 + 1 + 1) (i := 0) (.bool false) (heap1_set (.int .u64 0) (heap_set_ne (c := w.heap.size + 1) (i := 1) (.int .u64 0) (heap_set_ne (c := w.heap.size + 1) (i := 0) (.int .u64 0) h3 (by omega)) (by omega))) (by omega)
    have e3 := heap1_set (.bool false) (heap_set_ne (c := w.heap.size + 1 + 1) (i := 0) (.int .u64 0) (heap_set_ne (c := w.heap.size + 1) (i := 1) (.int .u64 0) (heap_set_ne (c := w.heap.size + 1) (i := 0) (.int .u64 0) h4 (by omega)) (by omega)) (by omega))
    obtain ⟨f1, f2, -, -⟩ := heap2 (heap_put (.deferred none) e1 rfl hK' rfl)
    obtain ⟨f3, -⟩ := heap1 (heap_put (.deferred none) e2 rfl hK' rfl)
    obtain ⟨f4, -⟩ := heap1 (heap_put (.deferred none) e3 rfl hK' rfl)
    refine ⟨by simp, .inl ⟨_, _, rfl, run_takeDeferred hK', ?_⟩⟩
    refine ⟨.tuple (firstOf (evs (behind' R s))), ?_, rfl, hBl.trans (belowK_b (w := w) (Nat.le_refl _) _ D _ _ (by omega) hK' rfl rfl)⟩
    rw [h1]
    simp [results, Try.f41, go_sem, f1, f2, f3, f4, firstOf]
  case stop =>
    rintro D c pre W hD hpre ⟨⟨rfl, x, rfl, h2, h3, h4⟩, hB1⟩ hK
    gi_wp2_with fail
    obtain ⟨f1, f2, -, -⟩ := heap2 (heap_put (.deferred none) h2 rfl hK rfl)
    obtain ⟨f3, -⟩ := heap1 (heap_put (.deferred none) h3 rfl hK rfl)
    obtain ⟨f4, -⟩ := heap1 (heap_put (.deferred none) h4 rfl hK rfl)
    refine ⟨by simp, .inl ⟨_, _, rfl, run_takeDeferred hK, ?_⟩⟩
    refine ⟨.tuple (firstOf (evs (behind' R s))), ?_, rfl, hB1.trans (belowK_b (w := w) (Nat.le_refl _) _ D _ _ (by omega) hK rfl rfl)⟩
    obtain ⟨rest, hrest⟩ := hpre
    rw [← hrest]
    simp [results, Try.f41, go_sem, f1, f2, f3, f4, firstOf]
end Go.Proofs.Ytagcohpghgnalaa.U
