/-
  along: what the iterator of Down tells, up to so many entries.
-/
import Derived.Test.YtagcohpghgnalaaCQA
import Derived.Test.YtagcohpghgnalaaCSM
import Derived.Test.YtagcohpghgnalaaCGQ2
set_option linter.unusedSimpArgs false
set_option linter.unusedVariables false
namespace Go.Proofs.Ytagcohpghgnalaa.QA
open Go.RowKit Go.RG Go.Hp Go.Pg Go.Shelf Go.Proofs.Ytagcohpghgnalaa Go.Proofs.Ytagcohpghgnalaa.RF Go.Proofs.Ytagcohpghgnalaa.U Go.Proofs.Ytagcohpghgnalaa.LB
attribute [local go_sem] Oper.semAt_some


set_option maxHeartbeats 2000000 in
set_option maxRecDepth 100000 in
theorem along_Down (p : Option Addr) (o : Opd) (hk : o.kind = 10) (hv : 0 ≤ o.v ∧ o.v < 18446744073709551616) (E : List Ev) (w : World) (hE : SeqAt 77 p o.s E w) :
    Calls Try.prog 83 #[.pointer p, .agg #[.int .i64 o.kind, .int .u64 o.s.t, .int .u64 o.s.s, .int .u64 o.v]] w (AlongPost w E (o.v % 64).toNat) := by
  obtain ⟨ok, os, ov⟩ := o
  have hk : ok = 10 := hk
  have hv : 0 ≤ ov ∧ ov < 18446744073709551616 := hv
  obtain ⟨hv1, hv2⟩ := hv
  obtain ⟨m, hm⟩ : ∃ m : Nat, ov % 64 = (m : Int) := ⟨(ov % 64).toNat, by omega⟩
  have hm2 : (ov % 64).toNat = m := by omega
  have hm3 : m < 64 := by omega
  simp only [hm2]
  clear hm2
  subst hk
  clear hk
  have hUp := up_call p os
  unfold St.v at hUp
  have HUp := Lib.hid hUp; clear hUp
  have hDn := down_call p os
  unfold St.v at hDn
  have HDn := Lib.hid hDn; clear hDn
  have HE := Lib.hid hE; clear hE
  have hEq := U.eql_fn
  have HBb := Lib.hid (fun (W0 : World) => (allocs_below w (B := w.heap.size) [.cells #[.int .i64 10, .int .u64 os.t, .int .u64 os.s, .int .u64 ov] 40, .cells #[.slice none 0 0] 76, .cells #[.int .i64 m] 3, .cells #[.pointer p] 29, .cells #[.int .u64 os.t, .int .u64 os.s] 38, .cells #[.pointer p] 29, .cells #[.int .u64 os.t, .int .u64 os.s] 38] w (Below.refl _ _) (Nat.le_refl _)))
  refine (callsIn_wide (n := 3)).1 ?_
  refine callsIn_of_wp_marks Try.func83 rfl trivial ?_ rfl
  simp only [Try.ntmps83, List.size_toArray, List.length_cons, List.length_nil, Nat.reduceAdd, Nat.reduceSub, Array.replicate_succ, Array.replicate_zero, List.push_toArray, List.append_toArray, List.nil_append, List.cons_append]
  gi_wp2_with fail
  refine ⟨trivial, callsIn_wide.2 ((HUp.out _).mono ?_)⟩
  rintro e w' ⟨rfl, rfl⟩
  (gi_wp2_with fail; refine ⟨trivial, callsIn_wide.2 ((HDn.out _).mono ?_)⟩; rintro e w' ⟨rfl, rfl⟩)
  by_cases h0 : m = 0
  · subst h0
    gi_wp2_with fail
    refine ⟨.slice none 0 0, by simp [results, Try.f83, go_sem], _, rfl, ?_, HBb.out w⟩
    rw [List.take_zero]
    exact World.ownsRow_nil _ _ _ _
  · have hm0 : ((m : Int) == 0) = false := by rw [beq_eq_false_iff_ne]; omega
    gi_wp2_with fail
    obtain ⟨W0, hW0⟩ : ∃ W0, W0 = allocs w [.cells #[.int .i64 10, .int .u64 os.t, .int .u64 os.s, .int .u64 ov] 40, .cells #[.slice none 0 0] 76, .cells #[.int .i64 m] 3, .cells #[.pointer p] 29, .cells #[.int .u64 os.t, .int .u64 os.s] 38, .cells #[.pointer p] 29, .cells #[.int .u64 os.t, .int .u64 os.s] 38, .cells #[.int .i64 0] 3] := ⟨_, rfl⟩
    have hB0 : Below w.heap.size w W0 := by rw [hW0]; exact allocs_below w _ w (Below.refl _ _) (Nat.le_refl _)
    have hsz : W0.heap.size = w.heap.size + 1 + 1 + 1 + 1 + 1 + 1 + 1 + 1 := by rw [hW0, allocs_size]; rfl
    have g1 : W0.heap[w.heap.size + 1]? = some (.cells #[.slice none 0 0] 76 (0, 0)) := by rw [hW0]; exact allocs_get _ w 1 _ rfl
    have g2 : W0.heap[w.heap.size + 1 + 1]? = some (.cells #[.int .i64 m] 3 (0, 0)) := by rw [hW0]; exact allocs_get _ w 2 _ rfl
    have g3 : W0.heap[w.heap.size + 1 + 1 + 1 + 1 + 1]? = some (.cells #[.pointer p] 29 (0, 0)) := by rw [hW0]; exact allocs_get _ w 5 _ rfl
    have g4 : W0.heap[w.heap.size + 1 + 1 + 1 + 1 + 1 + 1]? = some (.cells #[.int .u64 os.t, .int .u64 os.s] 38 (0, 0)) := by rw [hW0]; exact allocs_get _ w 6 _ rfl
    have g5 : W0.heap[w.heap.size + 1 + 1 + 1 + 1 + 1 + 1 + 1]? = some (.cells #[.int .i64 0] 3 (0, 0)) := by rw [hW0]; exact allocs_get _ w 7 _ rfl
    unfold allocs at hW0
    simp only [List.foldl_cons, List.foldl_nil] at hW0
    rw [← hW0]
    clear hW0
    refine wpIn_range_own (F := Fence.wide) rfl (by decide) (gf := 77) (lb := #[.pointer (some ⟨w.heap.size + 1 + 1 + 1 + 1 + 1, 0, none⟩), .pointer (some ⟨w.heap.size + 1 + 1 + 1 + 1 + 1 + 1, 0, none⟩)]) rfl trivial (enters_of Try.func77 (by kernel_rfl) rfl)
      (HE.out W0 (w.heap.size + 1 + 1 + 1 + 1 + 1) (w.heap.size + 1 + 1 + 1 + 1 + 1 + 1) (w.heap.size + 1) (w.heap.size + 1 + 1 + 1 + 1 + 1 + 1 + 1) hB0 (by omega) (by omega) (by simp [World.cell?, g3]) (by simp [World.cell?, g4]) (by simp [World.cell?, g4]) g1 (by omega))
      (fun h k => h.trans k) kpL_put (Below.refl _ _) (fun _ => rfl)
      (fun pre W => LI w W0.heap.size (w.heap.size + 1) (w.heap.size + 1 + 1 + 1 + 1 + 1 + 1 + 1) (w.heap.size + 1 + 1) m pre W ∧ pre.length < m)
      (fun c pre W => LI w W0.heap.size (w.heap.size + 1) (w.heap.size + 1 + 1 + 1 + 1 + 1 + 1 + 1) (w.heap.size + 1 + 1) m pre W ∧ c = .exit 0 ∧ pre.length = m)
      (fun pre A B row hs hg hr => ⟨LI.own (by omega) pre A B row hs.1 hg hr, hs.2⟩)
      (fun c pre A B row hs hg hr => ⟨LI.own (by omega) pre A B row hs.1 hg hr, hs.2⟩)
      ⟨⟨⟨_, g1, World.ownsRow_nil _ _ _ _, g5, g2⟩, hB0⟩, by show 0 < m; omega⟩
      (fun x a' W => ∃ B9, W.heap[B9]? = some (.cells #[.int .u64 x.k.t, .int .u64 x.k.s] 38 (0, 0)) ∧ a' = { tmps := #[.pointer p, .agg #[.int .i64 10, .int .u64 os.t, .int .u64 os.s, .int .u64 ov], undef, .pointer (some ⟨w.heap.size, 0, none⟩), .slice none 0 0, .pointer (some ⟨w.heap.size + 1, 0, none⟩), .pointer (some ⟨w.heap.size + 1 + 1, 0, none⟩),
          .func (.func 77) #[] #[.pointer (some ⟨w.heap.size + 1 + 1 + 1 + 1 + 1, 0, none⟩), .pointer (some ⟨w.heap.size + 1 + 1 + 1 + 1 + 1 + 1, 0, none⟩)], .pointer (some ⟨w.heap.size + 1 + 1 + 1 + 1 + 1 + 1 + 1, 0, none⟩), .pointer (some ⟨B9, 0, none⟩), .int .u64 x.n,
          .pointer (some ⟨w.heap.size, 3, none⟩), .int .u64 ov, .int .u64 m, .int .i64 m, .pointer p, .pointer (some ⟨w.heap.size, 1, none⟩), .agg #[.int .u64 os.t, .int .u64 os.s], .func (.func 75) #[] #[.pointer (some ⟨w.heap.size + 1 + 1 + 1, 0, none⟩), .pointer (some ⟨w.heap.size + 1 + 1 + 1 + 1, 0, none⟩)],
          .pointer (some ⟨w.heap.size, 0, none⟩), .int .i64 10, .bool true, .pointer p, .pointer (some ⟨w.heap.size, 1, none⟩), .agg #[.int .u64 os.t, .int .u64 os.s], .func (.func 77) #[] #[.pointer (some ⟨w.heap.size + 1 + 1 + 1 + 1 + 1, 0, none⟩), .pointer (some ⟨w.heap.size + 1 + 1 + 1 + 1 + 1 + 1, 0, none⟩)], .func (.func 77) #[] #[.pointer (some ⟨w.heap.size + 1 + 1 + 1 + 1 + 1, 0, none⟩), .pointer (some ⟨w.heap.size + 1 + 1 + 1 + 1 + 1 + 1, 0, none⟩)], .bool false, undef, .int .i64 m, .bool false, undef,
          .func (.func 77) #[] #[.pointer (some ⟨w.heap.size + 1 + 1 + 1 + 1 + 1, 0, none⟩), .pointer (some ⟨w.heap.size + 1 + 1 + 1 + 1 + 1 + 1, 0, none⟩)], .agg #[.int .u64 x.k.t, .int .u64 x.k.s], .int .u64 x.n, undef, undef, undef, undef, undef, undef, undef, undef, undef, undef], defers := [] })
      (fun x a' _ A B row hs hg hr => by obtain ⟨B9, h1, h2⟩ := hs; exact ⟨B9, heap_keep h1 rfl hg fun r e => (hr r e).2, h2⟩)
      ?assign ?body ?done ?stop
    case assign =>
      rintro l pre x W K ⟨hI, hlt⟩ hok hK
      have HI := Lib.hid hI; clear hI
      dsimp only [encE]
      gi_wp2_with fail
      obtain ⟨⟨v, k1, k2, k3, k4⟩, hB1⟩ := HI.out
      have hInv : InvL (w.heap.size + 1) (w.heap.size + 1 + 1 + 1 + 1 + 1 + 1 + 1) W := ⟨block_lt_of_heap k3, v, k1, fun b hb => owns_lt k2 hb⟩
      exact hK _ _ ((KeepsOthers.alloc _ _).from _) (KeepP.below (guard_L _ _) hInv (below_box W _)) ⟨HI.out.below (below_box W _), hlt⟩ ⟨W.heap.size, World.alloc_heap_new W _, rfl⟩
    case body =>
      rintro l pre x a' W hl ⟨r, hr⟩ ⟨⟨⟨v, k1, k2, k3, k4⟩, hB1⟩, hlt⟩ ⟨B9, h9, rfl⟩ hok
      obtain ⟨c0, c1, -, -⟩ := heap2 h9
      obtain ⟨c2, c3⟩ := heap1 k1
      obtain ⟨c4, c5⟩ := heap1 k3
      obtain ⟨c6, c7⟩ := heap1 k4
      have hlen := evNums_len pre
      have HT := two_ext W0.heap.size v (pre.flatMap evNums) x.k x.n (by omega) W (by
        obtain ⟨o1, ho1⟩ : ∃ o1, W.heap[w.heap.size + 1 + 1 + 1 + 1 + 1 + 1 + 1]? = some o1 := ⟨_, k3⟩
        have := block_lt_of_heap k3
        omega) k2
      obtain ⟨av, cv, hv0, -⟩ := owns_shape k2
      have hlen2 : (pre.flatMap evNums).length = pre.length * 3 := hlen
      rw [hlen2] at hv0
      subst hv0
      unfold St.v at HT
      have HT := Lib.hid HT
      have HK := Lib.hid (And.intro k1 (And.intro k2 (And.intro k3 k4))); clear k1 k2 k3 k4 hlen hlen2
      by_cases hlast : pre.length + 1 = m
      · have ht : ((pre.length : Int) + 1 == (m : Int)) = true := by rw [beq_iff_eq]; omega
        gi_wp2_with fail
        refine ⟨trivial, callsIn_wide.2 (HT.out.mono ?_)⟩
        rintro e W1 ⟨v1, rfl, hn1, hX, hv1⟩
        obtain ⟨q1, q2, q3, q4⟩ := HK.out
        obtain ⟨hk1, hk2, hk3⟩ := LI.round (C := w.heap.size + 1 + 1 + 1 + 1 + 1 + 1 + 1) q1 q2 q3 q4 hB1 (by omega) (by omega) (by omega) (by omega) (by omega) (by omega) (by omega) (by omega) (by omega) hn1 hX hv1
        have hvz := fun k hk => (q2.lt k hk).1
        have e1 := heap1 (hX.heap q1 fun h => by have := hvz _ h; omega)
        have e2 := heap1 (hX.heap q3 fun h => by have := hvz _ h; omega)
        have e3 := heap1 (hX.heap q4 fun h => by have := hvz _ h; omega)
        obtain ⟨e1, e4⟩ := e1
        obtain ⟨e2, e5⟩ := e2
        obtain ⟨e3, -⟩ := e3
        obtain ⟨a1, n1, cc1, hsh⟩ : ∃ a1 n1 cc1, v1 = .slice a1 n1 cc1 := by obtain ⟨a, c, h, -⟩ := owns_shape hn1; exact ⟨a, _, c, h⟩
        subst hsh
        clear q1 q2 q3 q4 hn1 hX hv1 hvz c0 c1 c2 c3 c4 c5 c6 c7 h9
        have HH := Lib.hid (And.intro hk1 (And.intro hk2 hk3)); clear hk1 hk2 hk3
        gi_wp2_with fail
        obtain ⟨hk1, hk2, hk3⟩ := HH.out
        refine ⟨hk3 _, hk1, rfl, by rw [List.length_append]; exact hlast⟩
      · have ht : ((pre.length : Int) + 1 == (m : Int)) = false := by rw [beq_eq_false_iff_ne]; omega
        gi_wp2_with fail
        refine ⟨trivial, callsIn_wide.2 (HT.out.mono ?_)⟩
        rintro e W1 ⟨v1, rfl, hn1, hX, hv1⟩
        obtain ⟨q1, q2, q3, q4⟩ := HK.out
        obtain ⟨hk1, hk2, hk3⟩ := LI.round (C := w.heap.size + 1 + 1 + 1 + 1 + 1 + 1 + 1) q1 q2 q3 q4 hB1 (by omega) (by omega) (by omega) (by omega) (by omega) (by omega) (by omega) (by omega) (by omega) hn1 hX hv1
        have hvz := fun k hk => (q2.lt k hk).1
        have e1 := heap1 (hX.heap q1 fun h => by have := hvz _ h; omega)
        have e2 := heap1 (hX.heap q3 fun h => by have := hvz _ h; omega)
        have e3 := heap1 (hX.heap q4 fun h => by have := hvz _ h; omega)
        obtain ⟨e1, e4⟩ := e1
        obtain ⟨e2, e5⟩ := e2
        obtain ⟨e3, -⟩ := e3
        obtain ⟨a1, n1, cc1, hsh⟩ : ∃ a1 n1 cc1, v1 = .slice a1 n1 cc1 := by obtain ⟨a, c, h, -⟩ := owns_shape hn1; exact ⟨a, _, c, h⟩
        subst hsh
        clear q1 q2 q3 q4 hn1 hX hv1 hvz c0 c1 c2 c3 c4 c5 c6 c7 h9
        have HH := Lib.hid (And.intro hk1 (And.intro hk2 hk3)); clear hk1 hk2 hk3
        gi_wp2_with fail
        obtain ⟨hk1, hk2, hk3⟩ := HH.out
        exact ⟨hk3 _, hk2, hk1, by rw [List.length_append, List.length_singleton]; omega⟩
    case done =>
      rintro D zs W hD hzs ⟨⟨⟨v, k1, k2, k3, k4⟩, hB1⟩, hlt⟩ hK
      replace hzs := hzs.symm
      subst hzs
      have hpt : E.take m = E := List.take_of_length_le (by omega)
      obtain ⟨c1, c2⟩ := heap1 k1
      obtain ⟨av, n1, cv, hsh⟩ : ∃ a1 n1 cc1, v = .slice a1 n1 cc1 := by obtain ⟨a, c, h, -⟩ := owns_shape k2; exact ⟨a, _, c, h⟩
      subst hsh
      have H2 := Lib.hid (And.intro k2 hpt); clear k2 hpt
      gi_wp2_with fail
      refine ⟨by simp, .inl ⟨_, _, rfl, run_takeDeferred hK, ?_⟩⟩
      have hg := grownBy_putObj' W D (.deferred none)
      refine ⟨.slice av n1 cv, by simp [results, Try.f83, go_sem], _, rfl, ?_, hB1.trans (belowK_b (w := w) (Nat.le_refl _) _ D _ _ (by omega) hK rfl rfl)⟩
      rw [H2.out.2]
      exact (nums_keep H2.out.1 hg fun r e => by injection e with e; subst e; exact ⟨_, hK, rfl⟩).base (by omega)
    case stop =>
      rintro D c pre W hD hpre ⟨⟨⟨v, k1, k2, k3, k4⟩, hB1⟩, rfl, hlen⟩ hK
      have hpt : E.take m = pre := by rw [← hlen]; exact (List.prefix_iff_eq_take.1 hpre).symm
      obtain ⟨c1, c2⟩ := heap1 k1
      obtain ⟨av, n1, cv, hsh⟩ : ∃ a1 n1 cc1, v = .slice a1 n1 cc1 := by obtain ⟨a, c, h, -⟩ := owns_shape k2; exact ⟨a, _, c, h⟩
      subst hsh
      have H2 := Lib.hid (And.intro k2 hpt); clear k2 hpt
      gi_wp2_with fail
      refine ⟨by simp, .inl ⟨_, _, rfl, run_takeDeferred hK, ?_⟩⟩
      have hg := grownBy_putObj' W D (.deferred none)
      refine ⟨.slice av n1 cv, by simp [results, Try.f83, go_sem], _, rfl, ?_, hB1.trans (belowK_b (w := w) (Nat.le_refl _) _ D _ _ (by omega) hK rfl rfl)⟩
      rw [H2.out.2]
      exact (nums_keep H2.out.1 hg fun r e => by injection e with e; subst e; exact ⟨_, hK, rfl⟩).base (by omega)
end Go.Proofs.Ytagcohpghgnalaa.QA
