/-
  book.all: what Up tells from the least stamp on is what the book has.
-/
import Derived.Test.YtagcohpghgnalaaCGBK
import Derived.Test.YtagcohpghgnalaaCRGI
set_option linter.unusedSimpArgs false
set_option linter.unusedVariables false
namespace Go.Proofs.Ytagcohpghgnalaa.BK
open Go.RowKit Go.RG Go.Hp Go.Pg Go.Shelf Go.Proofs.Ytagcohpghgnalaa Go.Proofs.Ytagcohpghgnalaa.LB Go.Proofs.Ytagcohpghgnalaa.U
attribute [local go_sem] Oper.semAt_some


theorem behind_zero {size : Nat} {R : List (List Ent)} (hG : Pg.Good size R) (h : ∀ e ∈ R.flatten, e.k.lt ⟨0, 0⟩ = false) : behind' R ⟨0, 0⟩ = R.flatten := by
  rcases Nat.eq_zero_or_pos R.length with h0 | hR
  · obtain rfl := List.eq_nil_of_length_eq_zero h0
    rfl
  · have hp := flat_parts ⟨0, 0⟩ hR
    cases ha : ahead' R ⟨0, 0⟩ with
    | nil => rw [hp, ha]; rfl
    | cons e l =>
      have h1 := ahead_lt hG hR ⟨0, 0⟩ e (by rw [ha]; simp)
      have h2 := h e (by rw [hp, ha]; simp)
      rw [h1] at h2
      cases h2

theorem keepsOthers_below {A B : World} (h : Below A.heap.size A B) : KeepsOthers A B := ⟨h.size, fun k o hk _ => below_heap h hk⟩
theorem ent_mem {p : List Ent} {i : Nat} (h : i < p.length) : ent p i ∈ p := by
  have : ent p i = p[i] := by simp [ent, h]
  rw [this]; exact List.getElem_mem _
theorem evs_get {p : List Ent} {i : Nat} (h : i < p.length) : (evs p)[i]? = some ⟨(ent p i).k, numOf (ent p i).v⟩ := by simp [evs, ent, h]
/-- a part that fits, and one entry more -/
theorem pre_snoc {l pre : List Ev} {x : Ev} (h : pre <+: l) : pre ++ [x] <+: l ↔ l[pre.length]? = some x := by
  obtain ⟨r, rfl⟩ := h
  rw [List.prefix_append_right_inj]
  cases r with
  | nil => simp
  | cons y r =>
    simp [List.getElem?_append_right, List.cons_prefix_cons]
    exact eq_comm

set_option maxHeartbeats 2000000 in
set_option maxRecDepth 100000 in
theorem all_any (B bx size : Nat) (h4 : 4 ≤ size) (h64 : size ≤ 64) (R : List (List Ent)) (bv : Value) (Z : Nat → Prop) (w : World) (hT : Two B bx size R bv R.flatten Z w) (ht : total R ≤ 109951162) (hz : ∀ e ∈ R.flatten, e.k.lt ⟨0, 0⟩ = false) :
    Calls Try.prog 23 #[bv, .pointer (some ⟨bx, 0, none⟩)] w fun e w' => e = .returned (.bool true) ∧ Below w.heap.size w w' := by
  have hbz := behind_zero hT.good hz
  have hrl := rows_le_total hT.good
  have hlen : R.flatten.length = total R := (total_flat R).symm
  have hpg : ∀ i, i < R.length → (pageAt R i).length ≤ 64 := fun i hi => by have := (hT.good.full _ (pageAt_mem hi)).2; omega
  obtain ⟨ab, cb, rfl, -⟩ := owns_shape hT.row
  have HT := Lib.hid hT; clear hT
  have Hlen := Lib.hid hlen; clear hlen
  obtain ⟨N, hN⟩ : ∃ N, R.flatten.length = N := ⟨_, rfl⟩
  have hNt : N = total R := by rw [← hN]; exact Hlen.out
  rw [hN]
  have HN := Lib.hid hN; clear hN
  have HNt := Lib.hid hNt
  have hNle : N ≤ 109951162 := by omega
  clear hNt
  have hUp := up_call (some ⟨bx, 0, none⟩) ⟨0, 0⟩
  unfold St.v at hUp
  have HUp := Lib.hid hUp; clear hUp
  refine (callsIn_wide (n := 3)).1 ?_
  refine callsIn_of_wp_marks Try.func23 rfl trivial ?_ rfl
  simp only [Try.ntmps23, List.size_toArray, List.length_cons, List.length_nil, Nat.reduceAdd, Nat.reduceSub, Array.replicate_succ, Array.replicate_zero, List.push_toArray, List.append_toArray, List.nil_append, List.cons_append]
  gi_wp2_with fail
  refine ⟨trivial, callsIn_wide.2 ((HUp.out _).mono ?_)⟩
  rintro e w' ⟨rfl, rfl⟩
  gi_wp2_with fail
  have hsz : (((((w.alloc (.cells #[.slice ab N cb] 35)).alloc (.cells #[.bool false] 4)).alloc (.cells #[.int .i64 0] 3)).alloc (.cells #[.pointer (some ⟨bx, 0, none⟩)] 29)).alloc (.cells #[.int .u64 0, .int .u64 0] 38)).heap.size = w.heap.size + 5 := by simp
  obtain ⟨W0, hW0⟩ : ∃ W0, (((((w.alloc (.cells #[.slice ab N cb] 35)).alloc (.cells #[.bool false] 4)).alloc (.cells #[.int .i64 0] 3)).alloc (.cells #[.pointer (some ⟨bx, 0, none⟩)] 29)).alloc (.cells #[.int .u64 0, .int .u64 0] 38)) = W0 := ⟨_, rfl⟩
  have hB0 : Below w.heap.size w W0 := by rw [← hW0]; exact ((((below_box w _).alloc (by simp) _).alloc (by simp; omega) _).alloc (by simp; omega) _).alloc (by simp; omega) _
  have g0 : W0.heap[w.heap.size]? = some (.cells #[.slice ab N cb] 35 (0, 0)) := by
    rw [← hW0, heap_alloc_ne _ _ _ (by simp; omega), heap_alloc_ne _ _ _ (by simp; omega), heap_alloc_ne _ _ _ (by simp; omega), heap_alloc_ne _ _ _ (by simp)]
    exact World.alloc_heap_new w _
  have g1 : W0.heap[w.heap.size + 1]? = some (.cells #[.bool false] 4 (0, 0)) := by
    rw [← hW0, heap_alloc_ne _ _ _ (by simp), heap_alloc_ne _ _ _ (by simp), heap_alloc_ne _ _ _ (by simp)]
    have := World.alloc_heap_new (w.alloc (.cells #[.slice ab N cb] 35)) (.cells #[.bool false] 4)
    rwa [World.size_alloc] at this
  have g2 : W0.heap[w.heap.size + 1 + 1]? = some (.cells #[.int .i64 0] 3 (0, 0)) := by
    rw [← hW0, heap_alloc_ne _ _ _ (by simp), heap_alloc_ne _ _ _ (by simp)]
    have := World.alloc_heap_new ((w.alloc (.cells #[.slice ab N cb] 35)).alloc (.cells #[.bool false] 4)) (.cells #[.int .i64 0] 3)
    rwa [World.size_alloc, World.size_alloc] at this
  have g4 : W0.heap[w.heap.size + 1 + 1 + 1]? = some (.cells #[.pointer (some ⟨bx, 0, none⟩)] 29 (0, 0)) := by
    rw [← hW0, heap_alloc_ne _ _ _ (by simp)]
    have := World.alloc_heap_new (((w.alloc (.cells #[.slice ab N cb] 35)).alloc (.cells #[.bool false] 4)).alloc (.cells #[.int .i64 0] 3)) (.cells #[.pointer (some ⟨bx, 0, none⟩)] 29)
    rwa [World.size_alloc, World.size_alloc, World.size_alloc] at this
  have g5 : W0.heap[w.heap.size + 1 + 1 + 1 + 1]? = some (.cells #[.int .u64 0, .int .u64 0] 38 (0, 0)) := by
    rw [← hW0]
    have := World.alloc_heap_new ((((w.alloc (.cells #[.slice ab N cb] 35)).alloc (.cells #[.bool false] 4)).alloc (.cells #[.int .i64 0] 3)).alloc (.cells #[.pointer (some ⟨bx, 0, none⟩)] 29)) (.cells #[.int .u64 0, .int .u64 0] 38)
    rwa [World.size_alloc, World.size_alloc, World.size_alloc, World.size_alloc] at this
  rw [hW0] at hsz ⊢
  clear hW0
  have HT0 := Lib.hid (HT.out.below hB0)
  obtain ⟨vr0, pvs0, hM0⟩ := HT0.out.mem
  have HM0 := Lib.hid hM0; clear hM0
  refine wpIn_rangeFunc_ownH (F := Fence.wide) rfl (by decide) (gf := 75) (lb := #[.pointer (some ⟨w.heap.size + 1 + 1 + 1, 0, none⟩), .pointer (some ⟨w.heap.size + 1 + 1 + 1 + 1, 0, none⟩)]) rfl trivial (enters_of Try.func75 (by kernel_rfl) rfl)
    (up_seq 2 bx size (by omega) R (by omega) HT0.out.good.ordered hpg HT0.out.num ⟨0, 0⟩ Z vr0 pvs0 (w.heap.size + 1 + 1 + 1) (w.heap.size + 1 + 1 + 1 + 1) W0.heap.size W0 HM0.out (by simp [World.cell?, g4]) (by simp [World.cell?, g5]) (by simp [World.cell?, g5])
      (fun k => w.heap.size ≤ k ∧ k < W0.heap.size) (fun k h => h.2) (Nat.le_refl _) (fun k h h' => by have := (HT.out.lim k h).2; omega)) (fun h k => h.trans k) (fun W l o o' h1 h2 h3 h4 => KeepC.putObj W l o o' h1 h2 h3 h4) (Below.refl _ _) (fun _ => rfl)
    (fun pre W => (pre <+: evs R.flatten ∧ W.heap[w.heap.size]? = some (.cells #[.slice ab N cb] 35 (0, 0)) ∧ W.heap[w.heap.size + 1]? = some (.cells #[.bool false] 4 (0, 0)) ∧ W.heap[w.heap.size + 1 + 1]? = some (.cells #[.int .i64 pre.length] 3 (0, 0))) ∧ Below w.heap.size w W)
    (fun c pre W => c = .ret ∧ ¬ pre <+: evs R.flatten)
    (OwnFrom.and (fun pre A B row hs hg hr => ⟨hs.1, heap_keep hs.2.1 rfl hg fun r e => (hr r e).2, heap_keep hs.2.2.1 rfl hg fun r e => (hr r e).2, heap_keep hs.2.2.2 rfl hg fun r e => (hr r e).2⟩) (ownFrom_below (Nat.le_refl _) (by omega)))
    (fun c pre A B row hs hg hr => hs)
    ⟨⟨List.nil_prefix, g0, g1, g2⟩, hB0⟩
    (fun x a' W => ∃ B6, W.heap[B6]? = some (.cells #[.int .u64 x.k.t, .int .u64 x.k.s] 38 (0, 0)) ∧ a' = { tmps := #[.slice ab N cb, .pointer (some ⟨bx, 0, none⟩), .pointer (some ⟨w.heap.size, 0, none⟩), undef, .pointer (some ⟨w.heap.size + 1, 0, none⟩), .pointer (some ⟨w.heap.size + 1 + 1, 0, none⟩), .pointer (some ⟨B6, 0, none⟩), .int .u64 x.n, .pointer (some ⟨bx, 0, none⟩), .agg #[.int .u64 0, .int .u64 0],
        .func (.func 75) #[] #[.pointer (some ⟨w.heap.size + 1 + 1 + 1, 0, none⟩), .pointer (some ⟨w.heap.size + 1 + 1 + 1 + 1, 0, none⟩)], .agg #[.int .u64 x.k.t, .int .u64 x.k.s], .int .u64 x.n, undef, undef, undef, undef, undef, undef, undef, undef, undef, undef, undef, undef, undef, undef, undef, undef, undef, undef, undef, undef, undef, undef, undef, undef, undef, undef, undef, undef, undef, undef, undef, undef, undef, undef], defers := [] })
    (fun x a' _ A B row hs hg hr => by obtain ⟨B6, h1, h2⟩ := hs; exact ⟨B6, heap_keep h1 rfl hg fun r e => (hr r e).2, h2⟩)
    ?assign ?body ?done ?stop
  case assign =>
    rintro l pre x W K ⟨⟨h1, h2, h3, h4⟩, hB1⟩ hK
    gi_wp2_with fail
    exact hK _ _ ((KeepsOthers.alloc _ _).from _) (KeepC.below (below_box _ _)) ⟨⟨h1, U.heap_alloc_old _ h2, U.heap_alloc_old _ h3, U.heap_alloc_old _ h4⟩, hB1.alloc hB1.size _⟩ ⟨W.heap.size, World.alloc_heap_new W _, rfl⟩
  case body =>
    rintro l pre x a' W hl ⟨r, hr⟩ ⟨⟨h1, h2, h3, h4⟩, hB1⟩ ⟨B6, h6, rfl⟩ hlt
    obtain ⟨k0, k1, -, -⟩ := heap2 h6
    obtain ⟨k2, k3⟩ := heap1 h2
    obtain ⟨k4, k5⟩ := heap1 h3
    obtain ⟨k6, k7⟩ := heap1 h4
    have hz1 := hB1.size
    have hpx := pre_snoc (x := x) h1
    have hple := h1.length_le
    rw [evs_length, HN.out] at hple
    have hE1 := U.neq_stamp
    have hE2 := U.guard_stamp
    gi_wp2_with fail
    by_cases hi : pre.length < N
    · obtain ⟨g, cap, e1, -, hgl, -⟩ := owns_parts HT.out.row (by rw [HN.out]; omega)
      rw [HN.out] at e1
      injection e1 with e1 _ f1
      subst e1 f1
      have hrow := HT.out.row
      obtain ⟨z0, z1, z2⟩ := book_cells hrow (show pre.length < R.flatten.length by rw [HN.out]; exact hi)
      clear hrow
      rw [evs_get (show pre.length < R.flatten.length by rw [HN.out]; exact hi)] at hpx
      obtain ⟨num, hnum⟩ := HT.out.num (ent R.flatten pre.length) (ent_mem (by rw [HN.out]; exact hi))
      rw [hnum] at z2 hpx
      generalize (ent R.flatten pre.length).k = ky at z0 z1 hpx
      have z0 := (hB1.cell (p := ⟨g, pre.length * 3, none⟩) hgl).trans z0
      have z1 := (hB1.cell (p := ⟨g, pre.length * 3 + 1, none⟩) hgl).trans z1
      have z2 := (hB1.cell (p := ⟨g, pre.length * 3 + 2, none⟩) hgl).trans z2
      have hii : ¬ (N : Int) ≤ (pre.length : Int) := by omega
      have hii' : (pre.length : Int) < (N : Int) := by omega
      by_cases hk : ky = x.k
      · subst hk
        have hs1 : sEq x.k.t x.k.s x.k.t x.k.s = true := by rw [stamp_beq, decide_eq_true rfl]
        refine wpIn_region_rg (fun _ => none) fol (by kernel_rfl) (fun W1 hW hh => ?_)
        clear hh
        have q0 : ∀ w1, Below W1.heap.size W1 w1 → w1.cell? ⟨g, pre.length * 3, none⟩ = _ := fun w1 h => below_cell (below_trans hW h) z0
        have q1 : ∀ w1, Below W1.heap.size W1 w1 → w1.cell? ⟨g, pre.length * 3 + 1, none⟩ = _ := fun w1 h => below_cell (below_trans hW h) z1
        have q2 : ∀ w1, Below W1.heap.size W1 w1 → w1.cell? ⟨g, pre.length * 3 + 2, none⟩ = some (.int .u64 num) := fun w1 h => below_cell (below_trans hW h) z2
        have q3 : ∀ w1, Below W1.heap.size W1 w1 → w1.cell? ⟨B6, 0, none⟩ = some (.int .u64 x.k.t) := fun w1 h => below_cell (below_trans hW h) k0
        have q4 : ∀ w1, Below W1.heap.size W1 w1 → w1.cell? ⟨B6, 1, none⟩ = some (.int .u64 x.k.s) := fun w1 h => below_cell (below_trans hW h) k1
        have q5 : ∀ w1, Below W1.heap.size W1 w1 → w1.cell? ⟨w.heap.size, 0, none⟩ = _ := fun w1 h => below_cell (below_trans hW h) k2
        have q6 : ∀ w1, Below W1.heap.size W1 w1 → w1.cell? ⟨w.heap.size + 1 + 1, 0, none⟩ = _ := fun w1 h => below_cell (below_trans hW h) k6
        repeat (first
          | (refine lex_move _ (by first | exact Or.inl rfl | exact Or.inr rfl) rfl rfl ?_
             simp only [Act.put, Act.eval, Array.getD_eq_getD_getElem?, List.getElem?_toArray, List.getElem?_cons_zero, List.getElem?_cons_succ, Option.getD_some, List.setIfInBounds_toArray, List.set_cons_succ, List.set_cons_zero]
            )
          | (refine lex_float ?_ rfl rfl (fun w1 hb1 hf1 => ?_) ?_
             rotate_left
             (go_simp; (try simp (disch := omega) only [IntWalk.i64_quo, IntWalk.rem_in, IntWalk.i64_in, IntWalk.u64_in, IntWalk.u32_in, IntWalk.u8_in, IntWalk.toNatUp, IntWalk.iteOmega]); (try go_simp); rfl)
             simp only [Act.put, Act.eval, Array.getD_eq_getD_getElem?, List.getElem?_toArray, List.getElem?_cons_zero, List.getElem?_cons_succ, Option.getD_some, List.setIfInBounds_toArray, List.set_cons_succ, List.set_cons_zero]
            )
          | (refine lex_skip rfl ?_
             simp only [Act.put, Act.eval, Array.getD_eq_getD_getElem?, List.getElem?_toArray, List.getElem?_cons_zero, List.getElem?_cons_succ, Option.getD_some, List.setIfInBounds_toArray, List.set_cons_succ, List.set_cons_zero]
            ))
        refine lex_nil ?_
        clear q0 q1 q2 q3 q4 q5 q6
        have m2 := below_heap hW h2
        have m3 := below_heap hW h3
        have m4 := below_heap hW h4
        obtain ⟨k2, k3⟩ := heap1 m2
        obtain ⟨k4, k5⟩ := heap1 m3
        obtain ⟨k6, k7⟩ := heap1 m4
        by_cases hv : num = x.n
        · have hv' : (num != x.n) = false := by simp [hv]
          rw [hv']
          gi_wp2_with fail
          refine ⟨((keepsOthers_below hW).trans (KeepsOthers.setCell _ _ _)).from _, (KeepC.below hW).trans (KeepC.ext (Ext.setCell (p := ⟨w.heap.size + 1 + 1, 0, none⟩) ⟨(by show w.heap.size ≤ w.heap.size + 1 + 1; omega), (by show w.heap.size + 1 + 1 < _; omega)⟩ _)),
            ⟨⟨hpx.2 (by rw [← hnum] at hpx; simp [hv, numOf]), heap_set_ne _ m2 (by omega), heap_set_ne _ m3 (by omega), ?_⟩, (hB1.trans (hW.mono hz1)).setCell (p := ⟨w.heap.size + 1 + 1, 0, none⟩) (by simp; omega) _⟩⟩
          have := heap1_set (.int .i64 ((pre.length : Int) + 1)) m4
          simpa using this
        · have hv' : (num != x.n) = true := by simp [hv]
          rw [hv']
          gi_wp2_with fail
          refine ⟨((keepsOthers_below hW).trans (KeepsOthers.setCell _ _ _)).from _, rfl, fun h => ?_⟩
          have h := hpx.1 h
          injection h with h
          exact hv (by rw [← h]; rfl)
      · have hs1 : sEq ky.t ky.s x.k.t x.k.s = false := by rw [stamp_beq, decide_eq_false hk]
        refine wpIn_region_rg (fun _ => none) fol (by kernel_rfl) (fun W1 hW hh => ?_)
        clear hh
        have q0 : ∀ w1, Below W1.heap.size W1 w1 → w1.cell? ⟨g, pre.length * 3, none⟩ = _ := fun w1 h => below_cell (below_trans hW h) z0
        have q1 : ∀ w1, Below W1.heap.size W1 w1 → w1.cell? ⟨g, pre.length * 3 + 1, none⟩ = _ := fun w1 h => below_cell (below_trans hW h) z1
        have q2 : ∀ w1, Below W1.heap.size W1 w1 → w1.cell? ⟨g, pre.length * 3 + 2, none⟩ = some (.int .u64 num) := fun w1 h => below_cell (below_trans hW h) z2
        have q3 : ∀ w1, Below W1.heap.size W1 w1 → w1.cell? ⟨B6, 0, none⟩ = some (.int .u64 x.k.t) := fun w1 h => below_cell (below_trans hW h) k0
        have q4 : ∀ w1, Below W1.heap.size W1 w1 → w1.cell? ⟨B6, 1, none⟩ = some (.int .u64 x.k.s) := fun w1 h => below_cell (below_trans hW h) k1
        have q5 : ∀ w1, Below W1.heap.size W1 w1 → w1.cell? ⟨w.heap.size, 0, none⟩ = _ := fun w1 h => below_cell (below_trans hW h) k2
        have q6 : ∀ w1, Below W1.heap.size W1 w1 → w1.cell? ⟨w.heap.size + 1 + 1, 0, none⟩ = _ := fun w1 h => below_cell (below_trans hW h) k6
        repeat (first
          | (refine lex_move _ (by first | exact Or.inl rfl | exact Or.inr rfl) rfl rfl ?_
             simp only [Act.put, Act.eval, Array.getD_eq_getD_getElem?, List.getElem?_toArray, List.getElem?_cons_zero, List.getElem?_cons_succ, Option.getD_some, List.setIfInBounds_toArray, List.set_cons_succ, List.set_cons_zero]
            )
          | (refine lex_float ?_ rfl rfl (fun w1 hb1 hf1 => ?_) ?_
             rotate_left
             (go_simp; (try simp (disch := omega) only [IntWalk.i64_quo, IntWalk.rem_in, IntWalk.i64_in, IntWalk.u64_in, IntWalk.u32_in, IntWalk.u8_in, IntWalk.toNatUp, IntWalk.iteOmega]); (try go_simp); rfl)
             simp only [Act.put, Act.eval, Array.getD_eq_getD_getElem?, List.getElem?_toArray, List.getElem?_cons_zero, List.getElem?_cons_succ, Option.getD_some, List.setIfInBounds_toArray, List.set_cons_succ, List.set_cons_zero]
            )
          | (refine lex_skip rfl ?_
             simp only [Act.put, Act.eval, Array.getD_eq_getD_getElem?, List.getElem?_toArray, List.getElem?_cons_zero, List.getElem?_cons_succ, Option.getD_some, List.setIfInBounds_toArray, List.set_cons_succ, List.set_cons_zero]
            ))
        refine lex_nil ?_
        clear q0 q1 q2 q3 q4 q5 q6
        have m2 := below_heap hW h2
        have m3 := below_heap hW h3
        have m4 := below_heap hW h4
        obtain ⟨k2, k3⟩ := heap1 m2
        obtain ⟨k4, k5⟩ := heap1 m3
        obtain ⟨k6, k7⟩ := heap1 m4
        gi_wp2_with fail
        refine ⟨((keepsOthers_below hW).trans (KeepsOthers.setCell _ _ _)).from _, rfl, fun h => ?_⟩
        have h := hpx.1 h
        injection h with h
        exact hk (by rw [← h])
    · have hii : (N : Int) ≤ (pre.length : Int) := by omega
      refine wpIn_region_rg (fun _ => none) fol (by kernel_rfl) (fun W1 hW hh => ?_)
      clear hh
      have q3 : ∀ w1, Below W1.heap.size W1 w1 → w1.cell? ⟨B6, 0, none⟩ = some (.int .u64 x.k.t) := fun w1 h => below_cell (below_trans hW h) k0
      have q4 : ∀ w1, Below W1.heap.size W1 w1 → w1.cell? ⟨B6, 1, none⟩ = some (.int .u64 x.k.s) := fun w1 h => below_cell (below_trans hW h) k1
      have q5 : ∀ w1, Below W1.heap.size W1 w1 → w1.cell? ⟨w.heap.size, 0, none⟩ = _ := fun w1 h => below_cell (below_trans hW h) k2
      have q6 : ∀ w1, Below W1.heap.size W1 w1 → w1.cell? ⟨w.heap.size + 1 + 1, 0, none⟩ = _ := fun w1 h => below_cell (below_trans hW h) k6
      repeat (first
        | (refine lex_move _ (by first | exact Or.inl rfl | exact Or.inr rfl) rfl rfl ?_
           simp only [Act.put, Act.eval, Array.getD_eq_getD_getElem?, List.getElem?_toArray, List.getElem?_cons_zero, List.getElem?_cons_succ, Option.getD_some, List.setIfInBounds_toArray, List.set_cons_succ, List.set_cons_zero]
          )
        | (refine lex_float ?_ rfl rfl (fun w1 hb1 hf1 => ?_) ?_
           rotate_left
           (go_simp; (try simp (disch := omega) only [IntWalk.i64_quo, IntWalk.rem_in, IntWalk.i64_in, IntWalk.u64_in, IntWalk.u32_in, IntWalk.u8_in, IntWalk.toNatUp, IntWalk.iteOmega]); (try go_simp); rfl)
           simp only [Act.put, Act.eval, Array.getD_eq_getD_getElem?, List.getElem?_toArray, List.getElem?_cons_zero, List.getElem?_cons_succ, Option.getD_some, List.setIfInBounds_toArray, List.set_cons_succ, List.set_cons_zero]
          )
        | (refine lex_skip rfl ?_
           simp only [Act.put, Act.eval, Array.getD_eq_getD_getElem?, List.getElem?_toArray, List.getElem?_cons_zero, List.getElem?_cons_succ, Option.getD_some, List.setIfInBounds_toArray, List.set_cons_succ, List.set_cons_zero]
          ))
      refine lex_nil ?_
      clear q3 q4 q5 q6
      have m2 := below_heap hW h2
      have m3 := below_heap hW h3
      have m4 := below_heap hW h4
      obtain ⟨k2, k3⟩ := heap1 m2
      obtain ⟨k4, k5⟩ := heap1 m3
      obtain ⟨k6, k7⟩ := heap1 m4
      gi_wp2_with fail
      refine ⟨((keepsOthers_below hW).trans (KeepsOthers.setCell _ _ _)).from _, rfl, fun h => ?_⟩
      have h := hpx.1 h
      rw [List.getElem?_eq_none (by rw [evs_length, HN.out]; omega)] at h
      cases h
  case done =>
    rintro D zs W hD rfl ⟨⟨h1, h2, h3, h4⟩, hB1⟩ hK
    rw [hbz, evs_length, HN.out] at h4
    obtain ⟨k2, k3⟩ := heap1 h2
    obtain ⟨k4, k5⟩ := heap1 h3
    obtain ⟨k6, k7⟩ := heap1 h4
    have hz1 := hB1.size
    obtain ⟨vr1, pvs1, hM1⟩ := (HT.out.mem)
    have HMw := Lib.hid (hM1.keep (w' := W) fun k hk _ => hB1.block k (HT.out.lim k hk).2)
    clear hM1
    gi_wp2_with fail
    refine wpIn_wide.2 ?_
    refine wp_region_rg_tail 10 (fun j => if j = 6 then some (fun v _ => v = .int .i64 N) else none) fol (by kernel_rfl) (fun W1 hW hh => ?_)
    clear hh
    simp only [List.take_succ_cons, List.take_zero, List.drop_succ_cons, List.drop_zero]
    have q5 : ∀ w1, Below W1.heap.size W1 w1 → w1.cell? ⟨w.heap.size, 0, none⟩ = _ := fun w1 h => below_cell (below_trans hW h) k2
    have q6 : ∀ w1, Below W1.heap.size W1 w1 → w1.cell? ⟨w.heap.size + 1 + 1, 0, none⟩ = _ := fun w1 h => below_cell (below_trans hW h) k6
    repeat (first
      | (refine lex_move _ (by first | exact Or.inl rfl | exact Or.inr rfl) rfl rfl ?_
         simp only [Act.put, Act.eval, Array.getD_eq_getD_getElem?, List.getElem?_toArray, List.getElem?_cons_zero, List.getElem?_cons_succ, Option.getD_some, List.setIfInBounds_toArray, List.set_cons_succ, List.set_cons_zero]
        )
      | (refine lex_float ?_ rfl rfl (fun w1 hb1 hf1 => ?_) ?_
         rotate_left
         (go_simp; (try simp (disch := omega) only [IntWalk.i64_quo, IntWalk.rem_in, IntWalk.i64_in, IntWalk.u64_in, IntWalk.u32_in, IntWalk.u8_in, IntWalk.toNatUp, IntWalk.iteOmega]); (try go_simp); rfl)
         simp only [Act.put, Act.eval, Array.getD_eq_getD_getElem?, List.getElem?_toArray, List.getElem?_cons_zero, List.getElem?_cons_succ, Option.getD_some, List.setIfInBounds_toArray, List.set_cons_succ, List.set_cons_zero]
        )
      | (refine lex_skip rfl ?_
         simp only [Act.put, Act.eval, Array.getD_eq_getD_getElem?, List.getElem?_toArray, List.getElem?_cons_zero, List.getElem?_cons_succ, Option.getD_some, List.setIfInBounds_toArray, List.set_cons_succ, List.set_cons_zero]
        ))
    refine lex_make _ rfl (by exact fun _ _ _ h _ => h) rfl (fun w1 hb1 hf1 => ?_) ?_
    · (unfold makes; go_simp; simp only [makesUpon])
      refine (len_any bx size (by omega) R Z vr1 pvs1 w1 (HMw.out.below (below_trans hW hb1))).mono ?_
      rintro e w' ⟨rfl, rfl⟩
      exact ⟨_, rfl, Below.refl _ _, by rw [HNt.out]⟩
    rintro v W2 hW2 rfl
    simp only [Act.put, Act.eval, Array.getD_eq_getD_getElem?, List.getElem?_toArray, List.getElem?_cons_zero, List.getElem?_cons_succ, Option.getD_some, List.setIfInBounds_toArray, List.set_cons_succ, List.set_cons_zero]
    repeat (first
      | (refine lex_move _ (by first | exact Or.inl rfl | exact Or.inr rfl) rfl rfl ?_
         simp only [Act.put, Act.eval, Array.getD_eq_getD_getElem?, List.getElem?_toArray, List.getElem?_cons_zero, List.getElem?_cons_succ, Option.getD_some, List.setIfInBounds_toArray, List.set_cons_succ, List.set_cons_zero]
        )
      | (refine lex_float ?_ rfl rfl (fun w1 hb1 hf1 => ?_) ?_
         rotate_left
         (go_simp; (try simp (disch := omega) only [IntWalk.i64_quo, IntWalk.rem_in, IntWalk.i64_in, IntWalk.u64_in, IntWalk.u32_in, IntWalk.u8_in, IntWalk.toNatUp, IntWalk.iteOmega]); (try go_simp); rfl)
         simp only [Act.put, Act.eval, Array.getD_eq_getD_getElem?, List.getElem?_toArray, List.getElem?_cons_zero, List.getElem?_cons_succ, Option.getD_some, List.setIfInBounds_toArray, List.set_cons_succ, List.set_cons_zero]
        )
      | (refine lex_skip rfl ?_
         simp only [Act.put, Act.eval, Array.getD_eq_getD_getElem?, List.getElem?_toArray, List.getElem?_cons_zero, List.getElem?_cons_succ, Option.getD_some, List.setIfInBounds_toArray, List.set_cons_succ, List.set_cons_zero]
        ))
    refine lex_nil ?_
    have hW3 := below_trans hW hW2
    have m3 := below_heap hW3 h3
    have hK2 := below_heap hW3 hK
    obtain ⟨k4, k5⟩ := heap1 m3
    go_wp2_with fail
    gi_wp2_with fail
    have hK' := (KeepsOthers.setCell W2 ⟨w.heap.size + 1, 0, none⟩ (.bool true)).same D _ hK2 rfl
    obtain ⟨f1, -⟩ := heap1 (heap_put (.deferred none) (heap1_set (.bool true) m3) rfl hK' rfl)
    have hBl := (hB1.trans (hW3.mono hz1)).setCell (p := ⟨w.heap.size + 1, 0, none⟩) (by simp) (.bool true)
    refine ⟨by simp, .inl ⟨_, _, rfl, run_takeDeferred hK', ?_⟩⟩
    refine ⟨.bool true, ?_, rfl, hBl.trans (belowK_b (w := w) (Nat.le_refl _) _ D _ _ (by omega) hK' rfl rfl)⟩
    simp [results, Try.f23, go_sem, f1]
  case stop =>
    rintro D c pre W hD hpre ⟨rfl, hn⟩ hK
    rw [hbz] at hpre
    exact absurd hpre hn
end Go.Proofs.Ytagcohpghgnalaa.BK
