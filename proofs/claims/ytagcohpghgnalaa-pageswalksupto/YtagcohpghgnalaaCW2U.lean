/-
  The walk of Place (V: uint64).
-/
import Derived.Test.YtagcohpghgnalaaCW1U
set_option linter.unusedSimpArgs false
set_option linter.unusedVariables false
namespace Go.Proofs.Ytagcohpghgnalaa.U
open Go.RowKit Go.RG Go.Hp Go.Pg Go.Proofs.Ytagcohpghgnalaa


/-- the index's memory, at this translation's types -/
abbrev MemV (w : World) (bx : Nat) (size : Int) (R : List (List Ent)) (S : Nat → Prop) (vr : Value) (pvs : List Value) : Prop := Mem 92 89 82 w bx size R S vr pvs

theorem bare_any (b : Nat) (sz : Int) (w : World) (h : w.cell? ⟨b, 0, none⟩ = some (.int .i64 sz)) :
    Calls Try.prog 50 #[.pointer (some ⟨b, 0, none⟩)] w fun e w' => e = .returned (.bool (sz == 0)) ∧ w = w' := by
  go_enter Try.func50, Try.ntmps50
  go_wp2
  go_ret
  exact ⟨rfl, rfl⟩
theorem bare_nil (w : World) : Calls Try.prog 50 #[.pointer none] w fun e w' => e = .returned (.bool true) ∧ w = w' := by
  go_enter Try.func50, Try.ntmps50
  go_wp2
  go_ret
  exact ⟨rfl, rfl⟩

theorem place_none (s : St) (bx : Nat) (size : Int) (S : Nat → Prop) (vr : Value) (pvs : List Value) (w : World) (hM : MemV w bx size [] S vr pvs) :
    Calls Try.prog 30 #[.pointer (some ⟨bx, 0, none⟩), s.v] w fun e w' => e = .returned (.tuple #[.int .i64 0, .int .i64 0, .bool false]) ∧ Below w.heap.size w w' := by
  obtain ⟨m0, m1, m2⟩ := hM.cells
  obtain ⟨a, cap, rfl, _, _⟩ := owns_shape hM.rows
  have hB0 := below_box w (.cells #[.int .u64 s.t, .int .u64 s.s] 38)
  have hbx := block_lt_of_heap hM.str
  clear hM
  unfold St.v
  by_cases hs : size = 0
  · subst hs
    go_enter Try.func30, Try.ntmps30
    go_wp2
    go_ret3
    exact ⟨rfl, hB0⟩
  · have hs' : (size == 0) = false := by simpa using hs
    go_enter Try.func30, Try.ntmps30
    go_wp2
    go_ret3
    exact ⟨rfl, hB0⟩


theorem place_some (s : St) (bx : Nat) (size : Int) (hs : size ≠ 0) (R : List (List Ent)) (hR : 0 < R.length) (hm : R.length ≤ 4611686018427387904) (hO : Ordered R)
    (hl : ∀ i, i < R.length → (pageAt R i).length ≤ 4611686018427387904) (S : Nat → Prop) (vr : Value) (pvs : List Value) (w : World) (hM : MemV w bx size R S vr pvs) :
    Calls Try.prog 30 #[.pointer (some ⟨bx, 0, none⟩), s.v] w fun e w' =>
      e = .returned (.tuple #[.int .i64 (pageOf R s), .int .i64 (entOf R s), .bool (there R s)]) ∧ Below w.heap.size w w' := by
  have L1 := Lib.hid (bs1_any (firsts R) s hO.firsts)
  have L2 := Lib.hid (bs2_any (keys (pageAt R (pageOf R s))) s (hO.page _ (pageOf_lt hR)))
  have hp := pageOf_lt (s := s) hR
  obtain ⟨m0, m1, m2⟩ := hM.cells
  obtain ⟨g, cap, rfl, hg, hc, hcm, hrow, -⟩ := hM.row hR
  obtain ⟨g2, cap2, hv2, hg2, hc2, hcm2, hpage, hone, -⟩ := (hM.pages _ hp).parts (hO.full _ hp)
  have hrp := hrow _ hp
  rw [hv2] at hrp
  have hB0 := below_box w (.cells #[.int .u64 s.t, .int .u64 s.s] 38)
  have hbx := block_lt_of_heap hM.str
  have hfull := hO.full
  have hlp := hl _ hp
  have HM := Lib.hid (And.intro hM (And.intro hv2 hfull)); clear hM hO hl hpage hone hv2 hrow hfull
  have hs' : (size == 0) = false := by simpa using hs
  have hn0 : ((R.length : Int) == 0) = false := by rw [beq_eq_false_iff_ne]; omega
  unfold St.v at L1 L2 ⊢
  go_enter Try.func30, Try.ntmps30
  go_wp2_with fail
  refine (bare_any bx size _ (below_cell hB0 m0)).mono ?_
  rintro e w' ⟨rfl, rfl⟩
  go_wp2_with fail
  -- the search of the page
  refine wp_region_rg (fun i => if i = 5 then some (fun v _ => v = .tuple #[.int .i64 (rank (firsts R) s), .bool (isIn (firsts R) s)]) else none) fol (by kernel_rfl) (fun W hW hh => ?_)
  clear hh
  have hBW := below_trans hB0 hW
  have c2 : ∀ w1, Below W.heap.size W w1 → w1.cell? ⟨w.heap.size, 0, none⟩ = some (.int .u64 s.t) := fun w1 h => below_cell (below_trans hW h) (by simp)
  have c3 : ∀ w1, Below W.heap.size W w1 → w1.cell? ⟨w.heap.size, 1, none⟩ = some (.int .u64 s.s) := fun w1 h => below_cell (below_trans hW h) (by simp)
  have c4 : ∀ w1, Below W.heap.size W w1 → w1.cell? ⟨bx, 2, none⟩ = some (.slice (some ⟨g, 0, none⟩) R.length cap) := fun w1 h => below_cell (below_trans hBW h) m2
  repeat (first
    | (refine lex_move _ (by first | exact Or.inl rfl | exact Or.inr rfl) rfl rfl ?_
       simp only [Act.put, Act.eval, Array.getD_eq_getD_getElem?, List.getElem?_toArray, List.getElem?_cons_zero, List.getElem?_cons_succ, Option.getD_some, List.setIfInBounds_toArray, List.set_cons_succ, List.set_cons_zero]
      )
    | (refine lex_float ?_ rfl rfl (fun w1 hb1 hf1 => ?_) ?_
       rotate_left
       (go_simp; (try simp (disch := omega) only [IntWalk.i64_quo, IntWalk.rem_in, IntWalk.i64_in, IntWalk.u64_in, IntWalk.u32_in, IntWalk.u8_in, IntWalk.toNatUp, IntWalk.iteOmega]); (try go_simp); rfl)
       simp only [Act.put, Act.eval, Array.getD_eq_getD_getElem?, List.getElem?_toArray, List.getElem?_cons_zero, List.getElem?_cons_succ, Option.getD_some, List.setIfInBounds_toArray, List.set_cons_succ, List.set_cons_zero]
      )
    | (refine lex_skip rfl ?_
       simp only [Act.put, Act.eval, Array.getD_eq_getD_getElem?, List.getElem?_toArray, List.getElem?_cons_zero, List.getElem?_cons_succ, Option.getD_some, List.setIfInBounds_toArray, List.set_cons_succ, List.set_cons_zero]
      ))
  refine lex_make _ rfl (by exact fun _ _ _ h _ => h) rfl (fun w1 hb1 hf1 => ?_) ?_
  · have hb1' := hb1
    (unfold makes; go_simp; simp only [makesUpon])
    refine (L1.out g R.length cap w1 (length_firsts R).symm hm ((HM.out.1.below (below_trans hBW hb1')).search rfl HM.out.2.2)).mono ?_
    rintro e w' ⟨rfl, hB⟩
    exact ⟨_, rfl, hB, rfl⟩
  rintro v w' hB2 rfl
  have hB3 := below_trans hBW hB2
  have d0 := c2 w' hB2
  have d1 := c3 w' hB2
  have d2 := c4 w' hB2
  simp only [Act.put, Act.eval, Array.getD_eq_getD_getElem?, List.getElem?_toArray, List.getElem?_cons_zero, List.getElem?_cons_succ, Option.getD_some, List.setIfInBounds_toArray, List.set_cons_succ, List.set_cons_zero]
  clear c2 c3 c4
  repeat (first
    | (refine lex_move _ (by first | exact Or.inl rfl | exact Or.inr rfl) rfl rfl ?_
       simp only [Act.put, Act.eval, Array.getD_eq_getD_getElem?, List.getElem?_toArray, List.getElem?_cons_zero, List.getElem?_cons_succ, Option.getD_some, List.setIfInBounds_toArray, List.set_cons_succ, List.set_cons_zero]
      )
    | (refine lex_float ?_ rfl rfl (fun w1 hb1 hf1 => ?_) ?_
       rotate_left
       (go_simp; (try simp (disch := omega) only [IntWalk.i64_quo, IntWalk.rem_in, IntWalk.i64_in, IntWalk.u64_in, IntWalk.u32_in, IntWalk.u8_in, IntWalk.toNatUp, IntWalk.iteOmega]); (try go_simp); rfl)
       simp only [Act.put, Act.eval, Array.getD_eq_getD_getElem?, List.getElem?_toArray, List.getElem?_cons_zero, List.getElem?_cons_succ, Option.getD_some, List.setIfInBounds_toArray, List.set_cons_succ, List.set_cons_zero]
      )
    | (refine lex_skip rfl ?_
       simp only [Act.put, Act.eval, Array.getD_eq_getD_getElem?, List.getElem?_toArray, List.getElem?_cons_zero, List.getElem?_cons_succ, Option.getD_some, List.setIfInBounds_toArray, List.set_cons_succ, List.set_cons_zero]
      ))
  refine lex_nil ?_
  have hpg : pageOf R s = if isIn (firsts R) s then rank (firsts R) s else rank (firsts R) s - 1 := rfl
  have hrl := rank_le (firsts R) s
  rw [length_firsts] at hrl
  have Hpg := Lib.hid hpg; clear hpg
  cases hin : isIn (firsts R) s
  · by_cases hr1 : rank (firsts R) s ≤ 1
    · have hr1' : (rank (firsts R) s : Int) ≤ 1 := by omega
      have hpe : pageOf R s = 0 := by rw [Hpg.out, hin]; simp; omega
      have hpi : (0 : Int) < (R.length : Int) := by omega
      go_wp2_with fail
      have hrp1 : w.cell? ⟨g, 0, none⟩ = some (.slice (some ⟨g2, 0, none⟩) (pageAt R (pageOf R s)).length cap2) := (congrArg (fun x => w.cell? ⟨g, x, none⟩) hpe).symm.trans hrp
      have Hpe := Lib.hid hpe; clear hpe
      have e0 : ∃ N, N = (pageAt R (pageOf R s)).length := ⟨_, rfl⟩
      obtain ⟨N, e0⟩ := e0
      rw [← e0] at hrp1 hlp
      have E0 := Lib.hid e0; clear e0
      refine wp_region_rg (fun i => if i = 8 then some (fun v _ => v = .tuple #[.int .i64 (rank (keys (pageAt R (pageOf R s))) s), .bool (isIn (keys (pageAt R (pageOf R s))) s)]) else none) fol (by kernel_rfl) (fun W2 hW2 hh => ?_)
      clear hh
      have hBW2 := below_trans hB3 hW2
      have c2 : ∀ w1, Below W2.heap.size W2 w1 → w1.cell? ⟨w.heap.size, 0, none⟩ = some (.int .u64 s.t) := fun w1 h => below_cell (below_trans hW2 h) d0
      have c3 : ∀ w1, Below W2.heap.size W2 w1 → w1.cell? ⟨w.heap.size, 1, none⟩ = some (.int .u64 s.s) := fun w1 h => below_cell (below_trans hW2 h) d1
      have c4 : ∀ w1, Below W2.heap.size W2 w1 → w1.cell? ⟨bx, 2, none⟩ = some (.slice (some ⟨g, 0, none⟩) R.length cap) := fun w1 h => below_cell (below_trans hW2 h) d2
      have c5 : ∀ w1, Below W2.heap.size W2 w1 → w1.cell? ⟨g, 0, none⟩ = some (.slice (some ⟨g2, 0, none⟩) N cap2) := fun w1 h => below_cell (below_trans hBW2 h) hrp1
      repeat (first
        | (refine lex_move _ (by first | exact Or.inl rfl | exact Or.inr rfl) rfl rfl ?_
           simp only [Act.put, Act.eval, Array.getD_eq_getD_getElem?, List.getElem?_toArray, List.getElem?_cons_zero, List.getElem?_cons_succ, Option.getD_some, List.setIfInBounds_toArray, List.set_cons_succ, List.set_cons_zero]
          )
        | (refine lex_float ?_ rfl rfl (fun w1 hb1 hf1 => ?_) ?_
           rotate_left
           (go_simp; (try simp (disch := omega) only [IntWalk.i64_quo, IntWalk.rem_in, IntWalk.i64_in, IntWalk.u64_in, IntWalk.u32_in, IntWalk.u8_in, IntWalk.toNatUp, IntWalk.iteOmega]); (try go_simp); rfl)
           simp only [Act.put, Act.eval, Array.getD_eq_getD_getElem?, List.getElem?_toArray, List.getElem?_cons_zero, List.getElem?_cons_succ, Option.getD_some, List.setIfInBounds_toArray, List.set_cons_succ, List.set_cons_zero]
          )
        | (refine lex_skip rfl ?_
           simp only [Act.put, Act.eval, Array.getD_eq_getD_getElem?, List.getElem?_toArray, List.getElem?_cons_zero, List.getElem?_cons_succ, Option.getD_some, List.setIfInBounds_toArray, List.set_cons_succ, List.set_cons_zero]
          ))
      refine lex_make _ rfl (by exact fun _ _ _ h _ => h) rfl (fun w1 hb1 hf1 => ?_) ?_
      · have hb1' := hb1
        (unfold makes; go_simp; simp only [makesUpon])
        refine (L2.out g2 N cap2 w1 (by rw [E0.out, length_keys]) hlp (by rw [E0.out]; exact ((HM.out.1.below (below_trans hBW2 hb1')).pages _ hp).search HM.out.2.1)).mono ?_
        rintro e w' ⟨rfl, hB⟩
        exact ⟨_, rfl, hB, rfl⟩
      rintro v w'' hB4 rfl
      simp only [Act.put, Act.eval, Array.getD_eq_getD_getElem?, List.getElem?_toArray, List.getElem?_cons_zero, List.getElem?_cons_succ, Option.getD_some, List.setIfInBounds_toArray, List.set_cons_succ, List.set_cons_zero]
      clear c2 c3 c4 c5
      repeat (first
        | (refine lex_move _ (by first | exact Or.inl rfl | exact Or.inr rfl) rfl rfl ?_
           simp only [Act.put, Act.eval, Array.getD_eq_getD_getElem?, List.getElem?_toArray, List.getElem?_cons_zero, List.getElem?_cons_succ, Option.getD_some, List.setIfInBounds_toArray, List.set_cons_succ, List.set_cons_zero]
          )
        | (refine lex_float ?_ rfl rfl (fun w1 hb1 hf1 => ?_) ?_
           rotate_left
           (go_simp; (try simp (disch := omega) only [IntWalk.i64_quo, IntWalk.rem_in, IntWalk.i64_in, IntWalk.u64_in, IntWalk.u32_in, IntWalk.u8_in, IntWalk.toNatUp, IntWalk.iteOmega]); (try go_simp); rfl)
           simp only [Act.put, Act.eval, Array.getD_eq_getD_getElem?, List.getElem?_toArray, List.getElem?_cons_zero, List.getElem?_cons_succ, Option.getD_some, List.setIfInBounds_toArray, List.set_cons_succ, List.set_cons_zero]
          )
        | (refine lex_skip rfl ?_
           simp only [Act.put, Act.eval, Array.getD_eq_getD_getElem?, List.getElem?_toArray, List.getElem?_cons_zero, List.getElem?_cons_succ, Option.getD_some, List.setIfInBounds_toArray, List.set_cons_succ, List.set_cons_zero]
          ))
      refine lex_nil ?_
      go_wp2_with fail
      go_ret3
      exact ⟨by rw [Hpe.out]; simp [entOf, there, Hpe.out], below_trans hBW2 hB4⟩
    · have hr1' : ¬ (rank (firsts R) s : Int) ≤ 1 := by omega
      have hpe : pageOf R s = rank (firsts R) s - 1 := by rw [Hpg.out, hin]; simp
      have hpi : (rank (firsts R) s : Int) - 1 < (R.length : Int) := by omega
      have hpj : (0 : Int) ≤ (rank (firsts R) s : Int) - 1 := by omega
      go_wp2_with fail
      have hz : (rank (firsts R) s : Int) - 1 = ((rank (firsts R) s - 1 : Nat) : Int) := by omega
      rw [hz] at hpi ⊢
      clear hz hpj
      have hrp1 : w.cell? ⟨g, (rank (firsts R) s - 1), none⟩ = some (.slice (some ⟨g2, 0, none⟩) (pageAt R (pageOf R s)).length cap2) := (congrArg (fun x => w.cell? ⟨g, x, none⟩) hpe).symm.trans hrp
      have Hpe := Lib.hid hpe; clear hpe
      have e0 : ∃ N, N = (pageAt R (pageOf R s)).length := ⟨_, rfl⟩
      obtain ⟨N, e0⟩ := e0
      rw [← e0] at hrp1 hlp
      have E0 := Lib.hid e0; clear e0
      refine wp_region_rg (fun i => if i = 8 then some (fun v _ => v = .tuple #[.int .i64 (rank (keys (pageAt R (pageOf R s))) s), .bool (isIn (keys (pageAt R (pageOf R s))) s)]) else none) fol (by kernel_rfl) (fun W2 hW2 hh => ?_)
      clear hh
      have hBW2 := below_trans hB3 hW2
      have c2 : ∀ w1, Below W2.heap.size W2 w1 → w1.cell? ⟨w.heap.size, 0, none⟩ = some (.int .u64 s.t) := fun w1 h => below_cell (below_trans hW2 h) d0
      have c3 : ∀ w1, Below W2.heap.size W2 w1 → w1.cell? ⟨w.heap.size, 1, none⟩ = some (.int .u64 s.s) := fun w1 h => below_cell (below_trans hW2 h) d1
      have c4 : ∀ w1, Below W2.heap.size W2 w1 → w1.cell? ⟨bx, 2, none⟩ = some (.slice (some ⟨g, 0, none⟩) R.length cap) := fun w1 h => below_cell (below_trans hW2 h) d2
      have c5 : ∀ w1, Below W2.heap.size W2 w1 → w1.cell? ⟨g, (rank (firsts R) s - 1), none⟩ = some (.slice (some ⟨g2, 0, none⟩) N cap2) := fun w1 h => below_cell (below_trans hBW2 h) hrp1
      repeat (first
        | (refine lex_move _ (by first | exact Or.inl rfl | exact Or.inr rfl) rfl rfl ?_
           simp only [Act.put, Act.eval, Array.getD_eq_getD_getElem?, List.getElem?_toArray, List.getElem?_cons_zero, List.getElem?_cons_succ, Option.getD_some, List.setIfInBounds_toArray, List.set_cons_succ, List.set_cons_zero]
          )
        | (refine lex_float ?_ rfl rfl (fun w1 hb1 hf1 => ?_) ?_
           rotate_left
           (go_simp; (try simp (disch := omega) only [IntWalk.i64_quo, IntWalk.rem_in, IntWalk.i64_in, IntWalk.u64_in, IntWalk.u32_in, IntWalk.u8_in, IntWalk.toNatUp, IntWalk.iteOmega]); (try go_simp); rfl)
           simp only [Act.put, Act.eval, Array.getD_eq_getD_getElem?, List.getElem?_toArray, List.getElem?_cons_zero, List.getElem?_cons_succ, Option.getD_some, List.setIfInBounds_toArray, List.set_cons_succ, List.set_cons_zero]
          )
        | (refine lex_skip rfl ?_
           simp only [Act.put, Act.eval, Array.getD_eq_getD_getElem?, List.getElem?_toArray, List.getElem?_cons_zero, List.getElem?_cons_succ, Option.getD_some, List.setIfInBounds_toArray, List.set_cons_succ, List.set_cons_zero]
          ))
      refine lex_make _ rfl (by exact fun _ _ _ h _ => h) rfl (fun w1 hb1 hf1 => ?_) ?_
      · have hb1' := hb1
        (unfold makes; go_simp; simp only [makesUpon])
        refine (L2.out g2 N cap2 w1 (by rw [E0.out, length_keys]) hlp (by rw [E0.out]; exact ((HM.out.1.below (below_trans hBW2 hb1')).pages _ hp).search HM.out.2.1)).mono ?_
        rintro e w' ⟨rfl, hB⟩
        exact ⟨_, rfl, hB, rfl⟩
      rintro v w'' hB4 rfl
      simp only [Act.put, Act.eval, Array.getD_eq_getD_getElem?, List.getElem?_toArray, List.getElem?_cons_zero, List.getElem?_cons_succ, Option.getD_some, List.setIfInBounds_toArray, List.set_cons_succ, List.set_cons_zero]
      clear c2 c3 c4 c5
      repeat (first
        | (refine lex_move _ (by first | exact Or.inl rfl | exact Or.inr rfl) rfl rfl ?_
           simp only [Act.put, Act.eval, Array.getD_eq_getD_getElem?, List.getElem?_toArray, List.getElem?_cons_zero, List.getElem?_cons_succ, Option.getD_some, List.setIfInBounds_toArray, List.set_cons_succ, List.set_cons_zero]
          )
        | (refine lex_float ?_ rfl rfl (fun w1 hb1 hf1 => ?_) ?_
           rotate_left
           (go_simp; (try simp (disch := omega) only [IntWalk.i64_quo, IntWalk.rem_in, IntWalk.i64_in, IntWalk.u64_in, IntWalk.u32_in, IntWalk.u8_in, IntWalk.toNatUp, IntWalk.iteOmega]); (try go_simp); rfl)
           simp only [Act.put, Act.eval, Array.getD_eq_getD_getElem?, List.getElem?_toArray, List.getElem?_cons_zero, List.getElem?_cons_succ, Option.getD_some, List.setIfInBounds_toArray, List.set_cons_succ, List.set_cons_zero]
          )
        | (refine lex_skip rfl ?_
           simp only [Act.put, Act.eval, Array.getD_eq_getD_getElem?, List.getElem?_toArray, List.getElem?_cons_zero, List.getElem?_cons_succ, Option.getD_some, List.setIfInBounds_toArray, List.set_cons_succ, List.set_cons_zero]
          ))
      refine lex_nil ?_
      go_wp2_with fail
      go_ret3
      exact ⟨by rw [Hpe.out]; simp [entOf, there, Hpe.out], below_trans hBW2 hB4⟩
  · have hpe : pageOf R s = rank (firsts R) s := by rw [Hpg.out, hin]; simp
    have hpi : (rank (firsts R) s : Int) < (R.length : Int) := by rw [hpe] at hp; omega
    go_wp2_with fail
    have hrp1 : w.cell? ⟨g, (rank (firsts R) s), none⟩ = some (.slice (some ⟨g2, 0, none⟩) (pageAt R (pageOf R s)).length cap2) := (congrArg (fun x => w.cell? ⟨g, x, none⟩) hpe).symm.trans hrp
    have Hpe := Lib.hid hpe; clear hpe
    have e0 : ∃ N, N = (pageAt R (pageOf R s)).length := ⟨_, rfl⟩
    obtain ⟨N, e0⟩ := e0
    rw [← e0] at hrp1 hlp
    have E0 := Lib.hid e0; clear e0
    refine wp_region_rg (fun i => if i = 8 then some (fun v _ => v = .tuple #[.int .i64 (rank (keys (pageAt R (pageOf R s))) s), .bool (isIn (keys (pageAt R (pageOf R s))) s)]) else none) fol (by kernel_rfl) (fun W2 hW2 hh => ?_)
    clear hh
    have hBW2 := below_trans hB3 hW2
    have c2 : ∀ w1, Below W2.heap.size W2 w1 → w1.cell? ⟨w.heap.size, 0, none⟩ = some (.int .u64 s.t) := fun w1 h => below_cell (below_trans hW2 h) d0
    have c3 : ∀ w1, Below W2.heap.size W2 w1 → w1.cell? ⟨w.heap.size, 1, none⟩ = some (.int .u64 s.s) := fun w1 h => below_cell (below_trans hW2 h) d1
    have c4 : ∀ w1, Below W2.heap.size W2 w1 → w1.cell? ⟨bx, 2, none⟩ = some (.slice (some ⟨g, 0, none⟩) R.length cap) := fun w1 h => below_cell (below_trans hW2 h) d2
    have c5 : ∀ w1, Below W2.heap.size W2 w1 → w1.cell? ⟨g, (rank (firsts R) s), none⟩ = some (.slice (some ⟨g2, 0, none⟩) N cap2) := fun w1 h => below_cell (below_trans hBW2 h) hrp1
    repeat (first
      | (refine lex_move _ (by first | exact Or.inl rfl | exact Or.inr rfl) rfl rfl ?_
         simp only [Act.put, Act.eval, Array.getD_eq_getD_getElem?, List.getElem?_toArray, List.getElem?_cons_zero, List.getElem?_cons_succ, Option.getD_some, List.setIfInBounds_toArray, List.set_cons_succ, List.set_cons_zero]
        )
      | (refine lex_float ?_ rfl rfl (fun w1 hb1 hf1 => ?_) ?_
         rotate_left
         (go_simp; (try simp (disch := omega) only [IntWalk.i64_quo, IntWalk.rem_in, IntWalk.i64_in, IntWalk.u64_in, IntWalk.u32_in, IntWalk.u8_in, IntWalk.toNatUp, IntWalk.iteOmega]); (try go_simp); rfl)
         simp only [Act.put, Act.eval, Array.getD_eq_getD_getElem?, List.getElem?_toArray, List.getElem?_cons_zero, List.getElem?_cons_succ, Option.getD_some, List.setIfInBounds_toArray, List.set_cons_succ, List.set_cons_zero]
        )
      | (refine lex_skip rfl ?_
         simp only [Act.put, Act.eval, Array.getD_eq_getD_getElem?, List.getElem?_toArray, List.getElem?_cons_zero, List.getElem?_cons_succ, Option.getD_some, List.setIfInBounds_toArray, List.set_cons_succ, List.set_cons_zero]
        ))
    refine lex_make _ rfl (by exact fun _ _ _ h _ => h) rfl (fun w1 hb1 hf1 => ?_) ?_
    · have hb1' := hb1
      (unfold makes; go_simp; simp only [makesUpon])
      refine (L2.out g2 N cap2 w1 (by rw [E0.out, length_keys]) hlp (by rw [E0.out]; exact ((HM.out.1.below (below_trans hBW2 hb1')).pages _ hp).search HM.out.2.1)).mono ?_
      rintro e w' ⟨rfl, hB⟩
      exact ⟨_, rfl, hB, rfl⟩
    rintro v w'' hB4 rfl
    simp only [Act.put, Act.eval, Array.getD_eq_getD_getElem?, List.getElem?_toArray, List.getElem?_cons_zero, List.getElem?_cons_succ, Option.getD_some, List.setIfInBounds_toArray, List.set_cons_succ, List.set_cons_zero]
    clear c2 c3 c4 c5
    repeat (first
      | (refine lex_move _ (by first | exact Or.inl rfl | exact Or.inr rfl) rfl rfl ?_
         simp only [Act.put, Act.eval, Array.getD_eq_getD_getElem?, List.getElem?_toArray, List.getElem?_cons_zero, List.getElem?_cons_succ, Option.getD_some, List.setIfInBounds_toArray, List.set_cons_succ, List.set_cons_zero]
        )
      | (refine lex_float ?_ rfl rfl (fun w1 hb1 hf1 => ?_) ?_
         rotate_left
         (go_simp; (try simp (disch := omega) only [IntWalk.i64_quo, IntWalk.rem_in, IntWalk.i64_in, IntWalk.u64_in, IntWalk.u32_in, IntWalk.u8_in, IntWalk.toNatUp, IntWalk.iteOmega]); (try go_simp); rfl)
         simp only [Act.put, Act.eval, Array.getD_eq_getD_getElem?, List.getElem?_toArray, List.getElem?_cons_zero, List.getElem?_cons_succ, Option.getD_some, List.setIfInBounds_toArray, List.set_cons_succ, List.set_cons_zero]
        )
      | (refine lex_skip rfl ?_
         simp only [Act.put, Act.eval, Array.getD_eq_getD_getElem?, List.getElem?_toArray, List.getElem?_cons_zero, List.getElem?_cons_succ, Option.getD_some, List.setIfInBounds_toArray, List.set_cons_succ, List.set_cons_zero]
        ))
    refine lex_nil ?_
    go_wp2_with fail
    go_ret3
    exact ⟨by rw [Hpe.out]; simp [entOf, there, Hpe.out], below_trans hBW2 hB4⟩
end Go.Proofs.Ytagcohpghgnalaa.U
