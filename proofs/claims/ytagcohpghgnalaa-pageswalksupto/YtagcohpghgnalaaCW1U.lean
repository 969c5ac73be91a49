/-
  The walks of the two searches, and of Place (V: uint64).
-/
import Derived.Test.YtagcohpghgnalaaCW0
import Derived.Test.YtagcohpghgnalaaCGB
set_option linter.unusedSimpArgs false
set_option linter.unusedVariables false
namespace Go.Proofs.Ytagcohpghgnalaa.U
open Go.RowKit Go.RG Go.Hp Go.Pg Go.Proofs.Ytagcohpghgnalaa


theorem pl1_any (a b : St) (k off n c : Nat) (w : World) (hn : 0 < n) (h0 : w.cell? ⟨k, off, none⟩ = some (.int .u64 a.t)) (h1 : w.cell? ⟨k, off + 1, none⟩ = some (.int .u64 a.s)) :
    Calls Try.prog 67 #[.slice (some ⟨k, off, none⟩) n c, b.v] w fun e w' => e = .returned (.int .i64 (ord a b)) ∧ Below w.heap.size w w' := by
  have L := order_any
  unfold St.v at L ⊢
  have hk := block_lt_of_cell h0
  have hn' : (0 : Int) < (n : Int) := by omega
  have hB0 := below_box w (.cells #[.int .u64 b.t, .int .u64 b.s] 38)
  go_enter Try.func67, Try.ntmps67
  go_wp2_with fail
  refine wp_region_rg (fun i => if i = 5 then some (fun v _ => v = .int .i64 (ord a b)) else none) fol (by kernel_rfl) (fun W hW hh => ?_)
  clear hh
  have c0 : ∀ w1, Below W.heap.size W w1 → w1.cell? ⟨k, off, none⟩ = some (.int .u64 a.t) := fun w1 h => below_cell (below_trans hB0 (below_trans hW h)) h0
  have c1 : ∀ w1, Below W.heap.size W w1 → w1.cell? ⟨k, off + 1, none⟩ = some (.int .u64 a.s) := fun w1 h => below_cell (below_trans hB0 (below_trans hW h)) h1
  have c2 : ∀ w1, Below W.heap.size W w1 → w1.cell? ⟨w.heap.size, 0, none⟩ = some (.int .u64 b.t) := fun w1 h => below_cell (below_trans hW h) (by simp)
  have c3 : ∀ w1, Below W.heap.size W w1 → w1.cell? ⟨w.heap.size, 1, none⟩ = some (.int .u64 b.s) := fun w1 h => below_cell (below_trans hW h) (by simp)
  repeat (first
    | (refine lex_move _ (by first | exact Or.inl rfl | exact Or.inr rfl) rfl rfl ?_
       simp only [Act.put, Act.eval, Array.getD_eq_getD_getElem?, List.getElem?_toArray, List.getElem?_cons_zero, List.getElem?_cons_succ, Option.getD_some, List.setIfInBounds_toArray, List.set_cons_succ, List.set_cons_zero]
      )
    | (refine lex_float ?_ rfl rfl (fun w1 hb1 hf1 => ?_) ?_
       rotate_left
       (go_simp; (try simp (disch := omega) only [IntWalk.i64_quo, IntWalk.rem_in, IntWalk.i64_in, IntWalk.u64_in, IntWalk.u32_in, IntWalk.u8_in, IntWalk.toNatUp, IntWalk.iteOmega]); (try go_simp); rfl)
       simp only [Act.put, Act.eval, Array.getD_eq_getD_getElem?, List.getElem?_toArray, List.getElem?_cons_zero, List.getElem?_cons_succ, Option.getD_some, List.setIfInBounds_toArray, List.set_cons_succ, List.set_cons_zero]
      )
    | (refine lex_skip rfl ?_
       simp only [Act.put, Act.eval, Array.getD_eq_getD_getElem?, List.getElem?_toArray, List.getElem?_cons_zero, List.getElem?_cons_succ, Option.getD_some, List.setIfInBounds_toArray, List.set_cons_succ, List.set_cons_zero]
      ))
  refine lex_make _ rfl (by exact fun _ _ _ h _ => h) rfl (fun w1 hb1 hf1 => ?_) ?_
  · (unfold makes; go_simp; simp only [makesUpon])
    refine (L _ _ _).mono ?_
    rintro e w' ⟨rfl, hB⟩
    exact ⟨_, rfl, hB, rfl⟩
  rintro v w' hB rfl
  simp only [Act.put, Act.eval, Array.getD_eq_getD_getElem?, List.getElem?_toArray, List.getElem?_cons_zero, List.getElem?_cons_succ, Option.getD_some, List.setIfInBounds_toArray, List.set_cons_succ, List.set_cons_zero]
  repeat (first
    | (refine lex_move _ (by first | exact Or.inl rfl | exact Or.inr rfl) rfl rfl ?_
       simp only [Act.put, Act.eval, Array.getD_eq_getD_getElem?, List.getElem?_toArray, List.getElem?_cons_zero, List.getElem?_cons_succ, Option.getD_some, List.setIfInBounds_toArray, List.set_cons_succ, List.set_cons_zero]
      )
    | (refine lex_float ?_ rfl rfl (fun w1 hb1 hf1 => ?_) ?_
       rotate_left
       (go_simp; (try simp (disch := omega) only [IntWalk.i64_quo, IntWalk.rem_in, IntWalk.i64_in, IntWalk.u64_in, IntWalk.u32_in, IntWalk.u8_in, IntWalk.toNatUp, IntWalk.iteOmega]); (try go_simp); rfl)
       simp only [Act.put, Act.eval, Array.getD_eq_getD_getElem?, List.getElem?_toArray, List.getElem?_cons_zero, List.getElem?_cons_succ, Option.getD_some, List.setIfInBounds_toArray, List.set_cons_succ, List.set_cons_zero]
      )
    | (refine lex_skip rfl ?_
       simp only [Act.put, Act.eval, Array.getD_eq_getD_getElem?, List.getElem?_toArray, List.getElem?_cons_zero, List.getElem?_cons_succ, Option.getD_some, List.setIfInBounds_toArray, List.set_cons_succ, List.set_cons_zero]
      ))
  refine lex_nil ?_
  go_wp2_with fail
  go_ret
  exact ⟨rfl, below_trans hB0 (below_trans hW hB)⟩

theorem pl2_any (a b : St) (x : Value) (hx : x.oneCell' = true) (w : World) :
    Calls Try.prog 70 #[.agg #[.int .u64 a.t, .int .u64 a.s, x], b.v] w fun e w' => e = .returned (.int .i64 (ord a b)) ∧ Below w.heap.size w w' := by
  have L := order_any
  unfold St.v at L ⊢
  have hB0 : Below w.heap.size w ((w.alloc (Obj.cells #[.int .u64 a.t, .int .u64 a.s, x] 92)).alloc (Obj.cells #[.int .u64 b.t, .int .u64 b.s] 38)) :=
    ((Below.refl _ w).alloc (Nat.le_refl _) _).alloc (by simp) _
  go_enter Try.func70, Try.ntmps70
  go_wp2_with (go_at_call 68; refine (L _ _ _).mono ?_; rintro e w2 ⟨rfl, hB2⟩)
  go_ret
  exact ⟨rfl, below_trans hB0 hB2⟩

theorem bs1_any (ks : List St) (s : St) (hr : Rising ks) (k n c : Nat) (w : World) (hn : n = ks.length) (hm : n ≤ 4611686018427387904)
    (hrow : ∀ i, i < n → ∃ g cap m, w.cell? ⟨k, i, none⟩ = some (.slice (some ⟨g, 0, none⟩) m cap) ∧ 0 < m ∧ w.cell? ⟨g, 0, none⟩ = some (.int .u64 (key ks i).t) ∧ w.cell? ⟨g, 1, none⟩ = some (.int .u64 (key ks i).s)) :
    Calls Try.prog 66 #[.slice (some ⟨k, 0, none⟩) n c, s.v, .func (.func 67) #[] #[]] w fun e w' => e = .returned (.tuple #[.int .i64 (rank ks s), .bool (isIn ks s)]) ∧ Below w.heap.size w w' := by
  have L := pl1_any
  have Hn := Lib.hid hn; clear hn
  have Hrow := Lib.hid hrow; clear hrow
  unfold St.v
  go_enter Try.func66, Try.ntmps66
  go_wp2_with fail
  go_loopw [9, 10, 11] (fun vi vj vh wr => ∃ i j : Nat, vi = .int .i64 i ∧ vj = .int .i64 j ∧ i ≤ j ∧ j ≤ n ∧ (∀ q, q < i → (key ks q).lt s = true) ∧ (∀ q, j ≤ q → q < n → (key ks q).lt s = false) ∧ Below w.heap.size w wr ∧ wr.cell? ⟨w.heap.size, 0, none⟩ = some (.int .u64 s.t) ∧ wr.cell? ⟨w.heap.size, 1, none⟩ = some (.int .u64 s.s))
    (fun vi vj _ _ => (intOf vj).toNat - (intOf vi).toNat)
  case atStart => exact ⟨0, n, rfl, rfl, by omega, by omega, by omega, by omega, below_box w _, by simp, by simp⟩
  case round =>
    obtain ⟨i, j, rfl, rfl, hij, hjn, hlo, hhi, hB, hs0, hs1⟩ := hrel
    have Hlo := Lib.hid hlo; clear hlo
    have Hhi := Lib.hid hhi; clear hhi
    by_cases hlt : i < j
    · go_wp2_with fail
      obtain ⟨h, hh1, hh2, hhe⟩ : ∃ h : Nat, i ≤ h ∧ h < j ∧ ((i : Int) + (j : Int)) / 2 = (h : Int) := ⟨(i + j) / 2, by omega, by omega, by omega⟩
      rw [hhe]
      clear hhe
      obtain ⟨g, cap, m, r0, hm0, r1, r2⟩ := Hrow.out h (by omega)
      have hhn : (h : Int) < (n : Int) := by omega
      refine wp_region_rg (fun i => if i = 6 then some (fun v _ => v = .int .i64 (ord (key ks h) s)) else none) fol (by kernel_rfl) (fun W hW hh => ?_)
      clear hh
      have hBW := below_trans hB hW
      have c0 : ∀ w1, Below W.heap.size W w1 → w1.cell? ⟨k, h, none⟩ = some (.slice (some ⟨g, 0, none⟩) m cap) := fun w1 h => below_cell (below_trans hBW h) r0
      have c2 : ∀ w1, Below W.heap.size W w1 → w1.cell? ⟨w.heap.size, 0, none⟩ = some (.int .u64 s.t) := fun w1 h => below_cell (below_trans hW h) hs0
      have c3 : ∀ w1, Below W.heap.size W w1 → w1.cell? ⟨w.heap.size, 1, none⟩ = some (.int .u64 s.s) := fun w1 h => below_cell (below_trans hW h) hs1
      repeat (first
        | (refine lex_move _ (by first | exact Or.inl rfl | exact Or.inr rfl) rfl rfl ?_
           simp only [Act.put, Act.eval, Array.getD_eq_getD_getElem?, List.getElem?_toArray, List.getElem?_cons_zero, List.getElem?_cons_succ, Option.getD_some, List.setIfInBounds_toArray, List.set_cons_succ, List.set_cons_zero]
          )
        | (refine lex_float ?_ rfl rfl (fun w1 hb1 hf1 => ?_) ?_
           rotate_left
           (go_simp; (try simp (disch := omega) only [IntWalk.i64_quo, IntWalk.rem_in, IntWalk.i64_in, IntWalk.u64_in, IntWalk.u32_in, IntWalk.u8_in, IntWalk.toNatUp, IntWalk.iteOmega]); (try go_simp); rfl)
           simp only [Act.put, Act.eval, Array.getD_eq_getD_getElem?, List.getElem?_toArray, List.getElem?_cons_zero, List.getElem?_cons_succ, Option.getD_some, List.setIfInBounds_toArray, List.set_cons_succ, List.set_cons_zero]
          )
        | (refine lex_skip rfl ?_
           simp only [Act.put, Act.eval, Array.getD_eq_getD_getElem?, List.getElem?_toArray, List.getElem?_cons_zero, List.getElem?_cons_succ, Option.getD_some, List.setIfInBounds_toArray, List.set_cons_succ, List.set_cons_zero]
          ))
      refine lex_make _ rfl (by exact fun _ _ _ h _ => h) rfl (fun w1 hb1 hf1 => ?_) ?_
      · have hb1' := hb1
        (unfold makes; go_simp; simp only [makesUpon])
        refine (L (key ks h) s g 0 m cap w1 hm0 (below_cell (below_trans hBW hb1') r1) (below_cell (below_trans hBW hb1') r2)).mono ?_
        rintro e w' ⟨rfl, hB⟩
        exact ⟨_, rfl, hB, rfl⟩
      rintro v w' hB2 rfl
      have hB3 := below_trans hBW hB2
      have d0 := below_cell (below_trans hW hB2) hs0
      have d1 := below_cell (below_trans hW hB2) hs1
      simp only [Act.put, Act.eval, Array.getD_eq_getD_getElem?, List.getElem?_toArray, List.getElem?_cons_zero, List.getElem?_cons_succ, Option.getD_some, List.setIfInBounds_toArray, List.set_cons_succ, List.set_cons_zero]
      clear c0 c2 c3 r0 r1 r2
      repeat (first
        | (refine lex_move _ (by first | exact Or.inl rfl | exact Or.inr rfl) rfl rfl ?_
           simp only [Act.put, Act.eval, Array.getD_eq_getD_getElem?, List.getElem?_toArray, List.getElem?_cons_zero, List.getElem?_cons_succ, Option.getD_some, List.setIfInBounds_toArray, List.set_cons_succ, List.set_cons_zero]
          )
        | (refine lex_float ?_ rfl rfl (fun w1 hb1 hf1 => ?_) ?_
           rotate_left
           (go_simp; (try simp (disch := omega) only [IntWalk.i64_quo, IntWalk.rem_in, IntWalk.i64_in, IntWalk.u64_in, IntWalk.u32_in, IntWalk.u8_in, IntWalk.toNatUp, IntWalk.iteOmega]); (try go_simp); rfl)
           simp only [Act.put, Act.eval, Array.getD_eq_getD_getElem?, List.getElem?_toArray, List.getElem?_cons_zero, List.getElem?_cons_succ, Option.getD_some, List.setIfInBounds_toArray, List.set_cons_succ, List.set_cons_zero]
          )
        | (refine lex_skip rfl ?_
           simp only [Act.put, Act.eval, Array.getD_eq_getD_getElem?, List.getElem?_toArray, List.getElem?_cons_zero, List.getElem?_cons_succ, Option.getD_some, List.setIfInBounds_toArray, List.set_cons_succ, List.set_cons_zero]
          ))
      refine lex_nil ?_
      go_wp2_with fail
      · have hc : ord (key ks h) s < 0 := by assumption
        have hlo := Hlo.out
        have hn := Hn.out
        refine ⟨⟨h + 1, j, by go_num, rfl, by omega, by omega, fun q hq => ?_, Hhi.out, hB3, d0, d1⟩, by simp [intOf]; omega⟩
        rcases Nat.lt_or_ge q i with hq1 | hq1
        · exact hlo q hq1
        · rcases Nat.lt_or_ge q h with hq2 | hq2
          · exact rising_lt hr hq2 (by omega) (ord_neg.1 hc)
          · rw [show q = h by omega]; exact ord_neg.1 hc
      · have hc : 0 ≤ ord (key ks h) s := by assumption
        have hhi := Hhi.out
        have hn := Hn.out
        refine ⟨⟨i, h, rfl, rfl, by omega, by omega, Hlo.out, fun q hq hqn => ?_, hB3, d0, d1⟩, by simp [intOf]; omega⟩
        have hf : (key ks h).lt s = false := by
          cases e : (key ks h).lt s
          · rfl
          · have := ord_neg.2 e; omega
        rcases Nat.lt_or_ge h q with hq1 | hq1
        · exact rising_ge hr hq1 (by omega) hf
        · rw [show q = h by omega]; exact hf
    · obtain rfl : j = i := by omega
      have hn := Hn.out
      have hrank : rank ks s = j := rank_unique hr (by omega) Hlo.out (fun q h1 h2 => Hhi.out q h1 (by omega))
      clear hn
      have Hrank := Lib.hid hrank; clear hrank
      by_cases hin : j < n
      · go_wp2_with fail
        obtain ⟨g, cap, m, r0, hm0, r1, r2⟩ := Hrow.out j (by omega)
        have hhn : (j : Int) < (n : Int) := by omega
        refine wp_region_rg (fun i => if i = 11 then some (fun v _ => v = .int .i64 (ord (key ks j) s)) else none) fol (by kernel_rfl) (fun W hW hh => ?_)
        clear hh
        have hBW := below_trans hB hW
        have c0 : ∀ w1, Below W.heap.size W w1 → w1.cell? ⟨k, j, none⟩ = some (.slice (some ⟨g, 0, none⟩) m cap) := fun w1 h => below_cell (below_trans hBW h) r0
        have c2 : ∀ w1, Below W.heap.size W w1 → w1.cell? ⟨w.heap.size, 0, none⟩ = some (.int .u64 s.t) := fun w1 h => below_cell (below_trans hW h) hs0
        have c3 : ∀ w1, Below W.heap.size W w1 → w1.cell? ⟨w.heap.size, 1, none⟩ = some (.int .u64 s.s) := fun w1 h => below_cell (below_trans hW h) hs1
        repeat (first
          | (refine lex_move _ (by first | exact Or.inl rfl | exact Or.inr rfl) rfl rfl ?_
             simp only [Act.put, Act.eval, Array.getD_eq_getD_getElem?, List.getElem?_toArray, List.getElem?_cons_zero, List.getElem?_cons_succ, Option.getD_some, List.setIfInBounds_toArray, List.set_cons_succ, List.set_cons_zero]
            )
          | (refine lex_float ?_ rfl rfl (fun w1 hb1 hf1 => ?_) ?_
             rotate_left
             (go_simp; (try simp (disch := omega) only [IntWalk.i64_quo, IntWalk.rem_in, IntWalk.i64_in, IntWalk.u64_in, IntWalk.u32_in, IntWalk.u8_in, IntWalk.toNatUp, IntWalk.iteOmega]); (try go_simp); rfl)
             simp only [Act.put, Act.eval, Array.getD_eq_getD_getElem?, List.getElem?_toArray, List.getElem?_cons_zero, List.getElem?_cons_succ, Option.getD_some, List.setIfInBounds_toArray, List.set_cons_succ, List.set_cons_zero]
            )
          | (refine lex_skip rfl ?_
             simp only [Act.put, Act.eval, Array.getD_eq_getD_getElem?, List.getElem?_toArray, List.getElem?_cons_zero, List.getElem?_cons_succ, Option.getD_some, List.setIfInBounds_toArray, List.set_cons_succ, List.set_cons_zero]
            ))
        refine lex_make _ rfl (by exact fun _ _ _ h _ => h) rfl (fun w1 hb1 hf1 => ?_) ?_
        · have hb1' := hb1
          (unfold makes; go_simp; simp only [makesUpon])
          refine (L (key ks j) s g 0 m cap w1 hm0 (below_cell (below_trans hBW hb1') r1) (below_cell (below_trans hBW hb1') r2)).mono ?_
          rintro e w' ⟨rfl, hB⟩
          exact ⟨_, rfl, hB, rfl⟩
        rintro v w' hB2 rfl
        simp only [Act.put, Act.eval, Array.getD_eq_getD_getElem?, List.getElem?_toArray, List.getElem?_cons_zero, List.getElem?_cons_succ, Option.getD_some, List.setIfInBounds_toArray, List.set_cons_succ, List.set_cons_zero]
        clear c0 c2 c3 r0 r1 r2
        repeat (first
          | (refine lex_move _ (by first | exact Or.inl rfl | exact Or.inr rfl) rfl rfl ?_
             simp only [Act.put, Act.eval, Array.getD_eq_getD_getElem?, List.getElem?_toArray, List.getElem?_cons_zero, List.getElem?_cons_succ, Option.getD_some, List.setIfInBounds_toArray, List.set_cons_succ, List.set_cons_zero]
            )
          | (refine lex_float ?_ rfl rfl (fun w1 hb1 hf1 => ?_) ?_
             rotate_left
             (go_simp; (try simp (disch := omega) only [IntWalk.i64_quo, IntWalk.rem_in, IntWalk.i64_in, IntWalk.u64_in, IntWalk.u32_in, IntWalk.u8_in, IntWalk.toNatUp, IntWalk.iteOmega]); (try go_simp); rfl)
             simp only [Act.put, Act.eval, Array.getD_eq_getD_getElem?, List.getElem?_toArray, List.getElem?_cons_zero, List.getElem?_cons_succ, Option.getD_some, List.setIfInBounds_toArray, List.set_cons_succ, List.set_cons_zero]
            )
          | (refine lex_skip rfl ?_
             simp only [Act.put, Act.eval, Array.getD_eq_getD_getElem?, List.getElem?_toArray, List.getElem?_cons_zero, List.getElem?_cons_succ, Option.getD_some, List.setIfInBounds_toArray, List.set_cons_succ, List.set_cons_zero]
            ))
        refine lex_nil ?_
        go_wp2_with fail
        go_ret2
        refine ⟨?_, below_trans hBW hB2⟩
        rw [Hrank.out]
        have hn := Hn.out
        have : (ord (key ks j) s == 0) = isIn ks s := by
          rw [Bool.eq_iff_iff, beq_iff_eq, ord_zero, isIn_iff, Hrank.out]
          exact ⟨fun h => ⟨by omega, h⟩, fun h => h.2⟩
        simp [this]
      · go_wp2_with fail
        have hin' : ¬ ((j : Int) < (n : Int)) := by omega
        refine wp_region_rg (fun i => if i = 11 then some (fun v _ => v = .int .i64 0) else none) fol (by kernel_rfl) (fun W hW hh => ?_)
        clear hh
        have hBW := below_trans hB hW
        have hdec : decide ((j : Int) < (n : Int)) = false := by simpa using hin'
        repeat (first
          | (refine lex_move _ (by first | exact Or.inl rfl | exact Or.inr rfl) rfl rfl ?_
             simp only [Act.put, Act.eval, Array.getD_eq_getD_getElem?, List.getElem?_toArray, List.getElem?_cons_zero, List.getElem?_cons_succ, Option.getD_some, List.setIfInBounds_toArray, List.set_cons_succ, List.set_cons_zero]
            )
          | (refine lex_float ?_ rfl rfl (fun w1 hb1 hf1 => ?_) ?_
             rotate_left
             (go_simp; (try simp (disch := omega) only [IntWalk.i64_quo, IntWalk.rem_in, IntWalk.i64_in, IntWalk.u64_in, IntWalk.u32_in, IntWalk.u8_in, IntWalk.toNatUp, IntWalk.iteOmega]); (try go_simp); rfl)
             simp only [Act.put, Act.eval, Array.getD_eq_getD_getElem?, List.getElem?_toArray, List.getElem?_cons_zero, List.getElem?_cons_succ, Option.getD_some, List.setIfInBounds_toArray, List.set_cons_succ, List.set_cons_zero]
            )
          | (refine lex_skip rfl ?_
             simp only [Act.put, Act.eval, Array.getD_eq_getD_getElem?, List.getElem?_toArray, List.getElem?_cons_zero, List.getElem?_cons_succ, Option.getD_some, List.setIfInBounds_toArray, List.set_cons_succ, List.set_cons_zero]
            ))
        refine lex_nil ?_
        go_wp2_with fail
        go_ret2
        refine ⟨?_, hBW⟩
        rw [Hrank.out]
        have hn := Hn.out
        have : isIn ks s = false := by
          cases e : isIn ks s
          · rfl
          · have := (isIn_iff.1 e).1; have := Hrank.out; omega
        simp [this]
theorem bs2_any (ks : List St) (s : St) (hr : Rising ks) (k n c : Nat) (w : World) (hn : n = ks.length) (hm : n ≤ 4611686018427387904)
    (hrow : ∀ i, i < n → ∃ x : Value, x.oneCell' = true ∧ w.cell? ⟨k, i * 3, none⟩ = some (.int .u64 (key ks i).t) ∧ w.cell? ⟨k, i * 3 + 1, none⟩ = some (.int .u64 (key ks i).s) ∧ w.cell? ⟨k, i * 3 + 2, none⟩ = some x) :
    Calls Try.prog 69 #[.slice (some ⟨k, 0, none⟩) n c, s.v, .func (.func 70) #[] #[]] w fun e w' => e = .returned (.tuple #[.int .i64 (rank ks s), .bool (isIn ks s)]) ∧ Below w.heap.size w w' := by
  have L := pl2_any
  unfold St.v at L
  have Hn := Lib.hid hn; clear hn
  have Hrow := Lib.hid hrow; clear hrow
  unfold St.v
  go_enter Try.func69, Try.ntmps69
  go_wp2_with fail
  go_loopw [9, 10, 11] (fun vi vj vh wr => ∃ i j : Nat, vi = .int .i64 i ∧ vj = .int .i64 j ∧ i ≤ j ∧ j ≤ n ∧ (∀ q, q < i → (key ks q).lt s = true) ∧ (∀ q, j ≤ q → q < n → (key ks q).lt s = false) ∧ Below w.heap.size w wr ∧ wr.cell? ⟨w.heap.size, 0, none⟩ = some (.int .u64 s.t) ∧ wr.cell? ⟨w.heap.size, 1, none⟩ = some (.int .u64 s.s))
    (fun vi vj _ _ => (intOf vj).toNat - (intOf vi).toNat)
  case atStart => exact ⟨0, n, rfl, rfl, by omega, by omega, by omega, by omega, below_box w _, by simp, by simp⟩
  case round =>
    obtain ⟨i, j, rfl, rfl, hij, hjn, hlo, hhi, hB, hs0, hs1⟩ := hrel
    have Hlo := Lib.hid hlo; clear hlo
    have Hhi := Lib.hid hhi; clear hhi
    by_cases hlt : i < j
    · go_wp2_with fail
      obtain ⟨h, hh1, hh2, hhe⟩ : ∃ h : Nat, i ≤ h ∧ h < j ∧ ((i : Int) + (j : Int)) / 2 = (h : Int) := ⟨(i + j) / 2, by omega, by omega, by omega⟩
      rw [hhe]
      clear hhe
      obtain ⟨x, hx, r0, r1, r2⟩ := Hrow.out h (by omega)
      have hhn : (h : Int) < (n : Int) := by omega
      refine wp_region_rg (fun i => if i = 6 then some (fun v _ => v = .int .i64 (ord (key ks h) s)) else none) fol (by kernel_rfl) (fun W hW hh => ?_)
      clear hh
      have hBW := below_trans hB hW
      have c0 : ∀ w1, Below W.heap.size W w1 → w1.cell? ⟨k, h * 3, none⟩ = some (.int .u64 (key ks h).t) := fun w1 h => below_cell (below_trans hBW h) r0
      have c1 : ∀ w1, Below W.heap.size W w1 → w1.cell? ⟨k, h * 3 + 1, none⟩ = some (.int .u64 (key ks h).s) := fun w1 h => below_cell (below_trans hBW h) r1
      have c4 : ∀ w1, Below W.heap.size W w1 → w1.cell? ⟨k, h * 3 + 2, none⟩ = some x := fun w1 h => below_cell (below_trans hBW h) r2
      have c2 : ∀ w1, Below W.heap.size W w1 → w1.cell? ⟨w.heap.size, 0, none⟩ = some (.int .u64 s.t) := fun w1 h => below_cell (below_trans hW h) hs0
      have c3 : ∀ w1, Below W.heap.size W w1 → w1.cell? ⟨w.heap.size, 1, none⟩ = some (.int .u64 s.s) := fun w1 h => below_cell (below_trans hW h) hs1
      repeat (first
        | (refine lex_move _ (by first | exact Or.inl rfl | exact Or.inr rfl) rfl rfl ?_
           simp only [Act.put, Act.eval, Array.getD_eq_getD_getElem?, List.getElem?_toArray, List.getElem?_cons_zero, List.getElem?_cons_succ, Option.getD_some, List.setIfInBounds_toArray, List.set_cons_succ, List.set_cons_zero]
          )
        | (refine lex_float ?_ rfl rfl (fun w1 hb1 hf1 => ?_) ?_
           rotate_left
           (go_simp; (try simp (disch := omega) only [IntWalk.i64_quo, IntWalk.rem_in, IntWalk.i64_in, IntWalk.u64_in, IntWalk.u32_in, IntWalk.u8_in, IntWalk.toNatUp, IntWalk.iteOmega]); (try go_simp); rfl)
           simp only [Act.put, Act.eval, Array.getD_eq_getD_getElem?, List.getElem?_toArray, List.getElem?_cons_zero, List.getElem?_cons_succ, Option.getD_some, List.setIfInBounds_toArray, List.set_cons_succ, List.set_cons_zero]
          )
        | (refine lex_skip rfl ?_
           simp only [Act.put, Act.eval, Array.getD_eq_getD_getElem?, List.getElem?_toArray, List.getElem?_cons_zero, List.getElem?_cons_succ, Option.getD_some, List.setIfInBounds_toArray, List.set_cons_succ, List.set_cons_zero]
          ))
      refine lex_make _ rfl (by exact fun _ _ _ h _ => h) rfl (fun w1 hb1 hf1 => ?_) ?_
      · have hb1' := hb1
        (unfold makes; go_simp; simp only [makesUpon])
        refine (L (key ks h) s x hx w1).mono ?_
        rintro e w' ⟨rfl, hB⟩
        exact ⟨_, rfl, hB, rfl⟩
      rintro v w' hB2 rfl
      have hB3 := below_trans hBW hB2
      have d0 := below_cell (below_trans hW hB2) hs0
      have d1 := below_cell (below_trans hW hB2) hs1
      simp only [Act.put, Act.eval, Array.getD_eq_getD_getElem?, List.getElem?_toArray, List.getElem?_cons_zero, List.getElem?_cons_succ, Option.getD_some, List.setIfInBounds_toArray, List.set_cons_succ, List.set_cons_zero]
      clear c0 c1 c4 c2 c3 r0 r1 r2
      repeat (first
        | (refine lex_move _ (by first | exact Or.inl rfl | exact Or.inr rfl) rfl rfl ?_
           simp only [Act.put, Act.eval, Array.getD_eq_getD_getElem?, List.getElem?_toArray, List.getElem?_cons_zero, List.getElem?_cons_succ, Option.getD_some, List.setIfInBounds_toArray, List.set_cons_succ, List.set_cons_zero]
          )
        | (refine lex_float ?_ rfl rfl (fun w1 hb1 hf1 => ?_) ?_
           rotate_left
           (go_simp; (try simp (disch := omega) only [IntWalk.i64_quo, IntWalk.rem_in, IntWalk.i64_in, IntWalk.u64_in, IntWalk.u32_in, IntWalk.u8_in, IntWalk.toNatUp, IntWalk.iteOmega]); (try go_simp); rfl)
           simp only [Act.put, Act.eval, Array.getD_eq_getD_getElem?, List.getElem?_toArray, List.getElem?_cons_zero, List.getElem?_cons_succ, Option.getD_some, List.setIfInBounds_toArray, List.set_cons_succ, List.set_cons_zero]
          )
        | (refine lex_skip rfl ?_
           simp only [Act.put, Act.eval, Array.getD_eq_getD_getElem?, List.getElem?_toArray, List.getElem?_cons_zero, List.getElem?_cons_succ, Option.getD_some, List.setIfInBounds_toArray, List.set_cons_succ, List.set_cons_zero]
          ))
      refine lex_nil ?_
      go_wp2_with fail
      · have hc : ord (key ks h) s < 0 := by assumption
        have hlo := Hlo.out
        have hn := Hn.out
        refine ⟨⟨h + 1, j, by go_num, rfl, by omega, by omega, fun q hq => ?_, Hhi.out, hB3, d0, d1⟩, by simp [intOf]; omega⟩
        rcases Nat.lt_or_ge q i with hq1 | hq1
        · exact hlo q hq1
        · rcases Nat.lt_or_ge q h with hq2 | hq2
          · exact rising_lt hr hq2 (by omega) (ord_neg.1 hc)
          · rw [show q = h by omega]; exact ord_neg.1 hc
      · have hc : 0 ≤ ord (key ks h) s := by assumption
        have hhi := Hhi.out
        have hn := Hn.out
        refine ⟨⟨i, h, rfl, rfl, by omega, by omega, Hlo.out, fun q hq hqn => ?_, hB3, d0, d1⟩, by simp [intOf]; omega⟩
        have hf : (key ks h).lt s = false := by
          cases e : (key ks h).lt s
          · rfl
          · have := ord_neg.2 e; omega
        rcases Nat.lt_or_ge h q with hq1 | hq1
        · exact rising_ge hr hq1 (by omega) hf
        · rw [show q = h by omega]; exact hf
    · obtain rfl : j = i := by omega
      have hn := Hn.out
      have hrank : rank ks s = j := rank_unique hr (by omega) Hlo.out (fun q h1 h2 => Hhi.out q h1 (by omega))
      clear hn
      have Hrank := Lib.hid hrank; clear hrank
      by_cases hin : j < n
      · go_wp2_with fail
        obtain ⟨x, hx, r0, r1, r2⟩ := Hrow.out j (by omega)
        have hhn : (j : Int) < (n : Int) := by omega
        refine wp_region_rg (fun i => if i = 11 then some (fun v _ => v = .int .i64 (ord (key ks j) s)) else none) fol (by kernel_rfl) (fun W hW hh => ?_)
        clear hh
        have hBW := below_trans hB hW
        have c0 : ∀ w1, Below W.heap.size W w1 → w1.cell? ⟨k, j * 3, none⟩ = some (.int .u64 (key ks j).t) := fun w1 h => below_cell (below_trans hBW h) r0
        have c1 : ∀ w1, Below W.heap.size W w1 → w1.cell? ⟨k, j * 3 + 1, none⟩ = some (.int .u64 (key ks j).s) := fun w1 h => below_cell (below_trans hBW h) r1
        have c4 : ∀ w1, Below W.heap.size W w1 → w1.cell? ⟨k, j * 3 + 2, none⟩ = some x := fun w1 h => below_cell (below_trans hBW h) r2
        have c2 : ∀ w1, Below W.heap.size W w1 → w1.cell? ⟨w.heap.size, 0, none⟩ = some (.int .u64 s.t) := fun w1 h => below_cell (below_trans hW h) hs0
        have c3 : ∀ w1, Below W.heap.size W w1 → w1.cell? ⟨w.heap.size, 1, none⟩ = some (.int .u64 s.s) := fun w1 h => below_cell (below_trans hW h) hs1
        repeat (first
          | (refine lex_move _ (by first | exact Or.inl rfl | exact Or.inr rfl) rfl rfl ?_
             simp only [Act.put, Act.eval, Array.getD_eq_getD_getElem?, List.getElem?_toArray, List.getElem?_cons_zero, List.getElem?_cons_succ, Option.getD_some, List.setIfInBounds_toArray, List.set_cons_succ, List.set_cons_zero]
            )
          | (refine lex_float ?_ rfl rfl (fun w1 hb1 hf1 => ?_) ?_
             rotate_left
             (go_simp; (try simp (disch := omega) only [IntWalk.i64_quo, IntWalk.rem_in, IntWalk.i64_in, IntWalk.u64_in, IntWalk.u32_in, IntWalk.u8_in, IntWalk.toNatUp, IntWalk.iteOmega]); (try go_simp); rfl)
             simp only [Act.put, Act.eval, Array.getD_eq_getD_getElem?, List.getElem?_toArray, List.getElem?_cons_zero, List.getElem?_cons_succ, Option.getD_some, List.setIfInBounds_toArray, List.set_cons_succ, List.set_cons_zero]
            )
          | (refine lex_skip rfl ?_
             simp only [Act.put, Act.eval, Array.getD_eq_getD_getElem?, List.getElem?_toArray, List.getElem?_cons_zero, List.getElem?_cons_succ, Option.getD_some, List.setIfInBounds_toArray, List.set_cons_succ, List.set_cons_zero]
            ))
        refine lex_make _ rfl (by exact fun _ _ _ h _ => h) rfl (fun w1 hb1 hf1 => ?_) ?_
        · have hb1' := hb1
          (unfold makes; go_simp; simp only [makesUpon])
          refine (L (key ks j) s x hx w1).mono ?_
          rintro e w' ⟨rfl, hB⟩
          exact ⟨_, rfl, hB, rfl⟩
        rintro v w' hB2 rfl
        simp only [Act.put, Act.eval, Array.getD_eq_getD_getElem?, List.getElem?_toArray, List.getElem?_cons_zero, List.getElem?_cons_succ, Option.getD_some, List.setIfInBounds_toArray, List.set_cons_succ, List.set_cons_zero]
        clear c0 c1 c4 c2 c3 r0 r1 r2
        repeat (first
          | (refine lex_move _ (by first | exact Or.inl rfl | exact Or.inr rfl) rfl rfl ?_
             simp only [Act.put, Act.eval, Array.getD_eq_getD_getElem?, List.getElem?_toArray, List.getElem?_cons_zero, List.getElem?_cons_succ, Option.getD_some, List.setIfInBounds_toArray, List.set_cons_succ, List.set_cons_zero]
            )
          | (refine lex_float ?_ rfl rfl (fun w1 hb1 hf1 => ?_) ?_
             rotate_left
             (go_simp; (try simp (disch := omega) only [IntWalk.i64_quo, IntWalk.rem_in, IntWalk.i64_in, IntWalk.u64_in, IntWalk.u32_in, IntWalk.u8_in, IntWalk.toNatUp, IntWalk.iteOmega]); (try go_simp); rfl)
             simp only [Act.put, Act.eval, Array.getD_eq_getD_getElem?, List.getElem?_toArray, List.getElem?_cons_zero, List.getElem?_cons_succ, Option.getD_some, List.setIfInBounds_toArray, List.set_cons_succ, List.set_cons_zero]
            )
          | (refine lex_skip rfl ?_
             simp only [Act.put, Act.eval, Array.getD_eq_getD_getElem?, List.getElem?_toArray, List.getElem?_cons_zero, List.getElem?_cons_succ, Option.getD_some, List.setIfInBounds_toArray, List.set_cons_succ, List.set_cons_zero]
            ))
        refine lex_nil ?_
        go_wp2_with fail
        go_ret2
        refine ⟨?_, below_trans hBW hB2⟩
        rw [Hrank.out]
        have hn := Hn.out
        have : (ord (key ks j) s == 0) = isIn ks s := by
          rw [Bool.eq_iff_iff, beq_iff_eq, ord_zero, isIn_iff, Hrank.out]
          exact ⟨fun h => ⟨by omega, h⟩, fun h => h.2⟩
        simp [this]
      · go_wp2_with fail
        have hin' : ¬ ((j : Int) < (n : Int)) := by omega
        refine wp_region_rg (fun i => if i = 11 then some (fun v _ => v = .int .i64 0) else none) fol (by kernel_rfl) (fun W hW hh => ?_)
        clear hh
        have hBW := below_trans hB hW
        have hdec : decide ((j : Int) < (n : Int)) = false := by simpa using hin'
        repeat (first
          | (refine lex_move _ (by first | exact Or.inl rfl | exact Or.inr rfl) rfl rfl ?_
             simp only [Act.put, Act.eval, Array.getD_eq_getD_getElem?, List.getElem?_toArray, List.getElem?_cons_zero, List.getElem?_cons_succ, Option.getD_some, List.setIfInBounds_toArray, List.set_cons_succ, List.set_cons_zero]
            )
          | (refine lex_float ?_ rfl rfl (fun w1 hb1 hf1 => ?_) ?_
             rotate_left
             (go_simp; (try simp (disch := omega) only [IntWalk.i64_quo, IntWalk.rem_in, IntWalk.i64_in, IntWalk.u64_in, IntWalk.u32_in, IntWalk.u8_in, IntWalk.toNatUp, IntWalk.iteOmega]); (try go_simp); rfl)
             simp only [Act.put, Act.eval, Array.getD_eq_getD_getElem?, List.getElem?_toArray, List.getElem?_cons_zero, List.getElem?_cons_succ, Option.getD_some, List.setIfInBounds_toArray, List.set_cons_succ, List.set_cons_zero]
            )
          | (refine lex_skip rfl ?_
             simp only [Act.put, Act.eval, Array.getD_eq_getD_getElem?, List.getElem?_toArray, List.getElem?_cons_zero, List.getElem?_cons_succ, Option.getD_some, List.setIfInBounds_toArray, List.set_cons_succ, List.set_cons_zero]
            ))
        refine lex_nil ?_
        go_wp2_with fail
        go_ret2
        refine ⟨?_, hBW⟩
        rw [Hrank.out]
        have hn := Hn.out
        have : isIn ks s = false := by
          cases e : isIn ks s
          · rfl
          · have := (isIn_iff.1 e).1; have := Hrank.out; omega
        simp [this]

end Go.Proofs.Ytagcohpghgnalaa.U
