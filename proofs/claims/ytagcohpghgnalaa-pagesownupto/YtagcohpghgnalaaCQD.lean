/-
  ask: the arms of Up and Down; then the program's answer to a call, whatever there is.
-/
import Derived.Test.YtagcohpghgnalaaCQ7Up
import Derived.Test.YtagcohpghgnalaaCQ7Down
import Derived.Test.YtagcohpghgnalaaCGQ2
import Derived.Test.YtagcohpghgnalaaCGQ5
import Derived.Test.YtagcohpghgnalaaCGQ4
set_option linter.unusedSimpArgs false
set_option linter.unusedVariables false
namespace Go.Proofs.Ytagcohpghgnalaa.QA.ask
open Go.RowKit Go.RG Go.Hp Go.Pg Go.Proofs.Ytagcohpghgnalaa Go.Proofs.Ytagcohpghgnalaa.RF Go.Proofs.Ytagcohpghgnalaa.U Go.Proofs.Ytagcohpghgnalaa.LB Go.Proofs.Ytagcohpghgnalaa.QA


theorem SeqAt.below {f : Nat} {p : Option Addr} {s : St} {E : List Ev} {w w' : World} (h : SeqAt f p s E w) (hb : Below w.heap.size w w') : SeqAt f p s E w' := fun W0 Bx Bs L C hB hL hC =>
  h W0 Bx Bs L C (below_trans hb hB) (Nat.le_trans hb.size hL) (Nat.le_trans hb.size hC)
set_option maxRecDepth 100000 in
theorem arm_up (p : Option Addr) (o : Opd) (hk : o.kind = 9) (hv : 0 ≤ o.v ∧ o.v < 18446744073709551616) (E : List Ev) (w : World) (hE : SeqAt 75 p o.s E w) :
    Calls Try.prog 46 #[.pointer p, .agg #[.int .i64 o.kind, .int .u64 o.s.t, .int .u64 o.s.s, .int .u64 o.v]] w (Mid w Quiet ((E.take (o.v % 64).toNat).flatMap evNums)) := by
  obtain ⟨ok, os, ov⟩ := o
  obtain rfl : ok = 9 := hk
  have hB0 := below_box w (.cells #[.int .i64 9, .int .u64 os.t, .int .u64 os.s, .int .u64 ov] 40)
  have HP := Lib.hid (along_Up p ⟨9, os, ov⟩ (show (9 : Int) ≠ 10 by decide) hv E _ (SeqAt.below hE hB0))
  clear hE
  go_enter Try.func46, Try.ntmps46
  go_wp2_with fail
  refine HP.out.mono ?_
  rintro e w1 ⟨v, rfl, hn, hb⟩
  obtain ⟨a1, n1, c1, hsh⟩ : ∃ a1 n1 cc1, v = .slice a1 n1 cc1 := by obtain ⟨a, c, h, -⟩ := owns_shape hn; exact ⟨a, _, c, h⟩
  subst hsh
  have Hn := Lib.hid hn; clear hn
  go_wp2_with fail
  go_ret
  exact ⟨_, _, _, rfl, hB0, Below.refl _ _, hb, Hn.out⟩
set_option maxRecDepth 100000 in
theorem arm_down (p : Option Addr) (o : Opd) (hk : o.kind = 10) (hv : 0 ≤ o.v ∧ o.v < 18446744073709551616) (E : List Ev) (w : World) (hE : SeqAt 77 p o.s E w) :
    Calls Try.prog 46 #[.pointer p, .agg #[.int .i64 o.kind, .int .u64 o.s.t, .int .u64 o.s.s, .int .u64 o.v]] w (Mid w Quiet ((E.take (o.v % 64).toNat).flatMap evNums)) := by
  obtain ⟨ok, os, ov⟩ := o
  obtain rfl : ok = 10 := hk
  have hB0 := below_box w (.cells #[.int .i64 10, .int .u64 os.t, .int .u64 os.s, .int .u64 ov] 40)
  have HP := Lib.hid (along_Down p ⟨10, os, ov⟩ (rfl) hv E _ (SeqAt.below hE hB0))
  clear hE
  go_enter Try.func46, Try.ntmps46
  go_wp2_with fail
  refine HP.out.mono ?_
  rintro e w1 ⟨v, rfl, hn, hb⟩
  obtain ⟨a1, n1, c1, hsh⟩ : ∃ a1 n1 cc1, v = .slice a1 n1 cc1 := by obtain ⟨a, c, h, -⟩ := owns_shape hn; exact ⟨a, _, c, h⟩
  subst hsh
  have Hn := Lib.hid hn; clear hn
  go_wp2_with fail
  go_ret
  exact ⟨_, _, _, rfl, hB0, Below.refl _ _, hb, Hn.out⟩
end Go.Proofs.Ytagcohpghgnalaa.QA.ask

namespace Go.Proofs.Ytagcohpghgnalaa.QA
open Go.RowKit Go.RG Go.Hp Go.Pg Go.Proofs.Ytagcohpghgnalaa Go.Proofs.Ytagcohpghgnalaa.RF Go.Proofs.Ytagcohpghgnalaa.U Go.Proofs.Ytagcohpghgnalaa.LB Go.Proofs.Ytagcohpghgnalaa.BK
theorem ev_nums (l : List Ent) (m : Nat) : ((evs l).take m).flatMap evNums = (l.take m).flatMap entNums := by
  unfold evs
  rw [← List.map_take, List.flatMap_map]
  rfl
theorem up_atbare (p : Option Addr) (s : St) (w : World) (h : BareP p w) : SeqAt 75 p s [] w := fun W0 Bx Bs L C hB _ _ hx _ _ _ _ => up_bare 2 p Bx Bs W0 (h.below hB) hx _ _ _
theorem down_atbare (p : Option Addr) (s : St) (w : World) (h : BareP p w) : SeqAt 77 p s [] w := fun W0 Bx Bs L C hB _ _ hx _ _ _ _ => down_bare 2 p Bx Bs W0 (h.below hB) hx _ _ _

/-- calls where there is no index of the program's -/
theorem ask_bare (p : Option Addr) (o : Opd) (ho : OpOk o) (w : World) (hb : BareP p w) : Calls Try.prog 46 #[.pointer p, agg o] w (ask.Mid w ask.Quiet (ansB o)) := by
  have hv : 0 ≤ o.v ∧ o.v < 18446744073709551616 := ⟨ho.v.1, by have := ho.v.2; omega⟩
  unfold ansB
  rcases kinds o.kind with k | k | k | k | k | k | k | k | k | k | k
  · have h := ask.arm_put (.pointer p) ⟨p, rfl⟩ o k false ask.Quiet w fun w0 h0 => put_bare p o.s (.int .u64 o.v) rfl w0 (hb.below h0)
    rw [if_pos k]
    exact h
  · have h := ask.arm_rem (.pointer p) ⟨p, rfl⟩ o k 0 false ask.Quiet w fun w0 h0 => remove_bare p o.s w0 (hb.below h0)
    rw [if_neg (by omega), if_pos (Or.inl k)]
    exact h
  · have h := ask.arm_get (.pointer p) ⟨p, rfl⟩ o k 0 false ask.Quiet w fun w0 h0 => get_bare p o.s w0 (hb.below h0)
    rw [if_neg (by omega), if_pos (Or.inr k)]
    exact h
  · have h := ask.arm_len (.pointer p) ⟨p, rfl⟩ o k 0 (by omega) w fun w0 h0 => (len_bare p w0 (hb.below h0)).mono fun e w1 h => by
      obtain ⟨rfl, rfl⟩ := h
      exact ⟨rfl, Below.refl _ _⟩
    rw [if_neg (by omega), if_neg (by omega), if_pos k]
    exact h
  · have h := ask.arm_pages (.pointer p) ⟨p, rfl⟩ o k [] (by simp) (fun n hn => by cases hn) w fun w0 h0 => (pages_bare p w0 (hb.below h0)).mono fun e w1 h => by
      obtain ⟨rfl, rfl⟩ := h
      exact ⟨_, rfl, World.ownsRow_nil _ _ _ _, Below.refl _ _⟩
    rw [if_neg (by omega), if_neg (by omega), if_neg (by omega), if_pos k]
    exact h
  · have h := ask.arm_place (.pointer p) ⟨p, rfl⟩ o k 0 0 (by omega) (by omega) false ask.Quiet w fun w0 h0 => place_bare p o.s w0 (hb.below h0)
    rw [if_neg (by omega), if_neg (by omega), if_neg (by omega), if_neg (by omega), if_pos k]
    exact h
  · have h := ask.arm_least (.pointer p) ⟨p, rfl⟩ o k ⟨0, 0⟩ 0 false w fun w0 h0 => least_of p o.s [] w0 (up_fbare p o.s w0 (hb.below h0))
    rw [if_neg (by omega), if_neg (by omega), if_neg (by omega), if_neg (by omega), if_neg (by omega), if_pos (Or.inl k)]
    exact h
  · have h := ask.arm_greatest (.pointer p) ⟨p, rfl⟩ o k ⟨0, 0⟩ 0 false w fun w0 h0 => greatest_of p o.s [] w0 (down_fbare p o.s w0 (hb.below h0))
    rw [if_neg (by omega), if_neg (by omega), if_neg (by omega), if_neg (by omega), if_neg (by omega), if_pos (Or.inr k)]
    exact h
  · have h := ask.arm_up p o k hv [] w (up_atbare p o.s w hb)
    rw [if_neg (by omega), if_neg (by omega), if_neg (by omega), if_neg (by omega), if_neg (by omega), if_neg (by omega)]
    rw [List.take_nil] at h
    exact h
  · have h := ask.arm_down p o k hv [] w (down_atbare p o.s w hb)
    rw [if_neg (by omega), if_neg (by omega), if_neg (by omega), if_neg (by omega), if_neg (by omega), if_neg (by omega)]
    rw [List.take_nil] at h
    exact h
  · have h := ask.arm_none (.pointer p) ⟨p, rfl⟩ o k w
    rw [if_neg (by omega), if_neg (by omega), if_neg (by omega), if_neg (by omega), if_neg (by omega), if_neg (by omega)]
    exact h

theorem ask_any (size i : Nat) (hi : i ≤ 1099511) (p : Option Addr) (d : Dx) (o : Opd) (ho : OpOk o) (Z : Nat → Prop) (w : World) (hD : DGood size d i) (hX : HX size p d Z w) (hZ : ∀ k, Z k → k < w.heap.size) :
    Calls Try.prog 46 #[.pointer p, agg o] w (APost (HX size p (stepD size d o)) Z (ansD d o) w) := by
  have hv : 0 ≤ o.v ∧ o.v < 18446744073709551616 := ⟨ho.v.1, by have := ho.v.2; omega⟩
  cases d with
  | none =>
    obtain rfl : p = none := hX
    exact (ask_bare none o ho w (bareP_nil w)).mono fun e w' hm => mid_post hm (fun w0 w1 hB0 hp => ⟨(rfl : (none : Option Addr) = none), Ext.of_below hp⟩) (fun Z w1 w2 hh hb => hh)
  | some R =>
    obtain ⟨h4, h64, hG, hN, ht⟩ := hD
    obtain ⟨bx, vr, pvs, rfl, hM⟩ := hX
    have hr := rows_le_total hG
    have hO := hG.ordered
    have htf := total_flat R
    have hl : ∀ i, i < R.length → (pageAt R i).length ≤ size := fun i hi => (hG.full _ (pageAt_mem hi)).2
    have hl64 : ∀ i, i < R.length → (pageAt R i).length ≤ 64 := fun i hi => by have := hl i hi; omega
    have hF := U.fits_u h4 h64 hG ht (by omega)
    show Calls Try.prog 46 #[.pointer (some ⟨bx, 0, none⟩), agg o] w (APost (HX size (some ⟨bx, 0, none⟩) (some (stepR size R o))) Z (ans R o) w)
    unfold ans
    rcases kinds o.kind with k | k | k | k | k | k | k | k | k | k | k
    · have e1 : stepR size R o = putR size R o.s (.int .u64 o.v) := by unfold stepR; rw [if_pos k]
      rw [e1, if_pos k]
      have h := ask.arm_put (.pointer (some ⟨bx, 0, none⟩)) ⟨_, rfl⟩ o k (!(decide (0 < R.length) && there R o.s)) (fun w0 w1 => ∃ vr' pvs', U.MemV w1 bx size (putR size R o.s (.int .u64 o.v)) (fun k => Z k ∨ w0.heap.size ≤ k) vr' pvs' ∧ Ext Z w0 w1) w
        fun w0 hb => U.put_any o.s (.int .u64 o.v) rfl bx size R hF hO Z vr pvs w0 (hM.below hb)
      refine h.mono fun e w' hm => mid_post hm (fun w0 w1 hB0 hp => ?_) (fun Z w1 w2 hh hb => HX.below hh hb)
      obtain ⟨vr', pvs', hM', hX⟩ := hp
      exact ⟨⟨bx, vr', pvs', rfl, hM'.cut⟩, hX⟩
    · cases ht' : (decide (0 < R.length) && there R o.s)
      · have e1 : stepR size R o = R := by
          unfold stepR
          rw [if_neg (by omega), if_pos k]
          unfold removeR
          rw [if_neg]
          intro h
          rw [h, Bool.and_true, decide_eq_false_iff_not] at ht'
          obtain rfl : R = [] := List.eq_nil_of_length_eq_zero (by omega)
          cases h
        rw [e1, if_neg (by omega), if_pos (Or.inl k), if_neg (by decide)]
        have h := ask.arm_rem (.pointer (some ⟨bx, 0, none⟩)) ⟨_, rfl⟩ o k 0 false ask.Quiet w fun w0 hb => U.remove_not o.s bx size R hF hO ht' Z vr pvs w0 (hM.below hb)
        refine h.mono fun e w' hm => mid_post hm (fun w0 w1 hB0 hp => ?_) (fun Z w1 w2 hh hb => HX.below hh hb)
        have hq : Below w0.heap.size w0 w1 := hp
        have s1 := hB0.size
        have s2 := hq.size
        refine ⟨HX.mono (Z := Z) ⟨bx, vr, pvs, rfl, (hM.below hB0).below hq⟩ fun k hk => ⟨Or.inl hk, by have := hZ k hk; omega⟩, Ext.of_below hq⟩
      · obtain ⟨h1, h2⟩ := Bool.and_eq_true_iff.1 ht'
        have hR := of_decide_eq_true h1
        have e1 : stepR size R o = removeR size R o.s := by unfold stepR; rw [if_neg (by omega), if_pos k]
        rw [e1, if_neg (by omega), if_pos (Or.inl k), if_pos rfl]
        have hen : entOf R o.s < (pageAt R (pageOf R o.s)).length := by
          have := (isIn_iff.1 h2).1
          rwa [length_keys] at this
        obtain ⟨num, hnum⟩ := ent_num hN (pageOf_lt (s := o.s) hR) hen
        have h := ask.arm_rem (.pointer (some ⟨bx, 0, none⟩)) ⟨_, rfl⟩ o k num true (fun w0 w1 => ∃ vr' pvs', U.MemV w1 bx size (removeR size R o.s) (fun k => Z k ∨ w0.heap.size ≤ k) vr' pvs' ∧ Ext Z w0 w1) w
          fun w0 hb => by
            have := U.remove_any o.s bx size R hR hF hO h2 Z vr pvs w0 (hM.below hb)
            rw [hnum] at this
            exact this
        rw [hnum]
        refine h.mono fun e w' hm => mid_post hm (fun w0 w1 hB0 hp => ?_) (fun Z w1 w2 hh hb => HX.below hh hb)
        obtain ⟨vr', pvs', hM', hX⟩ := hp
        exact ⟨⟨bx, vr', pvs', rfl, hM'.cut⟩, hX⟩
    all_goals have e1 : stepR size R o = R := by unfold stepR; rw [if_neg (by omega), if_neg (by omega)]
    all_goals rw [e1]
    · rw [if_neg (by omega), if_pos (Or.inr k)]
      rcases Nat.eq_zero_or_pos R.length with h0 | hR
      · obtain rfl := List.eq_nil_of_length_eq_zero h0
        rw [if_neg (by simp)]
        have h := ask.arm_get (.pointer (some ⟨bx, 0, none⟩)) ⟨_, rfl⟩ o k 0 false ask.Quiet w fun w0 hb => U.get_none o.s bx size Z vr pvs w0 (hM.below hb)
        refine h.mono fun e w' hm => mid_post hm (fun w0 w1 hB0 hp => ?_) (fun Z w1 w2 hh hb => HX.below hh hb)
        have hq : Below w0.heap.size w0 w1 := hp
        have s1 := hB0.size
        have s2 := hq.size
        refine ⟨HX.mono (Z := Z) ⟨bx, vr, pvs, rfl, (hM.below hB0).below hq⟩ fun k hk => ⟨Or.inl hk, by have := hZ k hk; omega⟩, Ext.of_below hq⟩
      · rw [decide_eq_true hR, Bool.true_and]
        cases h2 : there R o.s
        · rw [if_neg (by decide)]
          have h := ask.arm_get (.pointer (some ⟨bx, 0, none⟩)) ⟨_, rfl⟩ o k 0 false ask.Quiet w fun w0 hb => U.get_no o.s bx size (by omega) R hR (by omega) hO (fun i hi => by have := hl i hi; omega) h2 Z vr pvs w0 (hM.below hb)
          refine h.mono fun e w' hm => mid_post hm (fun w0 w1 hB0 hp => ?_) (fun Z w1 w2 hh hb => HX.below hh hb)
          have hq : Below w0.heap.size w0 w1 := hp
          have s1 := hB0.size
          have s2 := hq.size
          refine ⟨HX.mono (Z := Z) ⟨bx, vr, pvs, rfl, (hM.below hB0).below hq⟩ fun k hk => ⟨Or.inl hk, by have := hZ k hk; omega⟩, Ext.of_below hq⟩
        · rw [if_pos rfl]
          have hen : entOf R o.s < (pageAt R (pageOf R o.s)).length := by
            have := (isIn_iff.1 h2).1
            rwa [length_keys] at this
          obtain ⟨num, hnum⟩ := ent_num hN (pageOf_lt (s := o.s) hR) hen
          rw [hnum]
          have h := ask.arm_get (.pointer (some ⟨bx, 0, none⟩)) ⟨_, rfl⟩ o k num true ask.Quiet w fun w0 hb => by
            have := U.get_some o.s bx size (by omega) R hR (by omega) hO (fun i hi => by have := hl i hi; omega) h2 Z vr pvs w0 (hM.below hb)
            rw [hnum] at this
            exact this
          refine h.mono fun e w' hm => mid_post hm (fun w0 w1 hB0 hp => ?_) (fun Z w1 w2 hh hb => HX.below hh hb)
          have hq : Below w0.heap.size w0 w1 := hp
          have s1 := hB0.size
          have s2 := hq.size
          refine ⟨HX.mono (Z := Z) ⟨bx, vr, pvs, rfl, (hM.below hB0).below hq⟩ fun k hk => ⟨Or.inl hk, by have := hZ k hk; omega⟩, Ext.of_below hq⟩
    · rw [if_neg (by omega), if_neg (by omega), if_pos k]
      have h := ask.arm_len (.pointer (some ⟨bx, 0, none⟩)) ⟨_, rfl⟩ o k (total R) (by omega) w fun w0 hb => (U.len_any bx size (by omega) R Z vr pvs w0 (hM.below hb)).mono fun e w1 h => by
        obtain ⟨rfl, rfl⟩ := h
        exact ⟨rfl, Below.refl _ _⟩
      refine h.mono fun e w' hm => mid_post hm (fun w0 w1 hB0 hp => ?_) (fun Z w1 w2 hh hb => HX.below hh hb)
      have hq : Below w0.heap.size w0 w1 := hp
      have s1 := hB0.size
      have s2 := hq.size
      refine ⟨HX.mono (Z := Z) ⟨bx, vr, pvs, rfl, (hM.below hB0).below hq⟩ fun k hk => ⟨Or.inl hk, by have := hZ k hk; omega⟩, Ext.of_below hq⟩
    · rw [if_neg (by omega), if_neg (by omega), if_neg (by omega), if_pos k]
      have h := ask.arm_pages (.pointer (some ⟨bx, 0, none⟩)) ⟨_, rfl⟩ o k (R.map List.length) (by simp; omega) (fun n hn => by obtain ⟨p, hp, rfl⟩ := List.mem_map.1 hn; have := (hG.full p hp).2; omega) w fun w0 hb => by
        have := U.pages_any bx size (by omega) R (by omega) Z vr pvs w0 (hM.below hb)
        rw [show ask.ints (R.map List.length) = R.map fun p => Value.int .i64 p.length by simp [ask.ints], List.length_map]
        exact this
      refine h.mono fun e w' hm => mid_post hm (fun w0 w1 hB0 hp => ?_) (fun Z w1 w2 hh hb => HX.below hh hb)
      have hq : Below w0.heap.size w0 w1 := hp
      have s1 := hB0.size
      have s2 := hq.size
      refine ⟨HX.mono (Z := Z) ⟨bx, vr, pvs, rfl, (hM.below hB0).below hq⟩ fun k hk => ⟨Or.inl hk, by have := hZ k hk; omega⟩, Ext.of_below hq⟩
    · rw [if_neg (by omega), if_neg (by omega), if_neg (by omega), if_neg (by omega), if_pos k]
      rcases Nat.eq_zero_or_pos R.length with h0 | hR
      · obtain rfl := List.eq_nil_of_length_eq_zero h0
        rw [if_neg (by simp)]
        have h := ask.arm_place (.pointer (some ⟨bx, 0, none⟩)) ⟨_, rfl⟩ o k 0 0 (by omega) (by omega) false ask.Quiet w fun w0 hb => U.place_none o.s bx size Z vr pvs w0 (hM.below hb)
        refine h.mono fun e w' hm => mid_post hm (fun w0 w1 hB0 hp => ?_) (fun Z w1 w2 hh hb => HX.below hh hb)
        have hq : Below w0.heap.size w0 w1 := hp
        have s1 := hB0.size
        have s2 := hq.size
        refine ⟨HX.mono (Z := Z) ⟨bx, vr, pvs, rfl, (hM.below hB0).below hq⟩ fun k hk => ⟨Or.inl hk, by have := hZ k hk; omega⟩, Ext.of_below hq⟩
      · rw [if_pos hR]
        have hp := pageOf_lt (s := o.s) hR
        have h := ask.arm_place (.pointer (some ⟨bx, 0, none⟩)) ⟨_, rfl⟩ o k (pageOf R o.s) (entOf R o.s) (by omega) (by have := entOf_le R o.s; have := hl _ hp; omega) (there R o.s) ask.Quiet w
          fun w0 hb => U.place_some o.s bx size (by omega) R hR (by omega) hO (fun i hi => by have := hl i hi; omega) Z vr pvs w0 (hM.below hb)
        refine h.mono fun e w' hm => mid_post hm (fun w0 w1 hB0 hp => ?_) (fun Z w1 w2 hh hb => HX.below hh hb)
        have hq : Below w0.heap.size w0 w1 := hp
        have s1 := hB0.size
        have s2 := hq.size
        refine ⟨HX.mono (Z := Z) ⟨bx, vr, pvs, rfl, (hM.below hB0).below hq⟩ fun k hk => ⟨Or.inl hk, by have := hZ k hk; omega⟩, Ext.of_below hq⟩
    · rw [if_neg (by omega), if_neg (by omega), if_neg (by omega), if_neg (by omega), if_neg (by omega), if_pos k]
      obtain ⟨s, v, b, h1, h2⟩ := first_is (behind' R o.s)
      rw [h2]
      have h := ask.arm_least (.pointer (some ⟨bx, 0, none⟩)) ⟨_, rfl⟩ o k s v b w fun w0 hb => by
        have := least_of (some ⟨bx, 0, none⟩) o.s (evs (behind' R o.s)) w0 (up_f bx size (by omega) R (by omega) hO hl64 hN o.s Z vr pvs w0 (hM.below hb))
        rw [h1] at this
        exact this
      refine h.mono fun e w' hm => mid_post hm (fun w0 w1 hB0 hp => ?_) (fun Z w1 w2 hh hb => HX.below hh hb)
      have hq : Below w0.heap.size w0 w1 := hp
      have s1 := hB0.size
      have s2 := hq.size
      refine ⟨HX.mono (Z := Z) ⟨bx, vr, pvs, rfl, (hM.below hB0).below hq⟩ fun k hk => ⟨Or.inl hk, by have := hZ k hk; omega⟩, Ext.of_below hq⟩
    · rw [if_neg (by omega), if_neg (by omega), if_neg (by omega), if_neg (by omega), if_neg (by omega), if_neg (by omega), if_pos k]
      obtain ⟨s, v, b, h1, h2⟩ := first_is (downs R o.s)
      rw [h2]
      have h := ask.arm_greatest (.pointer (some ⟨bx, 0, none⟩)) ⟨_, rfl⟩ o k s v b w fun w0 hb => by
        have := greatest_of (some ⟨bx, 0, none⟩) o.s (evs (downs R o.s)) w0 (down_f bx size (by omega) R (by omega) hO hl64 hN o.s Z vr pvs w0 (hM.below hb))
        rw [h1] at this
        exact this
      refine h.mono fun e w' hm => mid_post hm (fun w0 w1 hB0 hp => ?_) (fun Z w1 w2 hh hb => HX.below hh hb)
      have hq : Below w0.heap.size w0 w1 := hp
      have s1 := hB0.size
      have s2 := hq.size
      refine ⟨HX.mono (Z := Z) ⟨bx, vr, pvs, rfl, (hM.below hB0).below hq⟩ fun k hk => ⟨Or.inl hk, by have := hZ k hk; omega⟩, Ext.of_below hq⟩
    · rw [if_neg (by omega), if_neg (by omega), if_neg (by omega), if_neg (by omega), if_neg (by omega), if_neg (by omega), if_neg (by omega), if_pos k]
      have h := ask.arm_up (some ⟨bx, 0, none⟩) o k hv (evs (behind' R o.s)) w (up_at bx size (by omega) R (by omega) hO hl64 hN o.s Z vr pvs w hM)
      rw [ev_nums] at h
      refine h.mono fun e w' hm => mid_post hm (fun w0 w1 hB0 hp => ?_) (fun Z w1 w2 hh hb => HX.below hh hb)
      have hq : Below w0.heap.size w0 w1 := hp
      have s1 := hB0.size
      have s2 := hq.size
      refine ⟨HX.mono (Z := Z) ⟨bx, vr, pvs, rfl, (hM.below hB0).below hq⟩ fun k hk => ⟨Or.inl hk, by have := hZ k hk; omega⟩, Ext.of_below hq⟩
    · rw [if_neg (by omega), if_neg (by omega), if_neg (by omega), if_neg (by omega), if_neg (by omega), if_neg (by omega), if_neg (by omega), if_neg (by omega), if_pos k]
      have h := ask.arm_down (some ⟨bx, 0, none⟩) o k hv (evs (downs R o.s)) w (down_at bx size (by omega) R (by omega) hO hl64 hN o.s Z vr pvs w hM)
      rw [ev_nums] at h
      refine h.mono fun e w' hm => mid_post hm (fun w0 w1 hB0 hp => ?_) (fun Z w1 w2 hh hb => HX.below hh hb)
      have hq : Below w0.heap.size w0 w1 := hp
      have s1 := hB0.size
      have s2 := hq.size
      refine ⟨HX.mono (Z := Z) ⟨bx, vr, pvs, rfl, (hM.below hB0).below hq⟩ fun k hk => ⟨Or.inl hk, by have := hZ k hk; omega⟩, Ext.of_below hq⟩
    · rw [if_neg (by omega), if_neg (by omega), if_neg (by omega), if_neg (by omega), if_neg (by omega), if_neg (by omega), if_neg (by omega), if_neg (by omega), if_neg (by omega)]
      have h := ask.arm_none (.pointer (some ⟨bx, 0, none⟩)) ⟨_, rfl⟩ o k w
      refine h.mono fun e w' hm => mid_post hm (fun w0 w1 hB0 hp => ?_) (fun Z w1 w2 hh hb => HX.below hh hb)
      have hq : Below w0.heap.size w0 w1 := hp
      have s1 := hB0.size
      have s2 := hq.size
      refine ⟨HX.mono (Z := Z) ⟨bx, vr, pvs, rfl, (hM.below hB0).below hq⟩ fun k hk => ⟨Or.inl hk, by have := hZ k hk; omega⟩, Ext.of_below hq⟩
end Go.Proofs.Ytagcohpghgnalaa.QA
