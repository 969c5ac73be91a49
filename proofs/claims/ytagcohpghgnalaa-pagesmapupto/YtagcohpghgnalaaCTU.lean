/-
  turns and sized: a call of a script on an index and in a book.
-/
import Derived.Test.YtagcohpghgnalaaCPB
import Derived.Test.YtagcohpghgnalaaCLBr
set_option linter.unusedSimpArgs false
set_option linter.unusedVariables false
namespace Go.Proofs.Ytagcohpghgnalaa.BK
open Go.RowKit Go.RG Go.Hp Go.Pg Go.Proofs.Ytagcohpghgnalaa Go.Proofs.Ytagcohpghgnalaa.LB


theorem sized_any (n : Int) (w : World) : Calls Try.prog 21 #[.int .i64 n] w fun e w' => ∃ k : Nat, 4 ≤ k ∧ k ≤ 64 ∧ e = .returned (.int .i64 k) ∧ w = w' := by
  have h1 := Int.tmod_lt_of_pos n (show (0 : Int) < 61 by decide)
  have h2 := Int.lt_tmod_of_pos n (show (0 : Int) < 61 by decide)
  have h3 := Int.tmod_lt_of_pos (n.tmod 61 + 61) (show (0 : Int) < 61 by decide)
  have h4 := Int.tmod_nonneg 61 (show (0 : Int) ≤ n.tmod 61 + 61 by omega)
  go_enter Try.func21, Try.ntmps21
  go_wp2_with fail
  go_ret
  refine ⟨(4 + n.tmod 61 % 61).toNat, by omega, by omega, ?_, rfl⟩
  rw [Int.toNat_of_nonneg (by omega)]
  rfl

theorem remove_all (s : St) (bx size : Nat) (R : List (List Ent)) (hF : U.Fits size R) (hG : Pg.Good size R) (Z : Nat → Prop) (vr : Value) (pvs : List Value) (w : World) (hM : U.MemV w bx size R Z vr pvs) :
    Calls Try.prog 26 #[.pointer (some ⟨bx, 0, none⟩), s.v] w fun e w' => (∃ a b, e = .returned (.tuple #[a, .bool b])) ∧ (∃ vr' pvs', U.MemV w' bx size (removeR size R s) (fun k => Z k ∨ w.heap.size ≤ k) vr' pvs') ∧ Ext Z w w' := by
  cases hth : (decide (0 < R.length) && there R s)
  · have e0 : removeR size R s = R := by
      unfold removeR
      rw [if_neg]
      intro h
      rw [h, Bool.and_true, decide_eq_false_iff_not] at hth
      obtain rfl : R = [] := List.eq_nil_of_length_eq_zero (by omega)
      cases h
    refine (U.remove_not s bx size R hF hG.ordered hth Z vr pvs w hM).mono ?_
    rintro e w' ⟨rfl, hb⟩
    rw [e0]
    exact ⟨⟨_, _, rfl⟩, ⟨vr, pvs, (hM.below hb).mono fun k h => Or.inl h⟩, Ext.of_below hb⟩
  · obtain ⟨hR, hth⟩ := Bool.and_eq_true_iff.1 hth
    refine (U.remove_any s bx size R (of_decide_eq_true hR) hF hG.ordered hth Z vr pvs w hM).mono ?_
    rintro e w' ⟨rfl, vr', pvs', hM', hX⟩
    exact ⟨⟨_, _, rfl⟩, ⟨vr', pvs', hM'⟩, hX⟩
theorem good_remove {size : Nat} {R : List (List Ent)} (hG : Pg.Good size R) (s : St) : Pg.Good size (removeR size R s) := by
  rcases Nat.eq_zero_or_pos R.length with h0 | hR
  · obtain rfl := List.eq_nil_of_length_eq_zero h0
    exact hG
  · exact hG.remove s hR
theorem remove_mem' {size : Nat} {R : List (List Ent)} (s : St) {e : Ent} (he : e ∈ (removeR size R s).flatten) : e ∈ R.flatten := by
  rcases Nat.eq_zero_or_pos R.length with h0 | hR
  · obtain rfl := List.eq_nil_of_length_eq_zero h0
    exact he
  · cases ht : there R s
    · have e0 : removeR size R s = R := by unfold removeR; rw [if_neg (by rw [ht]; decide)]
      rwa [e0] at he
    · exact remove_mem s hR ht he

def stepR (size : Nat) (R : List (List Ent)) (o : Opd) : List (List Ent) :=
  if o.kind = 1 then putR size R o.s (.int .u64 o.v) else if o.kind = 2 then removeR size R o.s else R
def stepB (p : List Ent) (o : Opd) : List Ent :=
  if o.kind = 1 then putGo o.s (.int .u64 o.v) p false else if o.kind = 2 then remGo o.s p else p

/-- an index and a book beside it -/
structure Two (B bx size : Nat) (R : List (List Ent)) (bv : Value) (p : List Ent) (Z : Nat → Prop) (w : World) : Prop where
  mem : ∃ vr pvs, U.MemV w bx size R Z vr pvs
  lim : ∀ k, Z k → B ≤ k ∧ k < w.heap.size
  good : Pg.Good size R
  num : ∀ e ∈ R.flatten, U.NumV e.v
  row : w.ownsRow B 60 3 bv p.length (cellsOf p)
  off : ∀ k, bv.ownBlock = some k → ¬ Z k
  pnum : ∀ e ∈ p, U.NumV e.v
theorem Two.below {B bx size : Nat} {R : List (List Ent)} {bv : Value} {p : List Ent} {Z : Nat → Prop} {w w' : World} (h : Two B bx size R bv p Z w) (hb : Below w.heap.size w w') : Two B bx size R bv p Z w' where
  mem := by obtain ⟨vr, pvs, hM⟩ := h.mem; exact ⟨vr, pvs, hM.below hb⟩
  lim := fun k hk => ⟨(h.lim k hk).1, Nat.lt_of_lt_of_le (h.lim k hk).2 hb.size⟩
  good := h.good
  num := h.num
  row := owns_below h.row hb
  off := h.off
  pnum := h.pnum
theorem Two.bx_lt {B bx size : Nat} {R : List (List Ent)} {bv : Value} {p : List Ent} {Z : Nat → Prop} {w : World} (h : Two B bx size R bv p Z w) : B ≤ w.heap.size := by
  obtain ⟨vr, pvs, hM⟩ := h.mem
  have := h.lim bx hM.sx
  omega

/-- what a call leaves -/
def TurnPost (B bx size : Nat) (R : List (List Ent)) (p : List Ent) (bv : Value) (o : Opd) (Z : Nat → Prop) (w : World) (e : Ending) (w' : World) : Prop :=
  ∃ bv' Z', e = .returned bv' ∧ Two B bx size (stepR size R o) bv' (stepB p o) Z' w' ∧ Ext Z w w' ∧ (∀ k, Z' k → Z k ∨ w.heap.size ≤ k) ∧ ∀ k, bv'.ownBlock = some k → bv.ownBlock = some k ∨ w.heap.size ≤ k

set_option maxHeartbeats 1000000 in
theorem turns_any (B bx size i : Nat) (h4 : 4 ≤ size) (h64 : size ≤ 64) (R : List (List Ent)) (bv : Value) (p : List Ent) (o : Opd) (Z : Nat → Prop) (w : World) (hT : Two B bx size R bv p Z w) (ht : total R ≤ i) (hp : p.length ≤ i) (hi : i ≤ 1099511) :
    Calls Try.prog 22 #[.pointer (some ⟨bx, 0, none⟩), bv, .agg #[.int .i64 o.kind, .int .u64 o.s.t, .int .u64 o.s.s, .int .u64 o.v]] w (TurnPost B bx size R p bv o Z w) := by
  have hB0 := below_box w (.cells #[.int .i64 o.kind, .int .u64 o.s.t, .int .u64 o.s.s, .int .u64 o.v] 40)
  have hF := U.fits_u h4 h64 hT.good ht (by omega)
  have h0 := hT.bx_lt
  obtain ⟨ab, cb, rfl, -⟩ := owns_shape hT.row
  have HT := Lib.hid hT; clear hT
  have y1 : (w.alloc (.cells #[.int .i64 o.kind, .int .u64 o.s.t, .int .u64 o.s.s, .int .u64 o.v] 40)).cell? ⟨w.heap.size, 1, none⟩ = some (.int .u64 o.s.t) := by simp
  have y2 : (w.alloc (.cells #[.int .i64 o.kind, .int .u64 o.s.t, .int .u64 o.s.s, .int .u64 o.v] 40)).cell? ⟨w.heap.size, 2, none⟩ = some (.int .u64 o.s.s) := by simp
  have y3 : (w.alloc (.cells #[.int .i64 o.kind, .int .u64 o.s.t, .int .u64 o.s.s, .int .u64 o.v] 40)).cell? ⟨w.heap.size, 3, none⟩ = some (.int .u64 o.v) := by simp
  by_cases k1 : o.kind = 1
  · obtain ⟨vr, pvs, hM⟩ := HT.out.mem
    have hPu := U.put_any o.s (.int .u64 o.v) rfl bx size R hF HT.out.good.ordered Z vr pvs _ (hM.below hB0)
    unfold St.v at hPu
    have HPu := Lib.hid hPu; clear hPu
    rw [k1] at hB0 y1 y2 y3 HPu ⊢
    go_enter Try.func22, Try.ntmps22
    go_wp2_with fail
    generalize w.alloc (.cells #[.int .i64 1, .int .u64 o.s.t, .int .u64 o.s.s, .int .u64 o.v] 40) = w0 at hB0 y1 y2 y3 HPu ⊢
    refine HPu.out.mono ?_
    rintro e w1 ⟨rfl, vr1, pvs1, hM1, hX1⟩
    have hz0 := hB0.size
    have hbz : ¬ Z w.heap.size := fun h => by have := (HT.out.lim _ h).2; omega
    have y1 := hX1.cell_some y1 hbz
    have y2 := hX1.cell_some y2 hbz
    have y3 := hX1.cell_some y3 hbz
    have hz1 := hX1.size
    have hrow1 := owns_ext (owns_below HT.out.row hB0) hX1 HT.out.off
    have hPb := put_book o.s o.v B p (by omega) HT.out.pnum _ w1 hrow1
    unfold St.v at hPb
    have HPb := Lib.hid hPb; clear hPb hrow1
    go_wp2_with fail
    refine HPb.out.mono ?_
    rintro e w2 ⟨v2, rfl, hrow2, hB2⟩
    go_wp2_with fail
    go_ret
    have hz2 := hB2.size
    have hM2 := hM1.cut.below hB2
    refine ⟨v2, _, rfl, ⟨⟨vr1, pvs1, by unfold stepR; rw [if_pos k1]; exact hM2⟩, ?_, by unfold stepR; rw [if_pos k1]; exact HT.out.good.put h4 _ _, ?_, ?_, ?_, ?_⟩, ((Ext.of_below hB0).trans hX1 fun _ _ h => h).trans (Ext.of_below (S := Z) hB2) fun _ _ h => h, ?_, ?_⟩
    · rintro k ⟨h | h, h'⟩
      · exact ⟨(HT.out.lim k h).1, by omega⟩
      · exact ⟨by omega, by omega⟩
    · intro e he
      unfold stepR at he
      rw [if_pos k1] at he
      rcases put_mem _ _ he with h | h
      · exact HT.out.num e h
      · exact ⟨_, h⟩
    · unfold stepB; rw [if_pos k1]
      exact owns_base hrow2 fun k hk => by have := (hrow2.lt k hk).1; omega
    · rintro k hk ⟨-, h'⟩
      have := (hrow2.lt k hk).1
      omega
    · unfold stepB; rw [if_pos k1]; exact putGo_num HT.out.pnum
    · rintro k ⟨h | h, -⟩
      · exact Or.inl h
      · exact Or.inr (by omega)
    · intro k hk
      exact Or.inr (by have := (hrow2.lt k hk).1; omega)
  · have k1' : (o.kind == 1) = false := by simpa using k1
    by_cases k2 : o.kind = 2
    · obtain ⟨vr, pvs, hM⟩ := HT.out.mem
      have hPu := remove_all o.s bx size R hF HT.out.good Z vr pvs _ (hM.below hB0)
      unfold St.v at hPu
      have HPu := Lib.hid hPu; clear hPu k1'
      rw [k2] at hB0 y1 y2 y3 HPu ⊢
      go_enter Try.func22, Try.ntmps22
      go_wp2_with fail
      generalize w.alloc (.cells #[.int .i64 2, .int .u64 o.s.t, .int .u64 o.s.s, .int .u64 o.v] 40) = w0 at hB0 y1 y2 y3 HPu ⊢
      refine HPu.out.mono ?_
      rintro e w1 ⟨⟨ra, rb, rfl⟩, ⟨vr1, pvs1, hM1⟩, hX1⟩
      have hz0 := hB0.size
      have hbz : ¬ Z w.heap.size := fun h => by have := (HT.out.lim _ h).2; omega
      have y1 := hX1.cell_some y1 hbz
      have y2 := hX1.cell_some y2 hbz
      have hz1 := hX1.size
      have hrow1 := owns_ext (owns_below HT.out.row hB0) hX1 HT.out.off
      have hPb := remove_book o.s B p (by omega) HT.out.pnum _ w1 hrow1
      unfold St.v at hPb
      have HPb := Lib.hid hPb; clear hPb hrow1
      go_wp2_with fail
      refine HPb.out.mono ?_
      rintro e w2 ⟨v2, rfl, hrow2, hB2⟩
      go_wp2_with fail
      go_ret
      have hz2 := hB2.size
      have hM2 := hM1.cut.below hB2
      have e1 : stepR size R o = removeR size R o.s := by unfold stepR; rw [if_neg k1, if_pos k2]
      have e2 : stepB p o = remGo o.s p := by unfold stepB; rw [if_neg k1, if_pos k2]
      refine ⟨v2, _, rfl, ⟨⟨vr1, pvs1, by rw [e1]; exact hM2⟩, ?_, by rw [e1]; exact good_remove HT.out.good _, ?_, ?_, ?_, ?_⟩, ((Ext.of_below hB0).trans hX1 fun _ _ h => h).trans (Ext.of_below (S := Z) hB2) fun _ _ h => h, ?_, ?_⟩
      · rintro k ⟨h | h, h'⟩
        · exact ⟨(HT.out.lim k h).1, by omega⟩
        · exact ⟨by omega, by omega⟩
      · intro e he
        rw [e1] at he
        exact HT.out.num e (remove_mem' _ he)
      · rw [e2]
        exact owns_base hrow2 fun k hk => by have := (hrow2.lt k hk).1; omega
      · rintro k hk ⟨-, h'⟩
        have := (hrow2.lt k hk).1
        omega
      · rw [e2]; exact remGo_num HT.out.pnum
      · rintro k ⟨h | h, -⟩
        · exact Or.inl h
        · exact Or.inr (by omega)
      · intro k hk
        exact Or.inr (by have := (hrow2.lt k hk).1; omega)
    · have k2' : (o.kind == 2) = false := by simpa using k2
      go_enter Try.func22, Try.ntmps22
      go_wp2_with fail
      go_ret
      have e1 : stepR size R o = R := by unfold stepR; rw [if_neg k1, if_neg k2]
      have e2 : stepB p o = p := by unfold stepB; rw [if_neg k1, if_neg k2]
      exact ⟨_, Z, rfl, by rw [e1, e2]; exact HT.out.below hB0, Ext.of_below hB0, fun k h => Or.inl h, fun k h => Or.inl h⟩

theorem stepR_total {size : Nat} {R : List (List Ent)} (hG : Pg.Good size R) (o : Opd) : total (stepR size R o) ≤ total R + 1 := by
  unfold stepR
  split
  · exact total_put_le R _ _
  · split
    · rcases Nat.eq_zero_or_pos R.length with h0 | hR
      · obtain rfl := List.eq_nil_of_length_eq_zero h0
        exact Nat.zero_le _
      · cases ht : there R o.s
        · have e0 : removeR size R o.s = R := by unfold removeR; rw [if_neg (by rw [ht]; decide)]
          rw [e0]; omega
        · have := total_remove (size := size) o.s hR ht
          omega
    · omega
theorem stepB_length (p : List Ent) (o : Opd) : (stepB p o).length ≤ p.length + 1 := by
  unfold stepB
  split
  · have := putGo_length o.s (.int .u64 o.v) p false
    simpa using this
  · split
    · have := remGo_length o.s p
      omega
    · omega
theorem step_flat {size : Nat} {R : List (List Ent)} (hG : Pg.Good size R) (o : Opd) : stepB R.flatten o = (stepR size R o).flatten := by
  unfold stepB stepR
  split
  · exact put_flat hG _ _
  · split
    · exact rem_flat hG _
    · rfl
end Go.Proofs.Ytagcohpghgnalaa.BK
