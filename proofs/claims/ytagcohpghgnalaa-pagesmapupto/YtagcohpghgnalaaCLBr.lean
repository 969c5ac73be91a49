/-
  Two indexes that New made, one of numbers and one of their texts, kept side by side through calls (for the law PagesBlind).
-/
import Derived.Test.YtagcohpghgnalaaCLB
set_option linter.unusedSimpArgs false
set_option linter.unusedVariables false
namespace Go.Proofs.Ytagcohpghgnalaa.LB
open Go.RowKit Go.RG Go.Hp Go.Pg Go.Proofs.Ytagcohpghgnalaa

/-- the text that stands for a number -/
def fv : Value → Value
  | .int .u64 n => txt n
  | _ => .string .empty
def IsNum (v : Value) : Prop := ∃ n : Int, v = .int .u64 n
theorem fv_num (n : Int) : fv (.int .u64 n) = txt n := rfl

theorem put_mem {size : Nat} {R : List (List Ent)} (s : St) (v : Value) {e : Ent} (he : e ∈ (putR size R s v).flatten) : e ∈ R.flatten ∨ e.v = v := by
  rcases Nat.eq_zero_or_pos R.length with h0 | hR
  · have e0 : putR size R s v = [[⟨s, v⟩]] := by unfold putR; rw [if_pos h0]
    rw [e0] at he
    simp at he
    exact Or.inr (by rw [he])
  · cases ht : there R s
    · rw [flat_put_new s v hR ht] at he
      rw [flat_parts s hR]
      simp only [List.mem_append, List.mem_cons] at he ⊢
      rcases he with h | rfl | h
      · exact Or.inl (Or.inl h)
      · exact Or.inr rfl
      · exact Or.inl (Or.inr h)
    · obtain ⟨e1, _, _, hb⟩ := behind_rest ht
      rw [flat_put_there s v hR ht] at he
      rw [flat_parts s hR, hb]
      simp only [List.mem_append, List.mem_cons] at he ⊢
      rcases he with h | rfl | h
      · exact Or.inl (Or.inl h)
      · exact Or.inr rfl
      · exact Or.inl (Or.inr (Or.inr h))
theorem remove_mem {size : Nat} {R : List (List Ent)} (s : St) (hR : 0 < R.length) (ht : there R s = true) {e : Ent} (he : e ∈ (removeR size R s).flatten) : e ∈ R.flatten := by
  obtain ⟨e1, _, _, hb⟩ := behind_rest ht
  rw [flat_remove s hR ht] at he
  rw [flat_parts s hR, hb]
  simp only [List.mem_append, List.mem_cons] at he ⊢
  rcases he with h | h
  · exact Or.inl h
  · exact Or.inr (Or.inr h)
theorem total_put_le {size : Nat} (R : List (List Ent)) (s : St) (v : Value) : total (putR size R s v) ≤ total R + 1 := by
  rcases Nat.eq_zero_or_pos R.length with h0 | hR
  · have e0 : putR size R s v = [[⟨s, v⟩]] := by unfold putR; rw [if_pos h0]
    rw [e0, total_cons, total_nil]
    simp
  · rw [total_put s v hR]; split <;> omega

theorem fits_of {size i : Nat} {R : List (List Ent)} (h4 : 4 ≤ size) (h64 : size ≤ 64) (hG : Pg.Good size R) (ht : total R ≤ i) (hi : i ≤ 274877906944) : U.Fits size R ∧ S.Fits size R :=
  have h1 := rows_le_total hG
  have h2 : ∀ i, i < R.length → (pageAt R i).length ≤ size := fun i hi => (hG.full _ (pageAt_mem hi)).2
  ⟨⟨h4, h64, by omega, by omega, h2⟩, ⟨h4, h64, by omega, by omega, h2⟩⟩

/-- the two indexes: their memory, in blocks from B on, apart from each other -/
def Real (B bu bs size : Nat) (Z : Nat → Prop) (i : Nat) (w : World) : Prop :=
  ∃ R S1 S2 vr pvs vr' pvs', Pg.Good size R ∧ total R ≤ i ∧ (∀ e ∈ R.flatten, IsNum e.v) ∧ U.MemV w bu size R S1 vr pvs ∧ S.MemV w bs size (mapR fv R) S2 vr' pvs' ∧
    (∀ k, S1 k → Z k) ∧ (∀ k, S2 k → Z k) ∧ (∀ k, S1 k → ¬ S2 k) ∧ ∀ k, Z k → B ≤ k ∧ k < w.heap.size

theorem real_put {B bu bs size : Nat} (h4 : 4 ≤ size) (h64 : size ≤ 64) (Z : Nat → Prop) (i : Nat) (w : World) (s : St) (v : Int) (hI : Real B bu bs size Z i w) (hi : i < 1099511) (hB : B ≤ w.heap.size) :
    Calls Try.prog 24 #[.pointer (some ⟨bu, 0, none⟩), St.v s, .int .u64 v] w fun e w1 => ∃ b, e = .returned (.bool b) ∧ Ext Z w w1 ∧
    Calls Try.prog 25 #[.pointer (some ⟨bs, 0, none⟩), St.v s, txt v] w1 fun e w2 => e = .returned (.bool b) ∧ Ext Z w1 w2 ∧ ∃ S', Real B bu bs size S' (i + 1) w2 := by
  obtain ⟨R, S1, S2, vr, pvs, vr', pvs', hG, ht, hn, hu, hs, k1, k2, k3, k4⟩ := hI
  have hF := (fits_of h4 h64 hG ht (by omega)).1
  have hF2 := (fits_of h4 h64 (hG.map fv) (by rw [total_mapR]; exact ht) (by omega)).2
  refine (U.put_any s (.int .u64 v) rfl bu size R hF hG.ordered S1 vr pvs w hu).mono ?_
  rintro e w1 ⟨rfl, vr1, pvs1, hu1, hx1⟩
  refine ⟨_, rfl, hx1.mono fun k _ h => k1 k h, ?_⟩
  have hs1 := hs.ext hx1 fun k _ h2 h1 => k3 k h1 h2
  refine (S.put_any s (txt v) rfl bs size (mapR fv R) hF2 (hG.map fv).ordered S2 vr' pvs' w1 hs1).mono ?_
  rintro e w2 ⟨rfl, vr2, pvs2, hs2, hx2⟩
  rw [length_mapR, there_mapR]
  have hz1 := hx1.size
  have hz2 := hx2.size
  have hs3 := hs2.cut
  rw [← fv_num v, putR_mapR] at hs3
  refine ⟨rfl, hx2.mono fun k _ h => k2 k h, fun k => (Z k ∨ w.heap.size ≤ k) ∧ k < w2.heap.size, putR size R s (.int .u64 v), _, _, vr1, pvs1, vr2, pvs2,
    hG.put h4 s _, Nat.le_trans (total_put_le R s _) (by omega), fun e he => ?_, hu1.cut.ext hx2 ?_, hs3, ?_, ?_, ?_, ?_⟩
  · rcases put_mem s _ he with h | h
    · exact hn e h
    · exact ⟨v, h⟩
  · rintro k - ⟨h1 | h1, -⟩ h2
    · exact k3 k h1 h2
    · exact absurd (k4 k (k2 k h2)).2 (by omega)
  · rintro k ⟨h1 | h1, h2⟩
    · exact ⟨Or.inl (k1 k h1), by omega⟩
    · exact ⟨Or.inr h1, by omega⟩
  · rintro k ⟨h1 | h1, h2⟩
    · exact ⟨Or.inl (k2 k h1), h2⟩
    · exact ⟨Or.inr (by omega), h2⟩
  · rintro k ⟨h1, h2⟩ ⟨h3, h4⟩
    rcases h1 with h1 | h1 <;> rcases h3 with h3 | h3
    · exact k3 k h1 h3
    · omega
    · exact absurd (k4 k (k2 k h3)).2 (by omega)
    · omega
  · rintro k ⟨h1 | h1, h2⟩
    · exact ⟨(k4 k h1).1, h2⟩
    · exact ⟨by omega, h2⟩

theorem real_keep {B bu bs size : Nat} (Z : Nat → Prop) (i : Nat) (w w' : World) (h : Real B bu bs size Z i w) (hb : Below w.heap.size w w') : Real B bu bs size Z i w' := by
  obtain ⟨R, S1, S2, vr, pvs, vr', pvs', hG, ht, hn, hu, hs, k1, k2, k3, k4⟩ := h
  exact ⟨R, S1, S2, vr, pvs, vr', pvs', hG, ht, hn, hu.below hb, hs.below hb, k1, k2, k3, fun k hk => ⟨(k4 k hk).1, Nat.lt_of_lt_of_le (k4 k hk).2 hb.size⟩⟩
theorem real_more {B bu bs size : Nat} (Z : Nat → Prop) (i : Nat) (w : World) (h : Real B bu bs size Z i w) : Real B bu bs size Z (i + 1) w := by
  obtain ⟨R, S1, S2, vr, pvs, vr', pvs', hG, ht, h'⟩ := h
  exact ⟨R, S1, S2, vr, pvs, vr', pvs', hG, by omega, h'⟩

theorem real_rem {B bu bs size : Nat} (h4 : 4 ≤ size) (h64 : size ≤ 64) (Z : Nat → Prop) (i : Nat) (w : World) (s : St) (hI : Real B bu bs size Z i w) (hi : i < 1099511) (hB : B ≤ w.heap.size) :
    Calls Try.prog 26 #[.pointer (some ⟨bu, 0, none⟩), St.v s] w fun e w1 => ∃ a b, e = .returned (.tuple #[a, .bool b]) ∧ Ext Z w w1 ∧
    Calls Try.prog 27 #[.pointer (some ⟨bs, 0, none⟩), St.v s] w1 fun e w2 => ∃ a', e = .returned (.tuple #[a', .bool b]) ∧ Ext Z w1 w2 ∧ ∃ S', Real B bu bs size S' (i + 1) w2 := by
  have hI0 := hI
  obtain ⟨R, S1, S2, vr, pvs, vr', pvs', hG, ht, hn, hu, hs, k1, k2, k3, k4⟩ := hI
  have hF := (fits_of h4 h64 hG ht (by omega)).1
  have hF2 := (fits_of h4 h64 (hG.map fv) (by rw [total_mapR]; exact ht) (by omega)).2
  cases hth : (decide (0 < R.length) && there R s)
  · refine (U.remove_not s bu size R hF hG.ordered hth S1 vr pvs w hu).mono ?_
    rintro e w1 ⟨rfl, hx1⟩
    refine ⟨_, _, rfl, Ext.of_below hx1, ?_⟩
    refine (S.remove_not s bs size (mapR fv R) hF2 (hG.map fv).ordered (by rw [length_mapR, there_mapR]; exact hth) S2 vr' pvs' w1 (hs.below hx1)).mono ?_
    rintro e w2 ⟨rfl, hx2⟩
    exact ⟨_, rfl, Ext.of_below hx2, Z, real_more _ _ _ (real_keep _ _ _ _ hI0 (below_trans hx1 hx2))⟩
  · obtain ⟨hR, hth⟩ := Bool.and_eq_true_iff.1 hth
    have hR := of_decide_eq_true hR
    refine (U.remove_any s bu size R hR hF hG.ordered hth S1 vr pvs w hu).mono ?_
    rintro e w1 ⟨rfl, vr1, pvs1, hu1, hx1⟩
    refine ⟨_, _, rfl, hx1.mono fun k _ h => k1 k h, ?_⟩
    have hs1 := hs.ext hx1 fun k _ h2 h1 => k3 k h1 h2
    refine (S.remove_any s bs size (mapR fv R) (by rw [length_mapR]; exact hR) hF2 (hG.map fv).ordered (by rw [there_mapR]; exact hth) S2 vr' pvs' w1 hs1).mono ?_
    rintro e w2 ⟨rfl, vr2, pvs2, hs2, hx2⟩
    have hz1 := hx1.size
    have hz2 := hx2.size
    have hs3 := hs2.cut
    rw [removeR_mapR] at hs3
    refine ⟨_, rfl, hx2.mono fun k _ h => k2 k h, fun k => (Z k ∨ w.heap.size ≤ k) ∧ k < w2.heap.size, removeR size R s, _, _, vr1, pvs1, vr2, pvs2,
      hG.remove s hR, by have := total_remove (size := size) s hR hth; omega, fun e he => hn e (remove_mem s hR hth he), hu1.cut.ext hx2 ?_, hs3, ?_, ?_, ?_, ?_⟩
    · rintro k - ⟨h1 | h1, -⟩ h2
      · exact k3 k h1 h2
      · exact absurd (k4 k (k2 k h2)).2 (by omega)
    · rintro k ⟨h1 | h1, h2⟩
      · exact ⟨Or.inl (k1 k h1), by omega⟩
      · exact ⟨Or.inr h1, by omega⟩
    · rintro k ⟨h1 | h1, h2⟩
      · exact ⟨Or.inl (k2 k h1), h2⟩
      · exact ⟨Or.inr (by omega), h2⟩
    · rintro k ⟨h1, h2⟩ ⟨h3, h4⟩
      rcases h1 with h1 | h1 <;> rcases h3 with h3 | h3
      · exact k3 k h1 h3
      · omega
      · exact absurd (k4 k (k2 k h3)).2 (by omega)
      · omega
    · rintro k ⟨h1 | h1, h2⟩
      · exact ⟨(k4 k h1).1, h2⟩
      · exact ⟨by omega, h2⟩

theorem real_plc {B bu bs size : Nat} (h4 : 4 ≤ size) (h64 : size ≤ 64) (Z : Nat → Prop) (i : Nat) (w : World) (s : St) (hI : Real B bu bs size Z i w) (hi : i < 1099511) :
    ∃ p q b, (Calls Try.prog 30 #[.pointer (some ⟨bu, 0, none⟩), St.v s] w fun e w1 => e = .returned (.tuple #[.int .i64 p, .int .i64 q, .bool b]) ∧ Below w.heap.size w w1) ∧
    ∀ w1, Below w.heap.size w w1 → Calls Try.prog 31 #[.pointer (some ⟨bs, 0, none⟩), St.v s] w1 fun e w2 => e = .returned (.tuple #[.int .i64 p, .int .i64 q, .bool b]) ∧ Below w1.heap.size w1 w2 := by
  obtain ⟨R, S1, S2, vr, pvs, vr', pvs', hG, ht, hn, hu, hs, k1, k2, k3, k4⟩ := hI
  have h2 : ∀ i, i < R.length → (pageAt R i).length ≤ size := fun i hi => (hG.full _ (pageAt_mem hi)).2
  have h3 := rows_le_total hG
  rcases Nat.eq_zero_or_pos R.length with h0 | hR
  · obtain rfl := List.eq_nil_of_length_eq_zero h0
    exact ⟨0, 0, false, U.place_none s bu size S1 vr pvs w hu, fun w1 hb => S.place_none s bs size S2 vr' pvs' w1 (hs.below hb)⟩
  · refine ⟨pageOf R s, entOf R s, there R s, U.place_some s bu size (by omega) R hR (by omega) hG.ordered (fun i hi => by have := h2 i hi; omega) S1 vr pvs w hu, fun w1 hb => ?_⟩
    have := S.place_some s bs size (by omega) (mapR fv R) (by rw [length_mapR]; exact hR) (by rw [length_mapR]; omega) (hG.map fv).ordered
      (fun i hi => by rw [length_mapR] at hi; rw [pageAt_mapR, length_mapP]; have := h2 i hi; omega) S2 vr' pvs' w1 (hs.below hb)
    rw [pageOf_mapR, entOf_mapR, there_mapR] at this
    exact this

theorem real_get {B bu bs size : Nat} (h4 : 4 ≤ size) (h64 : size ≤ 64) (Z : Nat → Prop) (i : Nat) (w : World) (s : St) (hI : Real B bu bs size Z i w) (hi : i < 1099511) :
    ∃ x b, (Calls Try.prog 28 #[.pointer (some ⟨bu, 0, none⟩), St.v s] w fun e w1 => e = .returned (.tuple #[.int .u64 x, .bool b]) ∧ Below w.heap.size w w1) ∧
    ∀ w1, Below w.heap.size w w1 → Calls Try.prog 29 #[.pointer (some ⟨bs, 0, none⟩), St.v s] w1 fun e w2 => e = .returned (.tuple #[if b then txt x else .string .empty, .bool b]) ∧ Below w1.heap.size w1 w2 := by
  obtain ⟨R, S1, S2, vr, pvs, vr', pvs', hG, ht, hn, hu, hs, k1, k2, k3, k4⟩ := hI
  have h2 : ∀ i, i < R.length → (pageAt R i).length ≤ size := fun i hi => (hG.full _ (pageAt_mem hi)).2
  have h3 := rows_le_total hG
  rcases Nat.eq_zero_or_pos R.length with h0 | hR
  · obtain rfl := List.eq_nil_of_length_eq_zero h0
    exact ⟨0, false, U.get_none s bu size S1 vr pvs w hu, fun w1 hb => S.get_none s bs size S2 vr' pvs' w1 (hs.below hb)⟩
  · have hlm : ∀ i, i < (mapR fv R).length → (pageAt (mapR fv R) i).length ≤ 4611686018427387904 := fun i hi => by rw [length_mapR] at hi; rw [pageAt_mapR, length_mapP]; have := h2 i hi; omega
    cases hth : there R s
    · exact ⟨0, false, U.get_no s bu size (by omega) R hR (by omega) hG.ordered (fun i hi => by have := h2 i hi; omega) hth S1 vr pvs w hu,
        fun w1 hb => S.get_no s bs size (by omega) (mapR fv R) (by rw [length_mapR]; exact hR) (by rw [length_mapR]; omega) (hG.map fv).ordered hlm (by rw [there_mapR]; exact hth) S2 vr' pvs' w1 (hs.below hb)⟩
    · have el : entOf R s < (pageAt R (pageOf R s)).length := by
        have := (isIn_iff.1 hth).1
        rwa [length_keys] at this
      have hme : ent (pageAt R (pageOf R s)) (entOf R s) ∈ R.flatten := by
        refine List.mem_flatten.2 ⟨_, pageAt_mem (pageOf_lt (s := s) hR), ?_⟩
        have : ent (pageAt R (pageOf R s)) (entOf R s) = (pageAt R (pageOf R s))[entOf R s] := by simp [ent, el]
        rw [this]; exact List.getElem_mem _
      obtain ⟨n, hn⟩ := hn _ hme
      have hgu := U.get_some s bu size (by omega) R hR (by omega) hG.ordered (fun i hi => by have := h2 i hi; omega) hth S1 vr pvs w hu
      rw [hn] at hgu
      refine ⟨n, true, hgu, fun w1 hb => ?_⟩
      have hgs := S.get_some s bs size (by omega) (mapR fv R) (by rw [length_mapR]; exact hR) (by rw [length_mapR]; omega) (hG.map fv).ordered hlm (by rw [there_mapR]; exact hth) S2 vr' pvs' w1 (hs.below hb)
      rw [pageOf_mapR, entOf_mapR, pageAt_mapR, ent_mapP fv el] at hgs
      show Calls _ _ _ _ fun e w2 => e = .returned (.tuple #[txt n, .bool true]) ∧ _
      rw [← fv_num n, ← hn]
      exact hgs

theorem real_pgs {B bu bs size : Nat} (h4 : 4 ≤ size) (Z : Nat → Prop) (i : Nat) (w : World) (hI : Real B bu bs size Z i w) (hi : i < 1099511) :
    ∃ l : List Int, l.length ≤ 1099511 ∧ (Calls Try.prog 32 #[.pointer (some ⟨bu, 0, none⟩)] w fun e w1 => ∃ v, e = .returned v ∧ w1.ownsRow w.heap.size 3 1 v l.length (l.map fun x => .int .i64 x) ∧ Below w.heap.size w w1) ∧
    ∀ w1, Below w.heap.size w w1 → Calls Try.prog 33 #[.pointer (some ⟨bs, 0, none⟩)] w1 fun e w2 => ∃ v, e = .returned v ∧ w2.ownsRow w1.heap.size 3 1 v l.length (l.map fun x => .int .i64 x) ∧ Below w1.heap.size w1 w2 := by
  obtain ⟨R, S1, S2, vr, pvs, vr', pvs', hG, ht, hn, hu, hs, k1, k2, k3, k4⟩ := hI
  have h3 := rows_le_total hG
  have e1 : (R.map fun p => (Value.int .i64 p.length)) = (R.map fun p => (p.length : Int)).map fun x => .int .i64 x := by simp [List.map_map, Function.comp_def]
  have e2 : ((mapR fv R).map fun p => (Value.int .i64 p.length)) = (R.map fun p => (p.length : Int)).map fun x => .int .i64 x := by simp [mapR, mapP, List.map_map, Function.comp_def]
  have hu' := U.pages_any bu size (by omega) R (by omega) S1 vr pvs w hu
  rw [e1] at hu'
  refine ⟨R.map fun p => (p.length : Int), by rw [List.length_map]; omega, by rw [List.length_map]; exact hu', fun w1 hb => ?_⟩
  have hs' := S.pages_any bs size (by omega) (mapR fv R) (by rw [length_mapR]; omega) S2 vr' pvs' w1 (hs.below hb)
  rw [e2, length_mapR] at hs'
  rw [List.length_map]
  exact hs'

theorem real_len {B bu bs size : Nat} (h4 : 4 ≤ size) (Z : Nat → Prop) (i : Nat) (w : World) (hI : Real B bu bs size Z i w) :
    ∃ m : Int, (Calls Try.prog 34 #[.pointer (some ⟨bu, 0, none⟩)] w fun e w1 => e = .returned (.int .i64 m) ∧ w = w1) ∧ (Calls Try.prog 35 #[.pointer (some ⟨bs, 0, none⟩)] w fun e w1 => e = .returned (.int .i64 m) ∧ w = w1) := by
  obtain ⟨R, S1, S2, vr, pvs, vr', pvs', hG, ht, hn, hu, hs, k1, k2, k3, k4⟩ := hI
  refine ⟨total R, U.len_any bu size (by omega) R S1 vr pvs w hu, ?_⟩
  have := S.len_any bs size (by omega) (mapR fv R) S2 vr' pvs' w hs
  rw [total_mapR] at this
  exact this

theorem real_duo {B bu bs size : Nat} (h4 : 4 ≤ size) (h64 : size ≤ 64) : Duo B (.pointer (some ⟨bu, 0, none⟩)) (.pointer (some ⟨bs, 0, none⟩)) (Real B bu bs size) where
  own := fun Z i w h k hk => by
    obtain ⟨R, S1, S2, vr, pvs, vr', pvs', hG, ht, hn, hu, hs, k1, k2, k3, k4⟩ := h
    exact k4 k hk
  keep := real_keep
  more := real_more
  put := fun Z i w s v h hi => real_put h4 h64 Z i w s v h hi (by
    obtain ⟨R, S1, S2, vr, pvs, vr', pvs', hG, ht, hn, hu, hs, k1, k2, k3, k4⟩ := h
    have := k4 _ (k1 _ hu.sx); omega)
  rem := fun Z i w s h hi => real_rem h4 h64 Z i w s h hi (by
    obtain ⟨R, S1, S2, vr, pvs, vr', pvs', hG, ht, hn, hu, hs, k1, k2, k3, k4⟩ := h
    have := k4 _ (k1 _ hu.sx); omega)
  get := fun Z i w s h hi => real_get h4 h64 Z i w s h hi
  plc := fun Z i w s h hi => real_plc h4 h64 Z i w s h hi
  pgs := fun Z i w h hi => real_pgs h4 Z i w h hi
  len := fun Z i w h _ => real_len h4 Z i w h

/-- nil indexes -/
theorem nil_duo (B : Nat) : Duo B (.pointer none) (.pointer none) (fun Z _ _ => ∀ k, ¬ Z k) where
  own := fun Z i w h k hk => absurd hk (h k)
  keep := fun Z i w w' h _ => h
  more := fun Z i w h => h
  put := fun Z i w s v h _ => (U.put_none s (.int .u64 v) rfl w).mono fun e w1 ⟨h1, h2⟩ => ⟨false, h1, Ext.of_below h2,
    (S.put_none s (txt v) rfl w1).mono fun e w2 ⟨h3, h4⟩ => ⟨h3, Ext.of_below h4, Z, h⟩⟩
  rem := fun Z i w s h _ => (U.remove_none s w).mono fun e w1 ⟨h1, h2⟩ => ⟨_, false, h1, Ext.of_below h2,
    (S.remove_none s w1).mono fun e w2 ⟨h3, h4⟩ => ⟨_, h3, Ext.of_below h4, Z, h⟩⟩
  get := fun Z i w s h _ => ⟨0, false, U.get_nil s w, fun w1 _ => S.get_nil s w1⟩
  plc := fun Z i w s h _ => ⟨0, 0, false, U.place_nil s w, fun w1 _ => S.place_nil s w1⟩
  pgs := fun Z i w h _ => ⟨[], by simp, (U.pages_nil w).mono fun e w1 ⟨h1, h2⟩ => ⟨_, h1, by subst h2; exact World.ownsRow_nil _ _ _ _, by subst h2; exact Below.refl _ _⟩,
    fun w1 _ => (S.pages_nil w1).mono fun e w2 ⟨h1, h2⟩ => ⟨_, h1, by subst h2; exact World.ownsRow_nil _ _ _ _, by subst h2; exact Below.refl _ _⟩⟩
  len := fun Z i w h _ => ⟨0, U.len_nil w, S.len_nil w⟩
theorem real_new {size bu bs : Nat} (h4 : 4 ≤ size) {w w1 w2 : World} {vr vr' : Value} (hbu : w.heap.size ≤ bu) (hbs : w1.heap.size ≤ bs) (hMu : U.MemV w1 bu size [] (· = bu) vr [])
    (hMs : S.MemV w2 bs size [] (· = bs) vr' []) (hB1 : Below w.heap.size w w1) (hB2 : Below w1.heap.size w1 w2) : Real w.heap.size bu bs size (fun k => k = bu ∨ k = bs) 0 w2 := by
  have h1 := block_lt_of_heap hMu.str
  have h2 := block_lt_of_heap hMs.str
  have h3 := hB1.size
  have h4 := hB2.size
  refine ⟨[], _, _, _, _, _, _, ⟨by simp, by simp [keys, Rising]⟩, by rw [total_nil]; omega, by simp, hMu.below hB2, hMs, fun k h => Or.inl h, fun k h => Or.inr h, ?_, ?_⟩
  · rintro k rfl h; omega
  · rintro k (rfl | rfl) <;> omega
end Go.Proofs.Ytagcohpghgnalaa.LB
