/-
  A book and an index that have seen the same calls hold the same entries. No program.
-/
import Derived.Test.YtagcohpghgnalaaCBK
set_option linter.unusedSimpArgs false
set_option linter.unusedVariables false
namespace Go.Proofs.Ytagcohpghgnalaa.BK
open Go.RowKit Go.RG Go.Hp Go.Pg Go.Proofs.Ytagcohpghgnalaa

theorem putGo_true {s : St} {x : Value} : ∀ {C : List Ent}, (∀ e ∈ C, e.k ≠ s) → putGo s x C true = C
  | [], _ => rfl
  | e :: r, h => by
    have h1 : e.k ≠ s := h e (by simp)
    have h2 : putGo s x r true = r := putGo_true fun e' he => h e' (List.mem_cons_of_mem _ he)
    simp [putGo, h1, h2]
theorem lt_ne {a b : St} (h : a.lt b = true) : a ≠ b := by rintro rfl; rw [St.lt_irrefl] at h; cases h
theorem putGo_ahead {s : St} {x : Value} (C : List Ent) : ∀ {A : List Ent}, (∀ e ∈ A, e.k.lt s = true) → putGo s x (A ++ C) false = A ++ putGo s x C false
  | [], _ => rfl
  | e :: r, h => by
    have h1 := h e (by simp)
    have h2 := lt_ne h1
    have h3 := St.lt_asymm h1
    have h4 : putGo s x (r ++ C) false = r ++ putGo s x C false := putGo_ahead C fun e' he => h e' (List.mem_cons_of_mem _ he)
    simp [putGo, h2, h3, h4]
theorem putGo_behind {s : St} {x : Value} {C : List Ent} (h : ∀ e ∈ C, s.lt e.k = true) : putGo s x C false = ⟨s, x⟩ :: C := by
  cases C with
  | nil => rfl
  | cons e r =>
    have h1 := h e (by simp)
    have h2 := (lt_ne h1).symm
    have h3 := putGo_true (x := x) (fun e' he => (lt_ne (h e' (by simp [he]))).symm : ∀ e' ∈ r, e'.k ≠ s)
    simp [putGo, h1, h2, h3]
theorem put_flat {size : Nat} {R : List (List Ent)} (hG : Pg.Good size R) (s : St) (x : Value) : putGo s x R.flatten false = (putR size R s x).flatten := by
  rcases Nat.eq_zero_or_pos R.length with h0 | hR
  · obtain rfl := List.eq_nil_of_length_eq_zero h0
    rfl
  · cases ht : there R s
    · rw [flat_put_new s x hR ht, flat_parts s hR, putGo_ahead _ (ahead_lt hG hR s), putGo_behind (behind_gt hG hR s ht)]
    · obtain ⟨e, he, -, hb⟩ := behind_rest ht
      have hr := hG.rise
      rw [flat_parts s hR, hb] at hr
      have hgt : ∀ e' ∈ rest' R s, e'.k ≠ s := fun e' h' => by
        have := (rising_part hr).2.2 e' h'
        rw [he] at this
        exact (lt_ne this).symm
      rw [flat_put_there s x hR ht, flat_parts s hR, hb, putGo_ahead _ (ahead_lt hG hR s)]
      simp [putGo, he, putGo_true hgt]
theorem remGo_keep {s : St} {C : List Ent} (h : ∀ e ∈ C, e.k ≠ s) : remGo s C = C := by
  unfold remGo
  rw [List.filter_eq_self]
  intro e he
  simp [h e he]
theorem remGo_append (s : St) (A C : List Ent) : remGo s (A ++ C) = remGo s A ++ remGo s C := by simp [remGo]
theorem rem_flat {size : Nat} {R : List (List Ent)} (hG : Pg.Good size R) (s : St) : remGo s R.flatten = (removeR size R s).flatten := by
  rcases Nat.eq_zero_or_pos R.length with h0 | hR
  · obtain rfl := List.eq_nil_of_length_eq_zero h0
    rfl
  · have hA : ∀ e ∈ ahead' R s, e.k ≠ s := fun e he => lt_ne (ahead_lt hG hR s e he)
    cases ht : there R s
    · have e : removeR size R s = R := by unfold removeR; rw [if_neg (by rw [ht]; decide)]
      rw [e, flat_parts s hR, remGo_append, remGo_keep hA, remGo_keep (fun e he => (lt_ne (behind_gt hG hR s ht e he)).symm)]
    · obtain ⟨e, he, -, hb⟩ := behind_rest ht
      have hr := hG.rise
      rw [flat_parts s hR, hb] at hr
      have hgt : ∀ e' ∈ rest' R s, e'.k ≠ s := fun e' h' => by
        have := (rising_part hr).2.2 e' h'
        rw [he] at this
        exact (lt_ne this).symm
      rw [flat_remove s hR ht, flat_parts s hR, hb, remGo_append, remGo_keep hA, remGo_cons, if_pos he, remGo_keep hgt]
theorem putGo_length (s : St) (x : Value) : ∀ (p : List Ent) (d : Bool), (putGo s x p d).length ≤ p.length + (if d then 0 else 1)
  | [], true => by simp [putGo]
  | [], false => by simp [putGo]
  | e :: r, d => by
    have h1 := putGo_length s x r true
    have h2 := putGo_length s x r d
    simp only [if_true] at h1
    unfold putGo
    split
    · simp only [List.length_cons]; omega
    · split
      · rename_i h
        simp only [List.length_cons, h.1, Bool.false_eq_true, if_false]; omega
      · simp only [List.length_cons]; omega
theorem remGo_length (s : St) (p : List Ent) : (remGo s p).length ≤ p.length := List.length_filter_le _ _
theorem putGo_num {s : St} {x : Int} : ∀ {p : List Ent} {d : Bool}, (∀ e ∈ p, U.NumV e.v) → ∀ e ∈ putGo s (.int .u64 x) p d, U.NumV e.v
  | [], true, _, e, h => by simp [putGo] at h
  | [], false, _, e, h => by
    simp [putGo] at h
    exact ⟨x, by rw [h]⟩
  | e0 :: r, d, hp, e, h => by
    have hr := fun e he => hp e (List.mem_cons_of_mem e0 he)
    have h0 := hp e0 (List.mem_cons_self ..)
    unfold putGo at h
    split at h
    · rcases List.mem_cons.1 h with rfl | h
      · exact ⟨x, rfl⟩
      · exact putGo_num hr e h
    · split at h
      · rcases List.mem_cons.1 h with rfl | h
        · exact ⟨x, rfl⟩
        · rcases List.mem_cons.1 h with rfl | h
          · exact h0
          · exact putGo_num hr e h
      · rcases List.mem_cons.1 h with rfl | h
        · exact h0
        · exact putGo_num hr e h
theorem remGo_num {s : St} {p : List Ent} (hp : ∀ e ∈ p, U.NumV e.v) : ∀ e ∈ remGo s p, U.NumV e.v := fun e h => hp e (List.mem_filter.1 h).1
end Go.Proofs.Ytagcohpghgnalaa.BK
