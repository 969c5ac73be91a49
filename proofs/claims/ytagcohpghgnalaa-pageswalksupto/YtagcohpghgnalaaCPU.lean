/-
  Plain: what the document's Up and Down gather is what the iterators give. No walk.
-/
import Derived.Test.YtagcohpghgnalaaCGBK
import Derived.Test.YtagcohpghgnalaaCGR1
import Derived.Test.YtagcohpghgnalaaCDN
set_option linter.unusedSimpArgs false
set_option linter.unusedVariables false
namespace Go.Proofs.Ytagcohpghgnalaa.QA
open Go.RowKit Go.RG Go.Hp Go.Pg Go.Proofs.Ytagcohpghgnalaa

theorem up_flat {size : Nat} {R : List (List Ent)} (hG : Pg.Good size R) (s : St) : RF.upR s R.flatten = behind' R s := by
  rcases Nat.eq_zero_or_pos R.length with h0 | hR
  · obtain rfl := List.eq_nil_of_length_eq_zero h0
    rfl
  · unfold RF.upR
    rw [flat_parts s hR, List.filter_append, List.filter_eq_nil_iff.2 (fun e he => by rw [ahead_lt hG hR s e he]; simp), List.filter_eq_self.2 (fun e he => by rw [behind_ge hG hR s e he]; rfl), List.nil_append]
theorem down_flat {size : Nat} {R : List (List Ent)} (hG : Pg.Good size R) (s : St) : RF.dnR s R.flatten = U.downs R s := by
  rcases Nat.eq_zero_or_pos R.length with h0 | hR
  · obtain rfl := List.eq_nil_of_length_eq_zero h0
    rw [U.downs_nil]; rfl
  · unfold RF.dnR U.downs
    congr 1
    rw [flat_parts s hR, List.filter_append, List.filter_eq_self.2 (fun e he => by rw [St.lt_asymm (ahead_lt hG hR s e he)]; rfl)]
    cases ht : there R s
    · rw [List.filter_eq_nil_iff.2 (fun e he => by rw [behind_gt hG hR s ht e he]; simp), List.append_nil]
      unfold U.rowsTo U.cut ahead'
      rw [ht]
      simp
    · obtain ⟨e, hk, he, hb⟩ := behind_rest ht
      have hr := hG.rise
      rw [flat_parts s hR, hb] at hr
      have hl : entOf R s < (pageAt R (pageOf R s)).length := by
        have := (isIn_iff.1 ht).1
        rwa [length_keys] at this
      rw [hb, List.filter_cons_of_pos (by rw [hk, St.lt_irrefl]; rfl), List.filter_eq_nil_iff.2 (fun e' h' => by have := (rising_part hr).2.2 e' h'; rw [hk] at this; rw [this]; simp)]
      unfold U.rowsTo U.cut ahead'
      rw [ht, if_pos rfl, List.flatten_append, List.flatten_singleton, List.take_add_one, he]
      simp [ent, hl]
end Go.Proofs.Ytagcohpghgnalaa.QA
