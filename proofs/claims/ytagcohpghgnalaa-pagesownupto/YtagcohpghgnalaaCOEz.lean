/-
  PagesOwn: the lists that Pages answers are the caller's: for every script whose values and letters are together at most 1048576.
-/
import Derived.Test.YtagcohpghgnalaaCOE
import Derived.Test.YtagcohpghgnalaaCLP
set_option linter.unusedSimpArgs false
set_option linter.unusedVariables false
namespace Go.Proofs.Ytagcohpghgnalaa.QA.Own
open Go.Proofs.Ytagcohpghgnalaa.LB Go.ChangeShapes Go.WideShapes Go.ChangeAt Go.RowKit Go.RG Go.Hp Go.Pg Go.Proofs.Ytagcohpghgnalaa

theorem params : Try.f16.params = #[69] := by kernel_rfl

set_option maxRecDepth 100000 in
theorem contract (H : Type) (enc : TypeId × Value → H) (W : World) (base : Nat) (args : Array Value) (ds gs : List (DataW H)) (before : List MemPlace)
    (hval : ∀ (j : Nat) t v, Try.f16.params[j]? = some t → args[j]? = some v → Value.okWide Try.prog W .any base t v)
    (hW : DataW.Whole enc Try.prog Try.f16.params.toList Rows.pagesOwnSpec.vars false W args.toList ds gs before) (hk : Rows.uptoSmall H (ds ++ gs) = true) :
    Calls Try.prog 16 args W fun e W' => ∃ v, e = .returned v ∧ Rows.pagesOwnSpec.post enc Try.prog Try.f16 false true false false W args v W' := by
  have hlt := fun p hp => hW.lt p hp
  have hW' := hW
  obtain ⟨p, q, hA0, hV, rfl, hfz, hnd⟩ := hW
  have hA : DataW.TrodAll enc Try.prog W 0 (fun _ => true) true Try.f16.params.toList args.toList ds p := hA0
  rw [params] at hA hval
  obtain ⟨v0, d0, rfl, rfl, t0⟩ := trodAll_one hA
  obtain ⟨rfl, rfl⟩ := trodVars_none hV
  obtain ⟨sz, a, n, cap, ops, rfl, ho, hok, hle⟩ := open_script scriptT (hval 0 69 _ rfl rfl) t0
  clear hA0
  have hb : Rows.uptoBulkAll ([d0] ++ ([] : List (DataW H))) ≤ 1048576 := of_decide_eq_true hk
  simp only [List.cons_append, List.nil_append, List.append_nil, Rows.uptoBulkAll] at hb
  simp only [List.append_nil, List.nil_append] at hW' hlt
  refine (OW.own_law sz a n cap (by omega) ops hok W ho).mono fun e W' ⟨he, hB⟩ => ?_
  subst he
  exact ⟨_, rfl, LP.post_of_below (pa := p) (pv := []) hW' hB (fun _ _ _ => (trodAll_cons_mk (shut_bool LP.und_bool _) trodAll_mk0))
    (fun sp hs => by rw [params]; exact trodAll_mk1 (LP.again (by kernel_rfl) (of_decide_eq_true (by kernel_rfl)) t0 hB hlt hs))
    (fun _ _ => rfl) (by simp) (ok_one (by kernel_rfl) rfl (okWide_bool_mk LP.und_bool _))⟩

set_option maxRecDepth 100000 in
theorem lifted (os : Os) (started : os.Started) (H : Type) (enc : TypeId × Value → H) (F : Stop.Interp) :
    ReturnsInHanded {} Try.checked os 16 .any ((Rows.OpenSpec.upto Rows.pagesOwnSpec).pre6 enc Try.prog Try.f16 Rows.pagesOwnUptoRow.domain false) (((Rows.OpenSpec.upto Rows.pagesOwnSpec).at F).post enc Try.prog Try.f16 false true false false) := by
  refine returnsInHanded_of_cond (C := Try.checked) (s := Rows.OpenSpec.upto Rows.pagesOwnSpec) (k := Rows.uptoSmall) rfl LP.own started (by kernel_rfl) Try.func16
    (OpenSpec.witness (enc := enc) (C := Try.checked) (s := Rows.OpenSpec.upto Rows.pagesOwnSpec) (k := Rows.uptoSmall) rfl false ⟨#[], #[.agg #[.int .i64 0, .slice none 0 0]], []⟩ 8 (by kernel_rfl) (by kernel_rfl) (by kernel_rfl)
      (x := ([.agg [.lit (.int .i64 0), .nil]], [], [])) (by kernel_rfl) rfl (by kernel_rfl)) ?_
  intro W base args ds gs before hval hW _ hk _
  exact contract H enc W base args ds gs before hval hW hk

theorem over : Rows.pagesOwnUptoRow.holds Try.pinned (Rows.OpenSpec.upto Rows.pagesOwnSpec) :=
  OpenClaim.holds_of_cond 16 Try.f16 rfl rfl rfl rfl rfl rfl rfl ⟨rfl, rfl, rfl, rfl, rfl⟩ rfl rfl rfl rfl rfl (by kernel_rfl) Try.func16 (by kernel_rfl)
    (of_decide_eq_true (by kernel_rfl)) (by unfold Func.isWrapper; first | (rw [if_pos (by decide +kernel)]; kernel_rfl) | (rw [if_neg (by decide +kernel)]; exact ⟨rfl, rfl⟩))
    (fun os started H enc _ F => lifted os started H enc F)

theorem own_holds : Rows.PagesOwnUptoSaid :=
  over
end Go.Proofs.Ytagcohpghgnalaa.QA.Own
