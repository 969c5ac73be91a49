/-
  PagesMap: any Puts and Removes leave in an index what they leave in a plain book of entries, in order, whatever the size of the pages: for every script whose values and letters are together at most 1048576.
-/
import Derived.Test.YtagcohpghgnalaaCLM
import Derived.Test.YtagcohpghgnalaaCLO
import Derived.Test.YtagcohpghgnalaaCLP
set_option linter.unusedSimpArgs false
set_option linter.unusedVariables false
namespace Go.Proofs.Ytagcohpghgnalaa.LM
open Go.Proofs.Ytagcohpghgnalaa.LB Go.ChangeShapes Go.WideShapes Go.ChangeAt Go.RowKit Go.RG Go.Hp Go.Pg Go.Proofs.Ytagcohpghgnalaa

theorem params : Try.f4.params = #[3, 3, 28] := by kernel_rfl

set_option maxRecDepth 100000 in
theorem contract (H : Type) (enc : TypeId × Value → H) (W : World) (base : Nat) (args : Array Value) (ds gs : List (DataW H)) (before : List MemPlace)
    (hval : ∀ (j : Nat) t v, Try.f4.params[j]? = some t → args[j]? = some v → Value.okWide Try.prog W .any base t v)
    (hW : DataW.Whole enc Try.prog Try.f4.params.toList Rows.pagesMapSpec.vars false W args.toList ds gs before) (hk : Rows.uptoSmall H (ds ++ gs) = true) :
    Calls Try.prog 4 args W fun e W' => ∃ v, e = .returned v ∧ Rows.pagesMapSpec.post enc Try.prog Try.f4 false true false false W args v W' := by
  have hlt := fun p hp => hW.lt p hp
  have hW' := hW
  obtain ⟨p, q, hA0, hV, rfl, hfz, hnd⟩ := hW
  have hA : DataW.TrodAll enc Try.prog W 0 (fun _ => true) true Try.f4.params.toList args.toList ds p := hA0
  rw [params] at hA hval
  obtain ⟨v0, v1, v2, d0, d1, d2, p0, p1, p2, rfl, rfl, rfl, t0, t1, t2⟩ := trodAll_three hA
  obtain ⟨rfl, rfl⟩ := trodVars_none hV
  obtain ⟨a0, rfl, rfl, rfl, w0⟩ := open_int LP.und_int (hval 0 3 _ rfl rfl) t0
  obtain ⟨a1, rfl, rfl, rfl, w1⟩ := open_int LP.und_int (hval 1 3 _ rfl rfl) t1
  obtain ⟨a, n, cap, ops, rfl, ho, hok, hle⟩ := open_ops opT (hval 2 28 _ rfl rfl) t2
  clear hA0
  have hb : Rows.uptoBulkAll ([DataW.lit (.int .i64 a0), DataW.lit (.int .i64 a1), d2] ++ ([] : List (DataW H))) ≤ 1048576 := of_decide_eq_true hk
  simp only [List.cons_append, List.nil_append, List.append_nil, Rows.uptoBulkAll] at hb
  simp only [List.append_nil, List.nil_append] at hW' hlt
  refine (map_any a0 a1 a n cap (by omega) ops hok W ho).mono fun e W' ⟨he, hB⟩ => ?_
  subst he
  exact ⟨_, rfl, LP.post_of_below (pa := p2) (pv := []) hW' hB (fun _ _ _ => (trodAll_cons_mk (shut_bool LP.und_bool _) trodAll_mk0))
    (fun sp hs => by rw [params]; exact trodAll_mk3 (shut_int LP.und_int w0) (shut_int LP.und_int w1) (LP.again (by kernel_rfl) (of_decide_eq_true (by kernel_rfl)) t2 hB hlt hs))
    (fun _ _ => rfl) (by simp) (ok_one (by kernel_rfl) rfl (okWide_bool_mk LP.und_bool _))⟩

set_option maxRecDepth 100000 in
theorem lifted (os : Os) (started : os.Started) (H : Type) (enc : TypeId × Value → H) (F : Stop.Interp) :
    ReturnsInHanded {} Try.checked os 4 .any ((Rows.OpenSpec.upto Rows.pagesMapSpec).pre6 enc Try.prog Try.f4 Rows.pagesMapUptoRow.domain false) (((Rows.OpenSpec.upto Rows.pagesMapSpec).at F).post enc Try.prog Try.f4 false true false false) := by
  refine returnsInHanded_of_cond (C := Try.checked) (s := Rows.OpenSpec.upto Rows.pagesMapSpec) (k := Rows.uptoSmall) rfl LP.own started (by kernel_rfl) Try.func4
    (OpenSpec.witness (enc := enc) (C := Try.checked) (s := Rows.OpenSpec.upto Rows.pagesMapSpec) (k := Rows.uptoSmall) rfl false ⟨#[], #[.int .i64 0, .int .i64 0, .slice none 0 0], []⟩ 8 (by kernel_rfl) (by kernel_rfl) (by kernel_rfl)
      (x := ([.lit (.int .i64 0), .lit (.int .i64 0), .nil], [], [])) (by kernel_rfl) rfl (by kernel_rfl)) ?_
  intro W base args ds gs before hval hW _ hk _
  exact contract H enc W base args ds gs before hval hW hk

theorem over : Rows.pagesMapUptoRow.holds Try.pinned (Rows.OpenSpec.upto Rows.pagesMapSpec) :=
  OpenClaim.holds_of_cond 4 Try.f4 rfl rfl rfl rfl rfl rfl rfl ⟨rfl, rfl, rfl, rfl, rfl⟩ rfl rfl rfl rfl rfl (by kernel_rfl) Try.func4 (by kernel_rfl)
    (of_decide_eq_true (by kernel_rfl)) (by unfold Func.isWrapper; first | (rw [if_pos (by decide +kernel)]; kernel_rfl) | (rw [if_neg (by decide +kernel)]; exact ⟨rfl, rfl⟩))
    (fun os started H enc _ F => lifted os started H enc F)

theorem map_holds : Rows.PagesMapUptoSaid :=
  over
end Go.Proofs.Ytagcohpghgnalaa.LM
