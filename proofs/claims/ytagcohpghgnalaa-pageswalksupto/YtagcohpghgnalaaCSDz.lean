/-
  PagesWalks: iterators that are taken ahead, twice, one within the other, while the loop puts and removes, tell what a plain book tells: for every size, stamp and stop, and every script whose values and letters are together at most 1048576.
-/
import Derived.Test.YtagcohpghgnalaaCSD
import Derived.Carry
import Derived.Lib.SmallJoins
import Derived.Test.YtagcohpghgnalaaCLO
import Derived.Test.YtagcohpghgnalaaCLP
set_option linter.unusedSimpArgs false
set_option linter.unusedVariables false
namespace Go.Proofs.Ytagcohpghgnalaa.SO
open Go.Deep Go.Proofs.Ytagcohpghgnalaa.LB Go.ChangeShapes Go.WideShapes Go.ChangeAt Go.RowKit Go.RG Go.Hp Go.Pg Go.Proofs.Ytagcohpghgnalaa

theorem open_stampV {P : Program} (T : OpT P) (hone : oneCellFields P #[Field.mk "Time" 32 0 false "" "" 0, Field.mk "Seq" 32 1 false "" "" 8] = true) {H : Type} {enc : TypeId × Value → H} {W : World} {b : Nat} {v : Value} {d : DataW H} {p : List MemPlace} (hv : Value.okWide P W .any b 38 v) (h : DataW.Trod enc P W 0 (fun _ => true) true 38 v d p) :
    ∃ s : St, v = s.v := by
  obtain ⟨v0, v1, y0, y1, m, rfl, rfl, rfl, h0, h1⟩ := Joins.open_agg2 T.stamp hone T.cstamp hv h
  obtain ⟨t, e0, -, -⟩ := DataW.trod_int T.u64 h0
  obtain ⟨s, e1, -, -⟩ := DataW.trod_int T.u64 h1
  injection e0 with e0
  injection e1 with e1
  subst e0 e1
  exact ⟨⟨t, s⟩, rfl⟩
theorem oneStamp : oneCellFields Try.prog #[Field.mk "Time" 32 0 false "" "" 0, Field.mk "Seq" 32 1 false "" "" 8] = true := by kernel_rfl

theorem params : Try.f6.params = #[3, 28, 38, 3] := by kernel_rfl

set_option maxRecDepth 100000 in
theorem contract (H : Type) (enc : TypeId × Value → H) (W : World) (base : Nat) (args : Array Value) (ds gs : List (DataW H)) (before : List MemPlace)
    (hval : ∀ (j : Nat) t v, Try.f6.params[j]? = some t → args[j]? = some v → Value.okWide Try.prog W .any base t v)
    (hW : DataW.Whole enc Try.prog Try.f6.params.toList Rows.pagesWalksSpec.vars false W args.toList ds gs before) (hk : Rows.uptoSmall H (ds ++ gs) = true) :
    Calls Try.prog 6 args W fun e W' => ∃ v, e = .returned v ∧ Rows.pagesWalksSpec.post enc Try.prog Try.f6 false true false false W args v W' := by
  have hlt := fun p hp => hW.lt p hp
  have hW' := hW
  obtain ⟨p, q, hA0, hV, rfl, hfz, hnd⟩ := hW
  have hA : DataW.TrodAll enc Try.prog W 0 (fun _ => true) true Try.f6.params.toList args.toList ds p := hA0
  rw [params] at hA hval
  obtain ⟨v0, v1, v2, v3, d0, d1, d2, d3, p0, p1, p2, p3, rfl, rfl, rfl, t0, t1, t2, t3⟩ := trodAll_four hA
  obtain ⟨rfl, rfl⟩ := trodVars_none hV
  obtain ⟨a0, rfl, rfl, rfl, w0⟩ := open_int LP.und_int (hval 0 3 _ rfl rfl) t0
  obtain ⟨a, n, cap, ops, rfl, ho, hok, hle⟩ := open_ops opT (hval 1 28 _ rfl rfl) t1
  obtain ⟨s, rfl⟩ := open_stampV opT oneStamp (hval 2 38 _ rfl rfl) t2
  obtain ⟨a3, rfl, rfl, rfl, w3⟩ := open_int LP.und_int (hval 3 3 _ rfl rfl) t3
  clear hA0
  have hb : Rows.uptoBulkAll ([DataW.lit (.int .i64 a0), d1, d2, DataW.lit (.int .i64 a3)] ++ ([] : List (DataW H))) ≤ 1048576 := of_decide_eq_true hk
  simp only [List.cons_append, List.nil_append, List.append_nil, Rows.uptoBulkAll] at hb
  simp only [List.append_nil, List.nil_append] at hW' hlt
  refine (walks_any a0 a n cap (by omega) ops hok s a3 W ho).mono fun e W' ⟨he, hB⟩ => ?_
  subst he
  exact ⟨_, rfl, LP.post_of_below (pa := p1 ++ p2) (pv := []) hW' hB (fun _ _ _ => (trodAll_cons_mk (shut_bool LP.und_bool _) trodAll_mk0))
    (fun sp hs => by rw [params]; have h4 := trodAll_mk4 (shut_int LP.und_int w0) (LP.again (by kernel_rfl) (of_decide_eq_true (by kernel_rfl)) t1 hB (fun x hx => hlt x (List.mem_append_left _ hx)) (fun x hx => hs x (List.mem_append_left _ hx))) (LP.again (by kernel_rfl) (of_decide_eq_true (by kernel_rfl)) t2 hB (fun x hx => hlt x (List.mem_append_right _ hx)) (fun x hx => hs x (List.mem_append_right _ hx))) (shut_int LP.und_int w3); simp only [List.nil_append, List.append_nil] at h4; exact h4)
    (fun _ _ => rfl) (by simp) (ok_one (by kernel_rfl) rfl (okWide_bool_mk LP.und_bool _))⟩

set_option maxRecDepth 100000 in
theorem lifted (os : Os) (started : os.Started) (H : Type) (enc : TypeId × Value → H) (F : Stop.Interp) :
    ReturnsInHanded {} Try.checked os 6 .any ((Rows.OpenSpec.upto Rows.pagesWalksSpec).pre6 enc Try.prog Try.f6 Rows.pagesWalksUptoRow.domain false) (((Rows.OpenSpec.upto Rows.pagesWalksSpec).at F).post enc Try.prog Try.f6 false true false false) := by
  refine returnsInHanded_of_cond (C := Try.checked) (s := Rows.OpenSpec.upto Rows.pagesWalksSpec) (k := Rows.uptoSmall) rfl LP.own started (by kernel_rfl) Try.func6
    (OpenSpec.witness (enc := enc) (C := Try.checked) (s := Rows.OpenSpec.upto Rows.pagesWalksSpec) (k := Rows.uptoSmall) rfl false ⟨#[], #[.int .i64 0, .slice none 0 0, .agg #[.int .u64 0, .int .u64 0], .int .i64 0], []⟩ 8 (by kernel_rfl) (by kernel_rfl) (by kernel_rfl)
      (x := ([.lit (.int .i64 0), .nil, .agg [.lit (.int .u64 0), .lit (.int .u64 0)], .lit (.int .i64 0)], [], [])) (by kernel_rfl) rfl (by kernel_rfl)) ?_
  intro W base args ds gs before hval hW _ hk _
  exact contract H enc W base args ds gs before hval hW hk

theorem over : Rows.pagesWalksUptoRow.holds Try.pinned (Rows.OpenSpec.upto Rows.pagesWalksSpec) :=
  OpenClaim.holds_of_cond 6 Try.f6 rfl rfl rfl rfl rfl rfl rfl ⟨rfl, rfl, rfl, rfl, rfl⟩ rfl rfl rfl rfl rfl (by kernel_rfl) Try.func6 (by kernel_rfl)
    (of_decide_eq_true (by kernel_rfl)) (by unfold Func.isWrapper; first | (rw [if_pos (by decide +kernel)]; kernel_rfl) | (rw [if_neg (by decide +kernel)]; exact ⟨rfl, rfl⟩))
    (fun os started H enc _ F => lifted os started H enc F)

theorem walks_holds : Rows.PagesWalksUptoSaid :=
  over
end Go.Proofs.Ytagcohpghgnalaa.SO
