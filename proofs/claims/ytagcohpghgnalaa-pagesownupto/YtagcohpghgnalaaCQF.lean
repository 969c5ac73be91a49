/-
  A script as a law's argument; the laws that go through one script: their walks.
-/
import Derived.Test.YtagcohpghgnalaaCQE
import Derived.Test.YtagcohpghgnalaaCLO
import Derived.Lib.SmallJoins
set_option linter.unusedSimpArgs false
set_option linter.unusedVariables false
namespace Go.Proofs.Ytagcohpghgnalaa.QA
open Go.RowKit Go.RG Go.Hp Go.Pg Go.Deep Go.ChangeShapes Go.WideShapes Go.Proofs.Ytagcohpghgnalaa Go.Proofs.Ytagcohpghgnalaa.RF Go.Proofs.Ytagcohpghgnalaa.U Go.Proofs.Ytagcohpghgnalaa.LB Go.Proofs.Ytagcohpghgnalaa.BK
/-- the shape of a script's type -/
structure ScriptT (P : Program) : Prop where
  T : OpT P
  und : P.underlying 69 = some (.struct #[Field.mk "Size" 3 0 false "" "" 0, Field.mk "Ops" 28 1 false "" "" 8])
  one : oneCellFields P #[Field.mk "Size" 3 0 false "" "" 0, Field.mk "Ops" 28 1 false "" "" 8] = true
  cells : P.cellsOf 69 = 2
theorem scriptT : ScriptT Try.prog := ⟨opT, by kernel_rfl, by kernel_rfl, by kernel_rfl⟩

theorem open_script {P : Program} (T : ScriptT P) {H : Type} {enc : TypeId × Value → H} {W : World} {b : Nat} {v : Value} {d : DataW H} {p : List MemPlace} (hv : Value.okWide P W .any b 69 v) (h : DataW.Trod enc P W 0 (fun _ => true) true 69 v d p) :
    ∃ sz a n cap ops, v = .agg #[.int .i64 sz, .slice a n cap] ∧ OpsAt W a n ops ∧ (∀ i, i < n → OpOk (ops i)) ∧ n ≤ Rows.uptoBulk d := by
  obtain ⟨v0, v1, y0, y1, m, rfl, rfl, rfl, h0, h1⟩ := Joins.open_agg2 T.und T.one T.cells hv h
  obtain ⟨sz, e0, -, -⟩ := DataW.trod_int T.T.int h0
  obtain ⟨a, n, cap, e1⟩ := Joins.slice_form T.T.ops h1
  injection e0 with e0
  injection e1 with e1
  subst e0 e1
  obtain ⟨ops, g1, g2, g3⟩ := open_opsT (d := y1.1) (p := y1.2) T.T ⟨m, h1⟩
  refine ⟨sz, a, n, cap, ops, rfl, g1, g2, ?_⟩
  simp only [Rows.uptoBulk, Rows.uptoBulkAll]
  omega

set_option maxRecDepth 100000 in
theorem puts_any (sz : Int) (a : Option Addr) (n cap : Nat) (hn : n ≤ 1048576) (ops : Nat → Opd) (hok : ∀ i, i < n → OpOk (ops i)) (w : World) (ho : OpsAt w a n ops) :
    Calls Try.prog 9 #[.agg #[.int .i64 sz, .slice a n cap]] w fun e w' => e = .returned (.bool true) ∧ Below w.heap.size w w' := by
  have hB0 := below_box w (.cells #[.int .i64 sz, .slice a n cap] 69)
  have ho' : OpsAt (w.alloc (.cells #[.int .i64 sz, .slice a n cap] 69)) a n ops := fun i hi => by
    obtain ⟨pb, po, h, h0, h1, h2, h3⟩ := ho i hi
    exact ⟨pb, po, h, below_cell hB0 h0, below_cell hB0 h1, below_cell hB0 h2, below_cell hB0 h3⟩
  have HU := Lib.hid (fun lo hi => upTo_any sz lo hi a n cap hn ops hok _ ho')
  clear ho ho' hok
  go_enter Try.func9, Try.ntmps9
  go_wp2_with fail
  refine (HU.out _ _).mono ?_
  rintro e w1 ⟨rfl, hB⟩
  go_wp2_with fail
  go_ret
  exact ⟨rfl, below_trans hB0 hB⟩
set_option maxRecDepth 100000 in
theorem shapes_any (sz : Int) (a : Option Addr) (n cap : Nat) (hn : n ≤ 1048576) (ops : Nat → Opd) (hok : ∀ i, i < n → OpOk (ops i)) (w : World) (ho : OpsAt w a n ops) :
    Calls Try.prog 10 #[.agg #[.int .i64 sz, .slice a n cap]] w fun e w' => e = .returned (.bool true) ∧ Below w.heap.size w w' := by
  have hB0 := below_box w (.cells #[.int .i64 sz, .slice a n cap] 69)
  have ho' : OpsAt (w.alloc (.cells #[.int .i64 sz, .slice a n cap] 69)) a n ops := fun i hi => by
    obtain ⟨pb, po, h, h0, h1, h2, h3⟩ := ho i hi
    exact ⟨pb, po, h, below_cell hB0 h0, below_cell hB0 h1, below_cell hB0 h2, below_cell hB0 h3⟩
  have HU := Lib.hid (fun lo hi => upTo_any sz lo hi a n cap hn ops hok _ ho')
  clear ho ho' hok
  go_enter Try.func10, Try.ntmps10
  go_wp2_with fail
  refine (HU.out _ _).mono ?_
  rintro e w1 ⟨rfl, hB⟩
  go_wp2_with fail
  go_ret
  exact ⟨rfl, below_trans hB0 hB⟩
set_option maxRecDepth 100000 in
theorem looks_any (sz : Int) (a : Option Addr) (n cap : Nat) (hn : n ≤ 1048576) (ops : Nat → Opd) (hok : ∀ i, i < n → OpOk (ops i)) (w : World) (ho : OpsAt w a n ops) :
    Calls Try.prog 11 #[.agg #[.int .i64 sz, .slice a n cap]] w fun e w' => e = .returned (.bool true) ∧ Below w.heap.size w w' := by
  have hB0 := below_box w (.cells #[.int .i64 sz, .slice a n cap] 69)
  have ho' : OpsAt (w.alloc (.cells #[.int .i64 sz, .slice a n cap] 69)) a n ops := fun i hi => by
    obtain ⟨pb, po, h, h0, h1, h2, h3⟩ := ho i hi
    exact ⟨pb, po, h, below_cell hB0 h0, below_cell hB0 h1, below_cell hB0 h2, below_cell hB0 h3⟩
  have HU := Lib.hid (fun lo hi => upTo_any sz lo hi a n cap hn ops hok _ ho')
  clear ho ho' hok
  go_enter Try.func11, Try.ntmps11
  go_wp2_with fail
  refine (HU.out _ _).mono ?_
  rintro e w1 ⟨rfl, hB⟩
  go_wp2_with fail
  go_ret
  exact ⟨rfl, below_trans hB0 hB⟩
set_option maxRecDepth 100000 in
theorem goes_any (sz : Int) (a : Option Addr) (n cap : Nat) (hn : n ≤ 1048576) (ops : Nat → Opd) (hok : ∀ i, i < n → OpOk (ops i)) (w : World) (ho : OpsAt w a n ops) :
    Calls Try.prog 12 #[.agg #[.int .i64 sz, .slice a n cap]] w fun e w' => e = .returned (.bool true) ∧ Below w.heap.size w w' := by
  have hB0 := below_box w (.cells #[.int .i64 sz, .slice a n cap] 69)
  have ho' : OpsAt (w.alloc (.cells #[.int .i64 sz, .slice a n cap] 69)) a n ops := fun i hi => by
    obtain ⟨pb, po, h, h0, h1, h2, h3⟩ := ho i hi
    exact ⟨pb, po, h, below_cell hB0 h0, below_cell hB0 h1, below_cell hB0 h2, below_cell hB0 h3⟩
  have HU := Lib.hid (fun lo hi => upTo_any sz lo hi a n cap hn ops hok _ ho')
  clear ho ho' hok
  go_enter Try.func12, Try.ntmps12
  go_wp2_with fail
  refine (HU.out _ _).mono ?_
  rintro e w1 ⟨rfl, hB⟩
  go_wp2_with fail
  go_ret
  exact ⟨rfl, below_trans hB0 hB⟩
set_option maxRecDepth 100000 in
theorem plays_any (sz : Int) (a : Option Addr) (n cap : Nat) (hn : n ≤ 1048576) (ops : Nat → Opd) (hok : ∀ i, i < n → OpOk (ops i)) (w : World) (ho : OpsAt w a n ops) :
    Calls Try.prog 13 #[.agg #[.int .i64 sz, .slice a n cap]] w fun e w' => e = .returned (.bool true) ∧ Below w.heap.size w w' := by
  have hB0 := below_box w (.cells #[.int .i64 sz, .slice a n cap] 69)
  have ho' : OpsAt (w.alloc (.cells #[.int .i64 sz, .slice a n cap] 69)) a n ops := fun i hi => by
    obtain ⟨pb, po, h, h0, h1, h2, h3⟩ := ho i hi
    exact ⟨pb, po, h, below_cell hB0 h0, below_cell hB0 h1, below_cell hB0 h2, below_cell hB0 h3⟩
  have HU := Lib.hid (fun lo hi => upTo_any sz lo hi a n cap hn ops hok _ ho')
  clear ho ho' hok
  go_enter Try.func13, Try.ntmps13
  go_wp2_with fail
  refine (HU.out _ _).mono ?_
  rintro e w1 ⟨rfl, hB⟩
  go_wp2_with fail
  go_ret
  exact ⟨rfl, below_trans hB0 hB⟩
end Go.Proofs.Ytagcohpghgnalaa.QA
