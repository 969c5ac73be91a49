/-
  A script of calls as a law's argument: its cells, and how many calls it may have.
-/
import Derived.Test.YtagcohpghgnalaaCGBK
import Derived.Test.YtagcohpghgnalaaRows
import Derived.WalkKit
import Derived.Deep.Slices
set_option linter.unusedSimpArgs false
set_option linter.unusedVariables false
namespace Go.Proofs.Ytagcohpghgnalaa.LB
open Go.RowKit Go.RG Go.Hp Go.Pg Go.Deep Go.ChangeShapes Go.WideShapes Go.Proofs.Ytagcohpghgnalaa

/-- the shape of the types of a script -/
structure OpT (P : Program) : Prop where
  ops : P.underlying 28 = some (.slice 40)
  op : P.underlying 40 = some (.struct #[Field.mk "Kind" 3 0 false "" "" 0, Field.mk "S" 38 1 false "" "" 8, Field.mk "V" 32 3 false "" "" 24])
  stamp : P.underlying 38 = some (.struct #[Field.mk "Time" 32 0 false "" "" 0, Field.mk "Seq" 32 1 false "" "" 8])
  int : P.underlying 3 = some (.int .i64)
  u64 : P.underlying 32 = some (.int .u64)
  cop : P.cellsOf 40 = 4
  cstamp : P.cellsOf 38 = 2
  cint : P.cellsOf 3 = 1
  cu64 : P.cellsOf 32 = 1
theorem opT : OpT Try.prog := ⟨by kernel_rfl, by kernel_rfl, by kernel_rfl, by kernel_rfl, by kernel_rfl, by kernel_rfl, by kernel_rfl, by kernel_rfl, by kernel_rfl⟩

/-- the numbers of a call are such as their kinds bear -/
structure OpOk (o : Opd) : Prop where
  kind : -9223372036854775808 ≤ o.kind ∧ o.kind ≤ 9223372036854775807
  t : 0 ≤ o.s.t ∧ o.s.t ≤ 18446744073709551615
  s : 0 ≤ o.s.s ∧ o.s.s ≤ 18446744073709551615
  v : 0 ≤ o.v ∧ o.v ≤ 18446744073709551615
theorem wf_i64' {n : Int} (h : (Lit.int .i64 n).wf = true) : -9223372036854775808 ≤ n ∧ n ≤ 9223372036854775807 := by
  simpa [Lit.wf, IntKind.min, IntKind.max, IntKind.signed, IntKind.bits] using h
theorem wf_u64' {n : Int} (h : (Lit.int .u64 n).wf = true) : 0 ≤ n ∧ n ≤ 18446744073709551615 := by
  simpa [Lit.wf, IntKind.min, IntKind.max, IntKind.signed, IntKind.bits] using h

instance : Inhabited Opd := ⟨⟨0, ⟨0, 0⟩, 0⟩⟩

section
variable {H : Type} {enc : TypeId × Value → H} {W : World} {base : Nat} {sp : Nat → Bool} {held : Bool} {P : Program} (T : OpT P)
include T

/-- a stamp's two cells -/
theorem open_stamp {fuel : Nat} {cs : List Value} {x : DataW H × List MemPlace} (h : DataW.trod enc P W base sp held fuel 38 cs = some x) :
    ∃ s : St, cs = [.int .u64 s.t, .int .u64 s.s] ∧ (Lit.int .u64 s.t).wf = true ∧ (Lit.int .u64 s.s).wf = true := by
  obtain ⟨xs, n, _, _, hl, _, hf⟩ := DataW.trod_struct T.stamp h
  rw [T.cstamp] at hl
  match cs, hl with
  | [c0, c1], _ =>
    have f0 := hf 0 (Field.mk "Time" 32 0 false "" "" 0) rfl
    have f1 := hf 1 (Field.mk "Seq" 32 1 false "" "" 8) rfl
    dsimp only at f0 f1
    rw [T.cu64] at f0 f1
    simp at f0 f1
    have hx : xs.length = 2 := by assumption
    match xs, hx with
    | [y0, y1], _ =>
      obtain ⟨t, h1, _, w1⟩ := DataW.trod_int T.u64 f0
      obtain ⟨s, h2, _, w2⟩ := DataW.trod_int T.u64 f1
      injection h1 with h1
      injection h2 with h2
      exact ⟨⟨t, s⟩, by rw [h1, h2], w1, w2⟩
/-- a call's four cells -/
theorem open_op {fuel : Nat} {cs : List Value} {x : DataW H × List MemPlace} (h : DataW.trod enc P W base sp held fuel 40 cs = some x) :
    ∃ o : Opd, cs = [.int .i64 o.kind, .int .u64 o.s.t, .int .u64 o.s.s, .int .u64 o.v] ∧ (Lit.int .i64 o.kind).wf = true ∧ (Lit.int .u64 o.s.t).wf = true ∧ (Lit.int .u64 o.s.s).wf = true ∧ (Lit.int .u64 o.v).wf = true := by
  obtain ⟨xs, n, _, _, hl, _, hf⟩ := DataW.trod_struct T.op h
  rw [T.cop] at hl
  match cs, hl with
  | [c0, c1, c2, c3], _ =>
    have f0 := hf 0 (Field.mk "Kind" 3 0 false "" "" 0) rfl
    have f1 := hf 1 (Field.mk "S" 38 1 false "" "" 8) rfl
    have f2 := hf 2 (Field.mk "V" 32 3 false "" "" 24) rfl
    dsimp only at f0 f1 f2
    rw [T.cint] at f0
    rw [T.cstamp] at f1
    rw [T.cu64] at f2
    simp at f0 f1 f2
    have hx : xs.length = 3 := by assumption
    match xs, hx with
    | [y0, y1, y2], _ =>
      obtain ⟨k, h1, _, w1⟩ := DataW.trod_int T.int f0
      obtain ⟨s, h2, w2, w3⟩ := open_stamp T f1
      obtain ⟨v, h3, _, w4⟩ := DataW.trod_int T.u64 f2
      injection h1 with h1
      injection h2 with h2 h2'
      injection h2' with h2'
      injection h3 with h3
      exact ⟨⟨k, s, v⟩, by rw [h1, h2, h2', h3], w1, w2, w3, w4⟩


/-- a script: its cells, and the number of its calls by the bulk of what it reads as -/
theorem open_opsT {a : Option Addr} {n cap : Nat} {d : DataW H} {p : List MemPlace} (h : DataW.Trod enc P W 0 (fun _ => true) true 28 (.slice a n cap) d p) :
    ∃ ops, OpsAt W a n ops ∧ (∀ i, i < n → OpOk (ops i)) ∧ n ≤ Rows.uptoBulk d := by
  obtain ⟨fuel, h⟩ := h
  rcases open_slice T.ops h with ⟨h1, h2⟩ | ⟨a', len, cap', m, k, D, Pl, h1, hb, hl, hm, hmm, hx, hall⟩
  · have h1 : [Value.slice a n cap] = [.slice none 0 0] := h1
    injection h1 with h1
    injection h1 with h1 h3 h4
    subst h1 h3 h4
    exact ⟨fun _ => default, fun i hi => by omega, fun i hi => by omega, by omega⟩
  · have h1 : [Value.slice a n cap] = [.slice (some a') len cap'] := h1
    injection h1 with h1
    injection h1 with h1 h3 h4
    subst h1 h3 h4
    have hlm : n ≤ m := by rw [hmm]; split <;> omega
    have each : ∀ i, i < n → ∃ o : Opd, a'.spot = none ∧ OpOk o ∧ W.cell? (a'.add (i * 4)) = some (.int .i64 o.kind) ∧ W.cell? (a'.add (i * 4 + 1)) = some (.int .u64 o.s.t) ∧ W.cell? (a'.add (i * 4 + 2)) = some (.int .u64 o.s.s) ∧ W.cell? (a'.add (i * 4 + 3)) = some (.int .u64 o.v) := by
      intro i hi
      obtain ⟨cs', h1, h2⟩ := hall i (by omega)
      rw [T.cop] at h1
      obtain ⟨_, hlen, hcell⟩ := World.cells?_some h1
      obtain ⟨o, rfl, w1, w2, w3, w4⟩ := open_op T h2
      have e0 := hcell 0 (by omega)
      have e1 := hcell 1 (by omega)
      have e2 := hcell 2 (by omega)
      have e3 := hcell 3 (by omega)
      rw [add_add] at e0 e1 e2 e3
      have es : a'.spot = none := by
        obtain ⟨cs0, g1, g2⟩ := hall 0 (by omega)
        rw [T.cop] at g1
        obtain ⟨_, hlen0, hcell0⟩ := World.cells?_some g1
        have g := hcell0 0 (by omega)
        rw [add_add] at g
        have hlt : (0 : Nat) < cs0.length := by omega
        rw [List.getElem?_eq_getElem hlt] at g
        have := World.cell?_spot g
        simpa [Addr.add] using this
      exact ⟨o, es, ⟨wf_i64' w1, wf_u64' w2, wf_u64' w3, wf_u64' w4⟩, by simpa using e0, by simpa using e1, by simpa using e2, by simpa using e3⟩
    obtain ⟨ops, hops⟩ := choose_lt each
    refine ⟨ops, fun i hi => ?_, fun i hi => (hops i hi).2.1, ?_⟩
    · obtain ⟨g0, -, g1, g2, g3, g4⟩ := hops i hi
      obtain ⟨pb, po, spot⟩ := a'
      obtain rfl : spot = none := g0
      refine ⟨pb, po, rfl, ?_⟩
      rw [Addr.add_lit] at g1 g2 g3 g4
      exact ⟨g1, by simpa [Nat.add_assoc] using g2, by simpa [Nat.add_assoc] using g3, by simpa [Nat.add_assoc] using g4⟩
    · simp only [Prod.mk.injEq] at hx
      rw [hx.1]
      have : ∀ l : List (DataW H), l.length ≤ Rows.uptoBulkAll l := fun l => by
        induction l with
        | nil => simp [Rows.uptoBulkAll]
        | cons x r ih =>
          have h1 : 1 ≤ Rows.uptoBulk x := by
            cases x with
            | lit l => cases l <;> simp [Rows.uptoBulk]
            | nil => simp [Rows.uptoBulk]
            | ptr d => simp [Rows.uptoBulk]
            | slice elems spare => simp [Rows.uptoBulk]
            | agg parts => simp [Rows.uptoBulk]
            | iface t d => simp [Rows.uptoBulk]
            | map entries => simp [Rows.uptoBulk]
            | held h => simp [Rows.uptoBulk]
          simp only [Rows.uptoBulkAll, List.length_cons]; omega
      have h5 := this ((List.range n).map D)
      rw [List.length_map, List.length_range] at h5
      simp only [Rows.uptoBulk]
      omega
theorem open_ops {v : Value} {d : DataW H} {p : List MemPlace} {b : Nat} (hv : Value.okWide P W .any b 28 v) (h : DataW.Trod enc P W 0 (fun _ => true) true 28 v d p) :
    ∃ a n cap ops, v = .slice a n cap ∧ OpsAt W a n ops ∧ (∀ i, i < n → OpOk (ops i)) ∧ n ≤ Rows.uptoBulk d := by
  obtain ⟨a, n, cap, rfl⟩ := okWide_slice T.ops hv
  obtain ⟨ops, h1, h2, h3⟩ := open_opsT T h
  exact ⟨a, n, cap, ops, rfl, h1, h2, h3⟩
end
end Go.Proofs.Ytagcohpghgnalaa.LB
