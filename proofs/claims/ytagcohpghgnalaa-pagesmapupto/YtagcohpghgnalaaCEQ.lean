/-
  Equality of stamps.
-/
import Derived.Laws.StructEq
import Derived.Test.YtagcohpghgnalaaCSM
set_option linter.unusedSimpArgs false
set_option linter.unusedVariables false
namespace Go.Proofs.Ytagcohpghgnalaa.U
open Go.RowKit Go.RG Go.Hp Go.Pg Go.Proofs.Ytagcohpghgnalaa
theorem stamp_fields : Try.prog.fieldsOf 38 = #[Field.mk "Time" 32 0 false "" "" 0, Field.mk "Seq" 32 1 false "" "" 8] := by kernel_rfl
theorem stamp_und : Try.prog.underlying 38 = some (.struct (Try.prog.fieldsOf 38)) := by kernel_rfl
theorem stamp_held : Try.prog.stoodInHeld 38 = false := by kernel_rfl
theorem stamp_guard : Try.prog.eqGuardType Try.prog.depth 38 = false := by kernel_rfl
theorem u64_und : Try.prog.underlying 32 = some (.int .u64) := by kernel_rfl
theorem u64_size : Try.prog.cellsOf 32 = 1 := by kernel_rfl
/-- the comparison of stamps -/
def sEq (a b c d : Int) : Bool := a == c && b == d
theorem equalIn_stamp (a b c d : Int) (w : World) : (Op.equalIn 10000 38 (.agg #[.int .u64 a, .int .u64 b]) (.agg #[.int .u64 c, .int .u64 d])).run Try.prog w = .ok (a == c && b == d) w := by
  rw [show (10000 : Nat) = 9999 + 1 from rfl, run_equalIn_agg w 9999 38 _ _ stamp_und stamp_held, stamp_fields]
  have hz : ∀ w, (sizeOf 32).run Try.prog w = .ok 1 w := fun w => by kernel_rfl
  have he : ∀ (x y : Int) (w : World), (Op.equalIn 9999 32 (.int .u64 x) (.int .u64 y)).run Try.prog w = .ok (x == y) w := fun x y w => run_equalIn_int w 9998 32 .u64 .u64 x y u64_und
  cases h1 : (a == c) <;> by_cases h2 : b = d <;> simp [Op.eqFields, go_sem, hz, he, h1, h2]
theorem eql_stamp (a b c d : Int) (w : World) : (binOp .eql 38 (.agg #[.int .u64 a, .int .u64 b]) (.agg #[.int .u64 c, .int .u64 d])).run Try.prog w = .ok (.bool (sEq a b c d)) w := by
  rw [run_eql_struct, equalIn_stamp]; rfl
theorem neq_stamp (a b c d : Int) (w : World) : (binOp .neq 38 (.agg #[.int .u64 a, .int .u64 b]) (.agg #[.int .u64 c, .int .u64 d])).run Try.prog w = .ok (.bool (!(sEq a b c d))) w := by
  rw [run_neq_struct, equalIn_stamp]; rfl
theorem guard_stamp (op : BinOp) (x y : Operand) (xs ys : Array Value) (w : World) : (eqGuard op 38 x y (.agg xs) (.agg ys)).run Try.prog w = .ok () w := run_eqGuard_agg w op 38 x y xs ys stamp_guard
/-- the comparison, as a word on stamps -/
theorem stamp_beq (a b : St) : sEq a.t a.s b.t b.s = decide (a = b) := by
  unfold sEq
  by_cases h : a = b
  · subst h; simp
  · rw [decide_eq_false h]
    cases h1 : (a.t == b.t) <;> cases h2 : (a.s == b.s) <;> simp
    simp at h1 h2
    exact h (by cases a; cases b; simp_all)
end Go.Proofs.Ytagcohpghgnalaa.U
