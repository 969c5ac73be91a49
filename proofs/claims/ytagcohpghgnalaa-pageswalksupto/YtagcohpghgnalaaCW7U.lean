/-
  Put and Remove of an index that is nil, or that New did not make (V: uint64).
-/
import Derived.Test.YtagcohpghgnalaaCW6U
import Derived.Test.YtagcohpghgnalaaCW4bU
import Derived.Test.YtagcohpghgnalaaCGW5
set_option linter.unusedSimpArgs false
set_option linter.unusedVariables false
namespace Go.Proofs.Ytagcohpghgnalaa.U
open Go.RowKit Go.RG Go.Hp Go.Pg Go.Proofs.Ytagcohpghgnalaa


set_option maxRecDepth 100000 in
theorem put_none (s : St) (v : Value) (h1v : v.oneCell' = true) (w : World) : Calls Try.prog 24 #[.pointer none, s.v, v] w fun e w' => e = .returned (.bool false) ∧ Below w.heap.size w w' := by
  have hB0 := below_box w (.cells #[.int .u64 s.t, .int .u64 s.s] 38)
  unfold St.v
  go_enter Try.func24, Try.ntmps24
  go_wp2_with fail
  refine (bare_nil _).mono ?_
  rintro e w' ⟨rfl, rfl⟩
  go_wp2_with fail
  go_ret
  exact ⟨rfl, hB0⟩
set_option maxRecDepth 100000 in
theorem remove_none (s : St) (w : World) : Calls Try.prog 26 #[.pointer none, s.v] w fun e w' => e = .returned (.tuple #[.int .u64 0, .bool false]) ∧ Below w.heap.size w w' := by
  have hPl := Lib.hid (place_nil s)
  unfold St.v at hPl ⊢
  have hB0 := below_trans (below_box w (.cells #[.pointer none] 29)) (below_box (w.alloc (.cells #[.pointer none] 29)) (.cells #[.int .u64 s.t, .int .u64 s.s] 38))
  go_enter Try.func26, Try.ntmps26
  go_wp2_with fail
  refine (hPl.out _).mono ?_
  rintro e w1 ⟨rfl, hB1⟩
  have hB2 := below_trans hB0 hB1
  go_wp2_with fail
  go_ret2
  exact ⟨rfl, hB2⟩
/-- Remove of what is not there -/
theorem remove_not (s : St) (bx size : Nat) (R : List (List Ent)) (hF : Fits size R) (hO : Ordered R) (ht : (decide (0 < R.length) && there R s) = false)
    (S : Nat → Prop) (vr : Value) (pvs : List Value) (w : World) (hM : MemV w bx size R S vr pvs) :
    Calls Try.prog 26 #[.pointer (some ⟨bx, 0, none⟩), s.v] w fun e w' => e = .returned (.tuple #[.int .u64 0, .bool false]) ∧ Below w.heap.size w w' := by
  rcases Nat.eq_zero_or_pos R.length with h0 | h0
  · obtain rfl := List.eq_nil_of_length_eq_zero h0
    exact remove_nil s bx size S vr pvs w hM
  · rw [decide_eq_true h0, Bool.true_and] at ht
    exact remove_no s bx size R h0 hF hO ht S vr pvs w hM
end Go.Proofs.Ytagcohpghgnalaa.U
