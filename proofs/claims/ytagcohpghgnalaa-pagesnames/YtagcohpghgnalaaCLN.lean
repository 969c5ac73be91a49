/-
  PagesNames: the sizes that may be, and three entries: the walk.
-/
import Derived.Test.YtagcohpghgnalaaCSM
import Derived.Test.YtagcohpghgnalaaCW7S
set_option linter.unusedSimpArgs false
set_option linter.unusedVariables false
namespace Go.Proofs.Ytagcohpghgnalaa.LN
open Go.RowKit Go.RG Go.Hp Go.Pg Go.Proofs.Ytagcohpghgnalaa


set_option maxHeartbeats 1000000 in
set_option maxRecDepth 100000 in
theorem names_any (w : World) : Calls Try.prog 3 #[] w fun e w' => e = .returned (.bool true) ∧ Below w.heap.size w w' := by
  go_enter Try.func3, Try.ntmps3
  go_wp2_with fail
  refine (S.new_bad 3 (by omega) _).mono ?_
  rintro e w' ⟨rfl, rfl⟩
  go_wp2_with fail
  refine (S.new_bad 65 (by omega) _).mono ?_
  rintro e w' ⟨rfl, rfl⟩
  go_wp2_with fail
  refine (S.new_any 4 (by omega) (by omega) _).mono ?_
  rintro e w1 ⟨b1, vr1, rfl, hb1, hM1, hB1⟩
  go_wp2_with fail
  refine (S.new_any 64 (by omega) (by omega) _).mono ?_
  rintro e w2 ⟨b2, vr2, rfl, hb2, hM2, hB2⟩
  go_wp2_with fail
  iterate 6
    refine (U.num_any _ _).mono ?_
    rintro e w' ⟨rfl, rfl⟩
    go_wp2_with fail
  refine (U.small_any _).mono ?_
  rintro e w3 ⟨rfl, hB3⟩
  go_wp2_with fail
  go_ret
  exact ⟨rfl, (hB1.trans (hB2.mono hB1.size)).trans (hB3.mono (Nat.le_trans hB1.size hB2.size))⟩
end Go.Proofs.Ytagcohpghgnalaa.LN
