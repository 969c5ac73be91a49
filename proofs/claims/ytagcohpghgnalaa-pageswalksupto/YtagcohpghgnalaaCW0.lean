/-
  The walks of Less and order (of two stamps).
-/
import Derived.Test.YtagcohpghgnalaaRows
import Derived.Test.YtagcohpghgnalaaCGA
set_option linter.unusedSimpArgs false
set_option linter.unusedVariables false
namespace Go.Proofs.Ytagcohpghgnalaa
open Go.RowKit Go.RG Go.Hp Go.Pg

theorem fol : Try.prog.follows .mixedOrders = true := by kernel_rfl

theorem less_any (a b : St) (w : World) :
    Calls Try.prog 38 #[a.v, b.v] w fun e w' => e = .returned (.bool (a.lt b)) ∧ Below w.heap.size w w' := by
  obtain ⟨at', as'⟩ := a
  obtain ⟨bt, bs⟩ := b
  have hB : Below w.heap.size w ((w.alloc (Obj.cells #[.int .u64 at', .int .u64 as'] 38)).alloc (Obj.cells #[.int .u64 bt, .int .u64 bs] 38)) :=
    ((Below.refl _ w).alloc (Nat.le_refl _) _).alloc (by simp) _
  unfold St.v
  by_cases h1 : at' < bt
  · go_enter Try.func38, Try.ntmps38
    go_wp2
    go_ret
    exact ⟨by simp [St.lt, h1], hB⟩
  · by_cases h2 : at' = bt
    · subst h2
      go_enter Try.func38, Try.ntmps38
      go_wp2
      go_ret
      exact ⟨by simp [St.lt], hB⟩
    · go_enter Try.func38, Try.ntmps38
      go_wp2
      go_ret
      exact ⟨by simp [St.lt, h1, h2], hB⟩

theorem order_any (a b : St) (w : World) :
    Calls Try.prog 68 #[a.v, b.v] w fun e w' => e = .returned (.int .i64 (ord a b)) ∧ Below w.heap.size w w' := by
  have L := less_any
  unfold St.v at L ⊢
  have hB0 : Below w.heap.size w ((w.alloc (Obj.cells #[.int .u64 a.t, .int .u64 a.s] 38)).alloc (Obj.cells #[.int .u64 b.t, .int .u64 b.s] 38)) :=
    ((Below.refl _ w).alloc (Nat.le_refl _) _).alloc (by simp) _
  go_enter Try.func68, Try.ntmps68
  go_wp2_with fail
  refine (L _ _ _).mono ?_
  rintro e w' ⟨rfl, hB⟩
  have hc := fun b o (h : b < w.heap.size + 1 + 1) => hB.cell (p := ⟨b, o, none⟩) (by simpa using h)
  go_wp2_with (go_at_call 38; refine (L _ _ _).mono ?_; rintro e w2 ⟨rfl, hB2⟩)
  · go_ret
    have h : a.lt b = true := by assumption
    exact ⟨by simp [ord, h], below_trans hB0 hB⟩
  · go_ret
    have h : a.lt b = false := by assumption
    have k : b.lt a = true := by assumption
    exact ⟨by simp [ord, h, k], below_trans hB0 (below_trans hB hB2)⟩
  · go_ret
    have h : a.lt b = false := by assumption
    have k : b.lt a = false := by assumption
    exact ⟨by simp [ord, h, k], below_trans hB0 (below_trans hB hB2)⟩
end Go.Proofs.Ytagcohpghgnalaa
