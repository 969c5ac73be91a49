/-
  small: what must come of three entries in an index of size 4.
-/
import Derived.Test.YtagcohpghgnalaaCIL
set_option linter.unusedSimpArgs false
set_option linter.unusedVariables false
namespace Go.Proofs.Ytagcohpghgnalaa.U
open Go.RowKit Go.RG Go.Hp Go.Pg Go.Shelf Go.Proofs.Ytagcohpghgnalaa


theorem num_any (e : Int) (w : World) : Calls Try.prog 18 #[.int .i64 e] w fun e' w' => e' = .returned (.int .i64 e) ∧ w = w' := by
  go_enter Try.func18, Try.ntmps18
  go_wp2
  go_ret
  exact ⟨rfl, rfl⟩
theorem und_itfn : Try.prog.underlying 57 = some (.func #[44] #[] false) := by kernel_rfl
theorem eql_fn (f : Nat) (cs : Array Value) (w : World) : (binOp .eql 57 (.func (.func f) #[] cs) .nilFunc).run Try.prog w = .ok (.bool false) w := by
  have h : ∀ d : Nat, (Op.equalIn (d + 1) 57 (.func (.func f) #[] cs) .nilFunc).run Try.prog w = .ok false w := fun d => by
    simp [Op.equalIn, run_underlying und_itfn]
  simp only [binOp]
  simp [Op.equal, Op.maxDepth, h 9999]
/-- Down lays its index and its stamp into two blocks; the function value captures both -/
theorem down_call (p : Option Addr) (s : St) (w : World) :
    Calls Try.prog 37 #[.pointer p, s.v] w fun e w' => e = .returned (.func (.func 77) #[] #[.pointer (some ⟨w.heap.size, 0, none⟩), .pointer (some ⟨w.heap.size + 1, 0, none⟩)]) ∧
      w' = (w.alloc (.cells #[.pointer p] 29)).alloc (.cells #[.int .u64 s.t, .int .u64 s.s] 38) := by
  unfold St.v
  go_enter Try.func37, Try.ntmps37
  go_wp2_with fail
  go_ret
  exact ⟨rfl, rfl⟩

def smallR : List (List Ent) := [[⟨⟨1, 0⟩, .int .u64 10⟩, ⟨⟨1, 1⟩, .int .u64 11⟩, ⟨⟨2, 0⟩, .int .u64 20⟩]]
theorem small_r1 : putR 4 [] ⟨2, 0⟩ (.int .u64 20) = [[⟨⟨2, 0⟩, .int .u64 20⟩]] := rfl
theorem small_r2 : putR 4 [[⟨⟨2, 0⟩, .int .u64 20⟩]] ⟨1, 0⟩ (.int .u64 10) = [[⟨⟨1, 0⟩, .int .u64 10⟩, ⟨⟨2, 0⟩, .int .u64 20⟩]] := by kernel_rfl
theorem small_r3 : putR 4 [[⟨⟨1, 0⟩, .int .u64 10⟩, ⟨⟨2, 0⟩, .int .u64 20⟩]] ⟨1, 1⟩ (.int .u64 11) = smallR := by kernel_rfl
theorem small_b3 : (!(decide (0 < ([[⟨⟨1, 0⟩, .int .u64 10⟩, ⟨⟨2, 0⟩, .int .u64 20⟩]] : List (List Ent)).length) && there [[⟨⟨1, 0⟩, .int .u64 10⟩, ⟨⟨2, 0⟩, .int .u64 20⟩]] ⟨1, 1⟩)) = true := by kernel_rfl
theorem small_first : firstOf (evs (behind' smallR ⟨1, 1⟩)) = #[.agg #[.int .u64 1, .int .u64 1], .int .u64 11, .bool true] := by kernel_rfl

theorem fits_u {size i : Nat} {R : List (List Ent)} (h4 : 4 ≤ size) (h64 : size ≤ 64) (hG : Pg.Good size R) (ht : total R ≤ i) (hi : i ≤ 274877906944) : Fits size R :=
  have h1 := rows_le_total hG
  ⟨h4, h64, by omega, by omega, fun i hi => (hG.full _ (pageAt_mem hi)).2⟩

set_option maxHeartbeats 1000000 in
set_option maxRecDepth 100000 in
theorem small_any (w : World) : Calls Try.prog 19 #[] w fun e w' => e = .returned (.bool true) ∧ Below w.heap.size w w' := by
  have hE := eql_fn
  have hG0 : Pg.Good 4 [] := ⟨by simp, by simp [keys, Rising]⟩
  go_enter Try.func19, Try.ntmps19
  go_wp2_with fail
  refine (new_any 4 (by omega) (by omega) _).mono ?_
  rintro e w1 ⟨bx, vr, rfl, hbx, hM1, hB1⟩
  go_wp2_with fail
  refine (num_any _ _).mono ?_
  rintro e w' ⟨rfl, rfl⟩
  go_wp2_with fail
  have hu := up_call (some ⟨bx, 0, none⟩) ⟨0, 0⟩ w1
  unfold St.v at hu
  refine hu.mono ?_
  rintro e w2 ⟨rfl, hw2⟩
  have hB2 : Below w1.heap.size w1 w2 := by rw [hw2]; exact (below_box w1 _).alloc (by simp) _
  clear hw2 hu
  go_wp2_with fail
  have hu := down_call (some ⟨bx, 0, none⟩) ⟨0, 0⟩ w2
  unfold St.v at hu
  refine hu.mono ?_
  rintro e w3 ⟨rfl, hw3⟩
  have hB3 : Below w2.heap.size w2 w3 := by rw [hw3]; exact (below_box w2 _).alloc (by simp) _
  clear hw3 hu
  go_wp2_with fail
  have hM3 := (hM1.below hB2).below hB3
  have hu := put_any ⟨2, 0⟩ (.int .u64 20) rfl bx 4 [] (fits_u (by omega) (by omega) hG0 (Nat.le_refl _) (by simp [total])) hG0.ordered _ _ _ w3 hM3
  rw [small_r1] at hu
  unfold St.v at hu
  refine hu.mono ?_
  rintro e w4 ⟨rfl, vr4, pvs4, hM4, hX4⟩
  clear hu
  have hG1 := small_r1 ▸ hG0.put (by omega) ⟨2, 0⟩ (.int .u64 20)
  go_wp2_with fail
  have hu := put_any ⟨1, 0⟩ (.int .u64 10) rfl bx 4 _ (fits_u (i := 5) (by omega) (by omega) hG1 (by simp [total]) (by omega)) hG1.ordered _ _ _ w4 hM4
  rw [small_r2] at hu
  unfold St.v at hu
  refine hu.mono ?_
  rintro e w5 ⟨rfl, vr5, pvs5, hM5, hX5⟩
  clear hu
  have hG2 := small_r2 ▸ hG1.put (by omega) ⟨1, 0⟩ (.int .u64 10)
  go_wp2_with fail
  have hu := put_any ⟨1, 1⟩ (.int .u64 11) rfl bx 4 _ (fits_u (i := 5) (by omega) (by omega) hG2 (by simp [total]) (by omega)) hG2.ordered _ _ _ w5 hM5
  rw [small_r3, small_b3] at hu
  unfold St.v at hu
  refine hu.mono ?_
  rintro e w6 ⟨rfl, vr6, pvs6, hM6, hX6⟩
  clear hu
  have hG3 := small_r3 ▸ hG2.put (by omega) ⟨1, 1⟩ (.int .u64 11)
  go_wp2_with fail
  have hu := least_any bx 4 (by omega) smallR (by simp [smallR]) hG3.ordered (fun i hi => by have := (hG3.full _ (pageAt_mem hi)).2; omega) (fun e he => by
    simp [smallR] at he
    rcases he with rfl | rfl | rfl <;> exact ⟨_, rfl⟩) ⟨1, 1⟩ _ _ _ w6 hM6
  rw [small_first] at hu
  unfold St.v at hu
  refine hu.mono ?_
  rintro e w7 ⟨rfl, hB7⟩
  clear hu
  go_wp2_with fail
  refine (len_any bx 4 (by omega) smallR _ _ _ _ ((hM6.below hB7).below (below_box w7 (.cells #[.int .u64 1, .int .u64 1] 38)))).mono ?_
  rintro e w8 ⟨rfl, rfl⟩
  go_wp2_with fail
  go_ret
  have hX : Ext (· = bx) w3 w6 := (hX4.trans hX5 (fun k hk h => h.resolve_right (by omega))).trans hX6 (fun k hk h => (h.resolve_right (by have := hX4.size; omega)).resolve_right (by omega))
  have z1 := hB1.size
  have z2 := hB2.size
  have z3 := hB3.size
  have z6 := hX.size
  have z7 := hB7.size
  have hBl := hX.to_belowAt (B := w.heap.size) (by omega) (fun k hk (h : k = bx) => by omega)
  exact ⟨by simp [total, smallR], ((((hB1.trans (hB2.mono z1)).trans (hB3.mono (by omega))).trans hBl).trans (hB7.mono (by omega))).trans ((below_box w7 _).mono (by omega))⟩
end Go.Proofs.Ytagcohpghgnalaa.U
