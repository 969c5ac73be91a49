/-
  The walk of Pages (V: uint64).
-/
import Derived.Test.YtagcohpghgnalaaCW3U
import Derived.Test.YtagcohpghgnalaaCGEU
set_option linter.unusedSimpArgs false
set_option linter.unusedVariables false
namespace Go.Proofs.Ytagcohpghgnalaa.U
open Go.RowKit Go.RG Go.Hp Go.Pg Go.Proofs.Ytagcohpghgnalaa


theorem und_ints : Try.prog.underlying 52 = some (.slice 3) := by kernel_rfl
theorem info_int : (Try.prog.info? 3).map (fun i => (i.zero, i.size, i.bytes)) = some (some (.int .i64 0), 1, 8) := by kernel_rfl

set_option maxRecDepth 100000 in
theorem pages_any (bx size : Nat) (h0 : 0 < size) (R : List (List Ent)) (hR : R.length ≤ 274877906944) (S : Nat → Prop) (vr : Value) (pvs : List Value) (w : World) (hM : MemV w bx size R S vr pvs) :
    Calls Try.prog 32 #[.pointer (some ⟨bx, 0, none⟩)] w fun e w' => ∃ v, e = .returned v ∧ w'.ownsRow w.heap.size 3 1 v R.length (R.map fun p => .int .i64 p.length) ∧ Below w.heap.size w w' := by
  have hsz' : ((size : Int) == 0) = false := by rw [beq_eq_false_iff_ne]; omega
  obtain ⟨m0, m1, m2⟩ := hM.cells
  obtain ⟨a, cap, rfl, hcap, hcm⟩ := owns_shape hM.rows
  have HM := Lib.hid hM; clear hM
  go_enter Try.func32, Try.ntmps32
  go_wp2_with fail
  refine (bare_any bx size _ m0).mono ?_
  rintro e w' ⟨rfl, rfl⟩
  go_wp2_with fail
  obtain ⟨i0, hi, hz0, hz1, hz2⟩ := info_parts info_int
  go_loopw [3, 13] (fun vl vi wr => ∃ i a' c', vi = .int .i64 (i : Nat) ∧ vl = .slice a' i c' ∧ i ≤ R.length ∧ wr.ownsRow w.heap.size 3 1 vl i ((R.take i).map fun p => .int .i64 p.length) ∧ Below w.heap.size w wr)
    (fun _ vi _ => R.length - (intOf vi).toNat)
  case atStart => exact ⟨0, none, 0, rfl, rfl, by omega, World.ownsRow_nil _ _ 3 1, Below.refl _ _⟩
  case round =>
    obtain ⟨i, a', c', rfl, rfl, hin, hown, hB⟩ := hrel
    have Hown := Lib.hid hown; clear hown
    by_cases hlt : i < R.length
    · obtain ⟨g, cap2, hv, hg, hc2, hcm2, hrow, hfr⟩ := HM.out.row (by omega)
      injection hv with hv1 hv2 hv3
      subst hv1
      obtain ⟨ap, cp, hsp, -⟩ := owns_shape (HM.out.pages i hlt).row
      have r0 := below_cell hB (hrow i hlt)
      rw [hsp] at r0
      clear hrow hfr
      have hii : (i : Int) < (R.length : Int) := by omega
      have hsrc : ∀ (W : World) (j : Nat) (u : Value), ([.int .i64 ((pageAt R i).length : Int)] : List Value)[j]? = some u → (W.alloc (.cells #[.int .i64 ((pageAt R i).length : Int)] 3)).cell? ((⟨W.heap.size, 0, none⟩ : Addr).add j) = some u := fun W j u h => by
        have hr : Row (W.alloc (.cells #[.int .i64 ((pageAt R i).length : Int)] 3)) W.heap.size 3 [.int .i64 ((pageAt R i).length : Int)] := row_new W [.int .i64 ((pageAt R i).length : Int)] 3
        rw [Addr.add_lit, Nat.zero_add, hr.cell]
        exact h
      have Hsrc := Lib.hid hsrc; clear hsrc
      have Hown1 := Lib.hid (owns_below Hown.out (below_box wr (.cells #[.int .i64 ((pageAt R i).length : Int)] 3)))
      have q1 : i + 1 ≤ maxLen := by unfold maxLen; omega
      have q2 : (i + 1) * 8 ≤ 140737488355328 := by omega
      have q3 : w.heap.size ≤ (wr.alloc (.cells #[.int .i64 ((pageAt R i).length : Int)] 3)).heap.size := by have := hB.size; simp; omega
      have q4 : ∀ u ∈ ([.int .i64 ((pageAt R i).length : Int)] : List Value), u.oneCell' = true := fun u hu => by obtain rfl := List.mem_singleton.1 hu; rfl
      have Q4 := Lib.hid q4; clear q4
      go_wp2_with (at_builtin; go_loud (refine wpList_append_own _ rfl _ _ 52 rfl w.heap.size 3 i0 (.int .i64 0) 1 8 und_ints hi hz0 hz1 hz2 rfl (by decide) _ _ _ rfl Hown1.out ⟨wr.heap.size, 0, none⟩ 1 1 [.int .i64 ((pageAt R i).length : Int)] rfl rfl (Hsrc.out wr) Q4.out q1 q2 q3 ?_; intro v' w1 hown' hgrow hnil; clear hnil; obtain ⟨a2, cap3, rfl, hx1, hx2⟩ := owns_shape hown'; have Hown' := Lib.hid hown'; clear hown'; have Hgrow := Lib.hid hgrow; clear hgrow))
      have et : List.take (i + 1) (R.map fun p => Value.int .i64 (p.length : Int)) = (R.take i).map (fun p => Value.int .i64 (p.length : Int)) ++ [.int .i64 ((pageAt R i).length : Int)] := by
        rw [← List.map_take, List.take_add_one, List.map_append]
        congr 1
        simp [pageAt, hlt]
      have hb1 : Below w.heap.size w (wr.alloc (.cells #[.int .i64 ((pageAt R i).length : Int)] 3)) := hB.trans ((below_box wr _).mono hB.size)
      refine ⟨⟨_, _, _, ⟨i + 1, rfl, ⟨a2, cap3, rfl⟩, by omega, ?_, ?_⟩, rfl, rfl, rfl⟩, ?_⟩
      · rw [et]; exact Hown'.out
      · exact hb1.grown Hgrow.out q3 fun k hk => (Hown1.out.lt k hk).1
      · show R.length - (((i : Int) + 1).toNat) < R.length - ((i : Int).toNat)
        omega
    · obtain rfl : i = R.length := by omega
      go_wp2_with fail
      go_ret
      exact ⟨_, rfl, by simpa using Hown.out, hB⟩
theorem pages_nil (w : World) : Calls Try.prog 32 #[.pointer none] w fun e w' => e = .returned (.slice none 0 0) ∧ w = w' := by
  go_enter Try.func32, Try.ntmps32
  go_wp2_with fail
  refine (bare_nil _).mono ?_
  rintro e w' ⟨rfl, rfl⟩
  go_wp2_with fail
  go_ret
  exact ⟨rfl, rfl⟩
end Go.Proofs.Ytagcohpghgnalaa.U
