/-
  PagesNil: an index that is nil, and one that New did not make: the walk.
-/
import Derived.Test.YtagcohpghgnalaaCQF
set_option linter.unusedSimpArgs false
set_option linter.unusedVariables false
namespace Go.Proofs.Ytagcohpghgnalaa.QA
open Go.RowKit Go.RG Go.Hp Go.Pg Go.Proofs.Ytagcohpghgnalaa Go.Proofs.Ytagcohpghgnalaa.RF Go.Proofs.Ytagcohpghgnalaa.U Go.Proofs.Ytagcohpghgnalaa.LB Go.Proofs.Ytagcohpghgnalaa.BK


/-- a row of numbers comes, nothing else turns -/
def QPost (l : List Int) (w : World) (e : Ending) (w' : World) : Prop := ∃ v, e = .returned v ∧ (∃ a n c, v = .slice a n c) ∧ NumsAt w.heap.size w' v l ∧ Below w.heap.size w w'
theorem qpost_of {l : List Int} {w : World} {e : Ending} {w' : World} (h : ∃ v w0 w1, e = .returned v ∧ Below w.heap.size w w0 ∧ Below w0.heap.size w0 w1 ∧ Below w1.heap.size w1 w' ∧ NumsAt w1.heap.size w' v l) : QPost l w e w' := by
  obtain ⟨v, w0, w1, rfl, h0, h1, h2, hn⟩ := h
  have s0 := h0.size
  have s1 := h1.size
  obtain ⟨a, c, hv, -⟩ := owns_shape hn
  exact ⟨v, rfl, ⟨a, _, c, hv⟩, hn.base (by omega), (h0.trans (h1.mono s0)).trans (h2.mono (by omega))⟩
theorem ask_q (p : Option Addr) (o : Opd) (ho : OpOk o) (w : World) (hb : BareP p w) : Calls Try.prog 46 #[.pointer p, agg o] w (QPost (ansB o) w) := (ask_bare p o ho w hb).mono fun e w' h => qpost_of h
theorem doc_q (o : Opd) (ho : OpOk o) (w : World) : Calls Try.prog 47 #[.pointer none, agg o] w (QPost (ansB o) w) := (doc_bare o ho w).mono fun e w' h => qpost_of h
theorem ansB_len (o : Opd) : (ansB o).length ≤ 274877906944 := ans_len (size := 0) (d := none) (i := 0) trivial (by omega) o

set_option maxHeartbeats 1000000 in
set_option maxRecDepth 100000 in
theorem nil_law (a : Option Addr) (n cap : Nat) (hn : n ≤ 1048576) (ops : Nat → Opd) (hok : ∀ i, i < n → OpOk (ops i)) (w : World) (ho : OpsAt w a n ops) :
    Calls Try.prog 15 #[.slice a n cap] w fun e w' => e = .returned (.bool true) ∧ Below w.heap.size w w' := by
  have Ho := Lib.hid ho; clear ho
  go_enter Try.func15, Try.ntmps15
  go_wp2_with fail
  have hB0 := below_box w (.cells #[.int .i64 0, .int .i64 0, .slice none 0 0] 82)
  have y0 : (w.alloc (.cells #[.int .i64 0, .int .i64 0, .slice none 0 0] 82)).cell? ⟨w.heap.size, 0, none⟩ = some (.int .i64 0) := by simp
  generalize w.alloc (.cells #[.int .i64 0, .int .i64 0, .slice none 0 0] 82) = w0 at hB0 y0 ⊢
  refine (U.small_any _).mono ?_
  rintro e w1 ⟨rfl, hB1⟩
  have y1 := below_cell hB1 y0
  have hB2 := hB0.trans (hB1.mono hB0.size)
  clear y0
  go_wp2_with fail
  go_loopw [6] (fun vi wr => ∃ i : Nat, vi = .int .i64 i ∧ i ≤ n ∧ BareP (some ⟨w.heap.size, 0, none⟩) wr ∧ Below w.heap.size w wr) (fun vi _ => n - (intOf vi).toNat)
  case atStart => exact ⟨0, rfl, by omega, bareP_zero y1, hB2⟩
  case round =>
    obtain ⟨i, rfl, hin, hZ, hB⟩ := hrel
    clear y1
    by_cases hlt : i < n
    · obtain ⟨pb, po, rfl, p0, p1, p2, p3⟩ := Ho.out i hlt
      have o0 := below_cell hB p0
      have o1 := below_cell hB p1
      have o2 := below_cell hB p2
      have o3 := below_cell hB p3
      have hii : (i : Int) < (n : Int) := by omega
      have HA := ask_q none (ops i) (hok i hlt) wr (bareP_nil wr)
      unfold agg at HA
      have HA' := Lib.hid HA; clear HA p0 p1 p2 p3
      go_wp2_with fail
      refine HA'.out.mono ?_
      rintro e w2 ⟨va, rfl, ⟨a1, n1, c1, rfl⟩, hna, hBa⟩
      have HA := ask_q (some ⟨w.heap.size, 0, none⟩) (ops i) (hok i hlt) w2 (hZ.below hBa)
      unfold agg at HA
      have HA' := Lib.hid (And.intro HA (And.intro hna hZ)); clear HA hna hZ
      have o0 := below_cell hBa o0
      have o1 := below_cell hBa o1
      have o2 := below_cell hBa o2
      have o3 := below_cell hBa o3
      go_wp2_with fail
      refine HA'.out.1.mono ?_
      rintro e w3 ⟨vb, rfl, ⟨a2, n2, c2, rfl⟩, hnb, hBb⟩
      have HA := doc_q (ops i) (hok i hlt) w3
      unfold agg at HA
      have HB' := Lib.hid (And.intro HA hnb); clear HA hnb
      have o0 := below_cell hBb o0
      have o1 := below_cell hBb o1
      have o2 := below_cell hBb o2
      have o3 := below_cell hBb o3
      go_wp2_with fail
      refine HB'.out.1.mono ?_
      rintro e w4 ⟨vc, rfl, ⟨a3, n3, c3, rfl⟩, hnc, hBc⟩
      have HS := Lib.hid (same_any _ _ _ _ _ (ansB_len (ops i)) w4 ((HA'.out.2.1.below hBb).below hBc) hnc)
      have HN := Lib.hid hnc; clear hnc
      go_wp2_with fail
      refine HS.out.mono ?_
      rintro e w5 ⟨rfl, hBd⟩
      have HS' := Lib.hid (same_any _ _ _ _ _ (ansB_len (ops i)) w5 ((HB'.out.2.below hBc).below hBd) (HN.out.below hBd))
      go_wp2_with fail
      refine HS'.out.mono ?_
      rintro e w6 ⟨rfl, hBe⟩
      go_wp2_with fail
      have hBz := below_trans (below_trans (below_trans (below_trans hBa hBb) hBc) hBd) hBe
      refine ⟨⟨i + 1, by simp, by omega, HA'.out.2.2.below hBz, hB.trans (hBz.mono hB.size)⟩, ?_⟩
      show n - (((i : Int) + 1).toNat) < n - ((i : Int).toNat)
      omega
    · obtain rfl : i = n := by omega
      go_wp2_with fail
      go_ret
      exact ⟨rfl, hB⟩
end Go.Proofs.Ytagcohpghgnalaa.QA
