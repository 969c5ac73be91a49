/-
  The walk of Remove: what is asked of a neighbour (V: string).
-/
import Derived.Test.YtagcohpghgnalaaCW4S
import Derived.Test.YtagcohpghgnalaaCGES
import Derived.Test.YtagcohpghgnalaaCGRS
set_option linter.unusedSimpArgs false
set_option linter.unusedVariables false
namespace Go.Proofs.Ytagcohpghgnalaa.S
open Go.RowKit Go.RG Go.Hp Go.Pg Go.Proofs.Ytagcohpghgnalaa



/-- may the neighbour take it in? -/
def fewB (R : List (List Ent)) (size n : Nat) (k : Int) : Bool := decide (0 ≤ k) && (decide (k < R.length) && decide ((pageAt R k.toNat).length + n ≤ size / 2))

set_option maxRecDepth 100000 in
theorem few_any (k : Int) (hk : -1 ≤ k ∧ k ≤ 1099511627776) (bb bl bx size g cap n cl : Nat) (al : Option Addr) (R : List (List Ent)) (hs : size ≤ 64) (hn : n ≤ 64) (hRl : R.length ≤ 274877906944) (hpl : ∀ i, i < R.length → (pageAt R i).length ≤ 64) (pvs : List Value) (w : World)
    (hbb : w.cell? ⟨bb, 0, none⟩ = some (.pointer (some ⟨bx, 0, none⟩))) (hbl : w.cell? ⟨bl, 0, none⟩ = some (.slice al n cl)) (m0 : w.cell? ⟨bx, 0, none⟩ = some (.int .i64 size)) (m2 : w.cell? ⟨bx, 2, none⟩ = some (.slice (some ⟨g, 0, none⟩) R.length cap))
    (hrow : ∀ i, i < R.length → ∃ a c, w.cell? ⟨g, i, none⟩ = some (.slice a (pageAt R i).length c)) :
    Calls Try.prog 63 #[.int .i64 k, .pointer (some ⟨bb, 0, none⟩), .pointer (some ⟨bl, 0, none⟩)] w fun e w' => e = .returned (.bool (fewB R size n k)) ∧ Below w.heap.size w w' := by
  by_cases h0 : 0 ≤ k
  · obtain ⟨j, rfl⟩ : ∃ j : Nat, k = j := ⟨k.toNat, by omega⟩
    by_cases h1 : j < R.length
    · obtain ⟨a, c, hc⟩ := hrow j h1
      have hpj := hpl j h1
      have hq : (j : Int) < (R.length : Int) := by omega
      clear hrow hpl
      have hc' : ∀ w1, Below w.heap.size w w1 → w1.cell? ⟨g, j, none⟩ = some (.slice a (pageAt R j).length c) := fun w1 h => below_cell h hc
      clear hc
      go_enter Try.func63, Try.ntmps63
      go_wp2_with fail
      refine wp_region_rg (fun _ => none) fol (by kernel_rfl) (fun W hW hh => ?_)
      clear hh
      have c0 : ∀ w1, Below W.heap.size W w1 → w1.cell? ⟨bb, 0, none⟩ = some (.pointer (some ⟨bx, 0, none⟩)) := fun w1 h => below_cell (below_trans hW h) hbb
      have c1 : ∀ w1, Below W.heap.size W w1 → w1.cell? ⟨bl, 0, none⟩ = some (.slice al n cl) := fun w1 h => below_cell (below_trans hW h) hbl
      have c2 : ∀ w1, Below W.heap.size W w1 → w1.cell? ⟨bx, 0, none⟩ = some (.int .i64 size) := fun w1 h => below_cell (below_trans hW h) m0
      have c3 : ∀ w1, Below W.heap.size W w1 → w1.cell? ⟨bx, 2, none⟩ = some (.slice (some ⟨g, 0, none⟩) R.length cap) := fun w1 h => below_cell (below_trans hW h) m2
      clear hbb hbl m0 m2
      have c4 : ∀ w1, Below W.heap.size W w1 → w1.cell? ⟨g, j, none⟩ = some (.slice a (pageAt R j).length c) := fun w1 h => hc' _ (below_trans hW h)
      clear hc'
      repeat (first
        | (refine lex_move _ (by first | exact Or.inl rfl | exact Or.inr rfl) rfl rfl ?_
           simp only [Act.put, Act.eval, Array.getD_eq_getD_getElem?, List.getElem?_toArray, List.getElem?_cons_zero, List.getElem?_cons_succ, Option.getD_some, List.setIfInBounds_toArray, List.set_cons_succ, List.set_cons_zero]
          )
        | (refine lex_float ?_ rfl rfl (fun w1 hb1 hf1 => ?_) ?_
           rotate_left
           (go_simp; (try simp (disch := omega) only [IntWalk.i64_quo, IntWalk.rem_in, IntWalk.i64_in, IntWalk.u64_in, IntWalk.u32_in, IntWalk.u8_in, IntWalk.toNatUp, IntWalk.iteOmega]); (try go_simp); rfl)
           simp only [Act.put, Act.eval, Array.getD_eq_getD_getElem?, List.getElem?_toArray, List.getElem?_cons_zero, List.getElem?_cons_succ, Option.getD_some, List.setIfInBounds_toArray, List.set_cons_succ, List.set_cons_zero]
          )
        | (refine lex_skip rfl ?_
           simp only [Act.put, Act.eval, Array.getD_eq_getD_getElem?, List.getElem?_toArray, List.getElem?_cons_zero, List.getElem?_cons_succ, Option.getD_some, List.setIfInBounds_toArray, List.set_cons_succ, List.set_cons_zero]
          ))
      refine lex_nil ?_
      go_wp2_with fail
      go_ret
      refine ⟨?_, hW⟩
      have e1 : decide ((0 : Int) ≤ (j : Int)) = true := decide_eq_true h0
      have e2 : decide ((j : Int) < (R.length : Int)) = true := decide_eq_true hq
      show Ending.returned (.bool _) = _
      congr 2
      unfold fewB
      rw [e1, e2, Int.toNat_natCast, Bool.true_and, Bool.true_and]
      have e3 : decide (((pageAt R j).length : Int) + (n : Int) ≤ (size : Int) / 2) = decide ((pageAt R j).length + n ≤ size / 2) := by rw [decide_eq_decide]; omega
      exact e3
    · have hq : ¬ (j : Int) < (R.length : Int) := by omega
      clear hrow hpl
      go_enter Try.func63, Try.ntmps63
      go_wp2_with fail
      refine wp_region_rg (fun _ => none) fol (by kernel_rfl) (fun W hW hh => ?_)
      clear hh
      have c0 : ∀ w1, Below W.heap.size W w1 → w1.cell? ⟨bb, 0, none⟩ = some (.pointer (some ⟨bx, 0, none⟩)) := fun w1 h => below_cell (below_trans hW h) hbb
      have c1 : ∀ w1, Below W.heap.size W w1 → w1.cell? ⟨bl, 0, none⟩ = some (.slice al n cl) := fun w1 h => below_cell (below_trans hW h) hbl
      have c2 : ∀ w1, Below W.heap.size W w1 → w1.cell? ⟨bx, 0, none⟩ = some (.int .i64 size) := fun w1 h => below_cell (below_trans hW h) m0
      have c3 : ∀ w1, Below W.heap.size W w1 → w1.cell? ⟨bx, 2, none⟩ = some (.slice (some ⟨g, 0, none⟩) R.length cap) := fun w1 h => below_cell (below_trans hW h) m2
      clear hbb hbl m0 m2
      repeat (first
        | (refine lex_move _ (by first | exact Or.inl rfl | exact Or.inr rfl) rfl rfl ?_
           simp only [Act.put, Act.eval, Array.getD_eq_getD_getElem?, List.getElem?_toArray, List.getElem?_cons_zero, List.getElem?_cons_succ, Option.getD_some, List.setIfInBounds_toArray, List.set_cons_succ, List.set_cons_zero]
          )
        | (refine lex_float ?_ rfl rfl (fun w1 hb1 hf1 => ?_) ?_
           rotate_left
           (go_simp; (try simp (disch := omega) only [IntWalk.i64_quo, IntWalk.rem_in, IntWalk.i64_in, IntWalk.u64_in, IntWalk.u32_in, IntWalk.u8_in, IntWalk.toNatUp, IntWalk.iteOmega]); (try go_simp); rfl)
           simp only [Act.put, Act.eval, Array.getD_eq_getD_getElem?, List.getElem?_toArray, List.getElem?_cons_zero, List.getElem?_cons_succ, Option.getD_some, List.setIfInBounds_toArray, List.set_cons_succ, List.set_cons_zero]
          )
        | (refine lex_skip rfl ?_
           simp only [Act.put, Act.eval, Array.getD_eq_getD_getElem?, List.getElem?_toArray, List.getElem?_cons_zero, List.getElem?_cons_succ, Option.getD_some, List.setIfInBounds_toArray, List.set_cons_succ, List.set_cons_zero]
          ))
      refine lex_nil ?_
      go_wp2_with fail
      go_ret
      refine ⟨?_, hW⟩
      have e2 : decide ((j : Int) < (R.length : Int)) = false := decide_eq_false (by omega)
      show Ending.returned (.bool _) = _
      unfold fewB
      rw [e2, Bool.false_and, Bool.and_false]
  · clear hrow hpl
    go_enter Try.func63, Try.ntmps63
    go_wp2_with fail
    refine wp_region_rg (fun _ => none) fol (by kernel_rfl) (fun W hW hh => ?_)
    clear hh
    have c0 : ∀ w1, Below W.heap.size W w1 → w1.cell? ⟨bb, 0, none⟩ = some (.pointer (some ⟨bx, 0, none⟩)) := fun w1 h => below_cell (below_trans hW h) hbb
    have c1 : ∀ w1, Below W.heap.size W w1 → w1.cell? ⟨bl, 0, none⟩ = some (.slice al n cl) := fun w1 h => below_cell (below_trans hW h) hbl
    have c2 : ∀ w1, Below W.heap.size W w1 → w1.cell? ⟨bx, 0, none⟩ = some (.int .i64 size) := fun w1 h => below_cell (below_trans hW h) m0
    have c3 : ∀ w1, Below W.heap.size W w1 → w1.cell? ⟨bx, 2, none⟩ = some (.slice (some ⟨g, 0, none⟩) R.length cap) := fun w1 h => below_cell (below_trans hW h) m2
    clear hbb hbl m0 m2
    have hz : decide (0 ≤ k) = false := decide_eq_false (by omega)
    have hz' : ¬ (0 ≤ k) := by omega
    repeat (first
      | (refine lex_move _ (by first | exact Or.inl rfl | exact Or.inr rfl) rfl rfl ?_
         simp only [Act.put, Act.eval, Array.getD_eq_getD_getElem?, List.getElem?_toArray, List.getElem?_cons_zero, List.getElem?_cons_succ, Option.getD_some, List.setIfInBounds_toArray, List.set_cons_succ, List.set_cons_zero]
        )
      | (refine lex_float ?_ rfl rfl (fun w1 hb1 hf1 => ?_) ?_
         rotate_left
         (go_simp; (try simp (disch := omega) only [IntWalk.i64_quo, IntWalk.rem_in, IntWalk.i64_in, IntWalk.u64_in, IntWalk.u32_in, IntWalk.u8_in, IntWalk.toNatUp, IntWalk.iteOmega]); (try go_simp); rfl)
         simp only [Act.put, Act.eval, Array.getD_eq_getD_getElem?, List.getElem?_toArray, List.getElem?_cons_zero, List.getElem?_cons_succ, Option.getD_some, List.setIfInBounds_toArray, List.set_cons_succ, List.set_cons_zero]
        )
      | (refine lex_skip rfl ?_
         simp only [Act.put, Act.eval, Array.getD_eq_getD_getElem?, List.getElem?_toArray, List.getElem?_cons_zero, List.getElem?_cons_succ, Option.getD_some, List.setIfInBounds_toArray, List.set_cons_succ, List.set_cons_zero]
        ))
    refine lex_nil ?_
    go_wp2_with fail
    go_ret
    refine ⟨?_, hW⟩
    show Ending.returned (.bool _) = _
    unfold fewB
    rw [decide_eq_false (show ¬ 0 ≤ k by omega), Bool.false_and]
end Go.Proofs.Ytagcohpghgnalaa.S
