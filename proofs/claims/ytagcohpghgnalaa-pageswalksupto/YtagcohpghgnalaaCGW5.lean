/-
  The walk of Remove: what is asked of a neighbour (V: uint64).
-/
import Derived.Test.YtagcohpghgnalaaCW4U
import Derived.Test.YtagcohpghgnalaaCGEU
import Derived.Test.YtagcohpghgnalaaCGRU
import Derived.Test.YtagcohpghgnalaaCGB
set_option linter.unusedSimpArgs false
set_option linter.unusedVariables false
namespace Go.Proofs.Ytagcohpghgnalaa.U
open Go.RowKit Go.RG Go.Hp Go.Pg Go.Proofs.Ytagcohpghgnalaa



/-- may the neighbour take it in? -/
def fewB (R : List (List Ent)) (size n : Nat) (k : Int) : Bool := decide (0 ≤ k) && (decide (k < R.length) && decide ((pageAt R k.toNat).length + n ≤ size / 2))

set_option maxRecDepth 100000 in
theorem few_any (k : Int) (hk : -1 ≤ k ∧ k ≤ 1099511627776) (bb bl bx size g cap n cl : Nat) (al : Option Addr) (R : List (List Ent)) (hs : size ≤ 64) (hn : n ≤ 64) (hRl : R.length ≤ 274877906944) (hpl : ∀ i, i < R.length → (pageAt R i).length ≤ 64) (pvs : List Value) (w : World)
    (hbb : w.cell? ⟨bb, 0, none⟩ = some (.pointer (some ⟨bx, 0, none⟩))) (hbl : w.cell? ⟨bl, 0, none⟩ = some (.slice al n cl)) (m0 : w.cell? ⟨bx, 0, none⟩ = some (.int .i64 size)) (m2 : w.cell? ⟨bx, 2, none⟩ = some (.slice (some ⟨g, 0, none⟩) R.length cap))
    (hrow : ∀ i, i < R.length → ∃ a c, w.cell? ⟨g, i, none⟩ = some (.slice a (pageAt R i).length c)) :
    Calls Try.prog 59 #[.int .i64 k, .pointer (some ⟨bb, 0, none⟩), .pointer (some ⟨bl, 0, none⟩)] w fun e w' => e = .returned (.bool (fewB R size n k)) ∧ Below w.heap.size w w' := by
  by_cases h0 : 0 ≤ k
  · obtain ⟨j, rfl⟩ : ∃ j : Nat, k = j := ⟨k.toNat, by omega⟩
    by_cases h1 : j < R.length
    · obtain ⟨a, c, hc⟩ := hrow j h1
      have hpj := hpl j h1
      have hq : (j : Int) < (R.length : Int) := by omega
      clear hrow hpl
      have hc' : ∀ w1, Below w.heap.size w w1 → w1.cell? ⟨g, j, none⟩ = some (.slice a (pageAt R j).length c) := fun w1 h => below_cell h hc
      clear hc
      go_enter Try.func59, Try.ntmps59
      go_wp2_with fail
      refine wp_region_rg (fun _ => none) fol (by kernel_rfl) (fun W hW hh => ?_)
      clear hh
      have c0 : ∀ w1, Below W.heap.size W w1 → w1.cell? ⟨bb, 0, none⟩ = some (.pointer (some ⟨bx, 0, none⟩)) := fun w1 h => below_cell (below_trans hW h) hbb
      have c1 : ∀ w1, Below W.heap.size W w1 → w1.cell? ⟨bl, 0, none⟩ = some (.slice al n cl) := fun w1 h => below_cell (below_trans hW h) hbl
      have c2 : ∀ w1, Below W.heap.size W w1 → w1.cell? ⟨bx, 0, none⟩ = some (.int .i64 size) := fun w1 h => below_cell (below_trans hW h) m0
      have c3 : ∀ w1, Below W.heap.size W w1 → w1.cell? ⟨bx, 2, none⟩ = some (.slice (some ⟨g, 0, none⟩) R.length cap) := fun w1 h => below_cell (below_trans hW h) m2
      clear hbb hbl m0 m2
      have c4 : ∀ w1, Below W.heap.size W w1 → w1.cell? ⟨g, j, none⟩ = some (.slice a (pageAt R j).length c) := fun w1 h => hc' _ (below_trans hW h)
      clear hc'
      repeat (first
        | (refine lex_move _ (by first | exact Or.inl rfl | exact Or.inr rfl) rfl rfl ?_
           simp only [Act.put, Act.eval, Array.getD_eq_getD_getElem?, List.getElem?_toArray, List.getElem?_cons_zero, List.getElem?_cons_succ, Option.getD_some, List.setIfInBounds_toArray, List.set_cons_succ, List.set_cons_zero]
          )
        | (refine lex_float ?_ rfl rfl (fun w1 hb1 hf1 => ?_) ?_
           rotate_left
           (go_simp; (try simp (disch := omega) only [IntWalk.i64_quo, IntWalk.rem_in, IntWalk.i64_in, IntWalk.u64_in, IntWalk.u32_in, IntWalk.u8_in, IntWalk.toNatUp, IntWalk.iteOmega]); (try go_simp); rfl)
           simp only [Act.put, Act.eval, Array.getD_eq_getD_getElem?, List.getElem?_toArray, List.getElem?_cons_zero, List.getElem?_cons_succ, Option.getD_some, List.setIfInBounds_toArray, List.set_cons_succ, List.set_cons_zero]
          )
        | (refine lex_skip rfl ?_
           simp only [Act.put, Act.eval, Array.getD_eq_getD_getElem?, List.getElem?_toArray, List.getElem?_cons_zero, List.getElem?_cons_succ, Option.getD_some, List.setIfInBounds_toArray, List.set_cons_succ, List.set_cons_zero]
          ))
      refine lex_nil ?_
      go_wp2_with fail
      go_ret
      refine ⟨?_, hW⟩
      have e1 : decide ((0 : Int) ≤ (j : Int)) = true := decide_eq_true h0
      have e2 : decide ((j : Int) < (R.length : Int)) = true := decide_eq_true hq
      show Ending.returned (.bool _) = _
      congr 2
      unfold fewB
      rw [e1, e2, Int.toNat_natCast, Bool.true_and, Bool.true_and]
      have e3 : decide (((pageAt R j).length : Int) + (n : Int) ≤ (size : Int) / 2) = decide ((pageAt R j).length + n ≤ size / 2) := by rw [decide_eq_decide]; omega
      exact e3
    · have hq : ¬ (j : Int) < (R.length : Int) := by omega
      clear hrow hpl
      go_enter Try.func59, Try.ntmps59
      go_wp2_with fail
      refine wp_region_rg (fun _ => none) fol (by kernel_rfl) (fun W hW hh => ?_)
      clear hh
      have c0 : ∀ w1, Below W.heap.size W w1 → w1.cell? ⟨bb, 0, none⟩ = some (.pointer (some ⟨bx, 0, none⟩)) := fun w1 h => below_cell (below_trans hW h) hbb
      have c1 : ∀ w1, Below W.heap.size W w1 → w1.cell? ⟨bl, 0, none⟩ = some (.slice al n cl) := fun w1 h => below_cell (below_trans hW h) hbl
      have c2 : ∀ w1, Below W.heap.size W w1 → w1.cell? ⟨bx, 0, none⟩ = some (.int .i64 size) := fun w1 h => below_cell (below_trans hW h) m0
      have c3 : ∀ w1, Below W.heap.size W w1 → w1.cell? ⟨bx, 2, none⟩ = some (.slice (some ⟨g, 0, none⟩) R.length cap) := fun w1 h => below_cell (below_trans hW h) m2
      clear hbb hbl m0 m2
      repeat (first
        | (refine lex_move _ (by first | exact Or.inl rfl | exact Or.inr rfl) rfl rfl ?_
           simp only [Act.put, Act.eval, Array.getD_eq_getD_getElem?, List.getElem?_toArray, List.getElem?_cons_zero, List.getElem?_cons_succ, Option.getD_some, List.setIfInBounds_toArray, List.set_cons_succ, List.set_cons_zero]
          )
        | (refine lex_float ?_ rfl rfl (fun w1 hb1 hf1 => ?_) ?_
           rotate_left
           (go_simp; (try simp (disch := omega) only [IntWalk.i64_quo, IntWalk.rem_in, IntWalk.i64_in, IntWalk.u64_in, IntWalk.u32_in, IntWalk.u8_in, IntWalk.toNatUp, IntWalk.iteOmega]); (try go_simp); rfl)
           simp only [Act.put, Act.eval, Array.getD_eq_getD_getElem?, List.getElem?_toArray, List.getElem?_cons_zero, List.getElem?_cons_succ, Option.getD_some, List.setIfInBounds_toArray, List.set_cons_succ, List.set_cons_zero]
          )
        | (refine lex_skip rfl ?_
           simp only [Act.put, Act.eval, Array.getD_eq_getD_getElem?, List.getElem?_toArray, List.getElem?_cons_zero, List.getElem?_cons_succ, Option.getD_some, List.setIfInBounds_toArray, List.set_cons_succ, List.set_cons_zero]
          ))
      refine lex_nil ?_
      go_wp2_with fail
      go_ret
      refine ⟨?_, hW⟩
      have e2 : decide ((j : Int) < (R.length : Int)) = false := decide_eq_false (by omega)
      show Ending.returned (.bool _) = _
      unfold fewB
      rw [e2, Bool.false_and, Bool.and_false]
  · clear hrow hpl
    go_enter Try.func59, Try.ntmps59
    go_wp2_with fail
    refine wp_region_rg (fun _ => none) fol (by kernel_rfl) (fun W hW hh => ?_)
    clear hh
    have c0 : ∀ w1, Below W.heap.size W w1 → w1.cell? ⟨bb, 0, none⟩ = some (.pointer (some ⟨bx, 0, none⟩)) := fun w1 h => below_cell (below_trans hW h) hbb
    have c1 : ∀ w1, Below W.heap.size W w1 → w1.cell? ⟨bl, 0, none⟩ = some (.slice al n cl) := fun w1 h => below_cell (below_trans hW h) hbl
    have c2 : ∀ w1, Below W.heap.size W w1 → w1.cell? ⟨bx, 0, none⟩ = some (.int .i64 size) := fun w1 h => below_cell (below_trans hW h) m0
    have c3 : ∀ w1, Below W.heap.size W w1 → w1.cell? ⟨bx, 2, none⟩ = some (.slice (some ⟨g, 0, none⟩) R.length cap) := fun w1 h => below_cell (below_trans hW h) m2
    clear hbb hbl m0 m2
    have hz : decide (0 ≤ k) = false := decide_eq_false (by omega)
    have hz' : ¬ (0 ≤ k) := by omega
    repeat (first
      | (refine lex_move _ (by first | exact Or.inl rfl | exact Or.inr rfl) rfl rfl ?_
         simp only [Act.put, Act.eval, Array.getD_eq_getD_getElem?, List.getElem?_toArray, List.getElem?_cons_zero, List.getElem?_cons_succ, Option.getD_some, List.setIfInBounds_toArray, List.set_cons_succ, List.set_cons_zero]
        )
      | (refine lex_float ?_ rfl rfl (fun w1 hb1 hf1 => ?_) ?_
         rotate_left
         (go_simp; (try simp (disch := omega) only [IntWalk.i64_quo, IntWalk.rem_in, IntWalk.i64_in, IntWalk.u64_in, IntWalk.u32_in, IntWalk.u8_in, IntWalk.toNatUp, IntWalk.iteOmega]); (try go_simp); rfl)
         simp only [Act.put, Act.eval, Array.getD_eq_getD_getElem?, List.getElem?_toArray, List.getElem?_cons_zero, List.getElem?_cons_succ, Option.getD_some, List.setIfInBounds_toArray, List.set_cons_succ, List.set_cons_zero]
        )
      | (refine lex_skip rfl ?_
         simp only [Act.put, Act.eval, Array.getD_eq_getD_getElem?, List.getElem?_toArray, List.getElem?_cons_zero, List.getElem?_cons_succ, Option.getD_some, List.setIfInBounds_toArray, List.set_cons_succ, List.set_cons_zero]
        ))
    refine lex_nil ?_
    go_wp2_with fail
    go_ret
    refine ⟨?_, hW⟩
    show Ending.returned (.bool _) = _
    unfold fewB
    rw [decide_eq_false (show ¬ 0 ≤ k by omega), Bool.false_and]
end Go.Proofs.Ytagcohpghgnalaa.U
namespace Go.Proofs.Ytagcohpghgnalaa.U
open Go.RowKit Go.RG Go.Hp Go.Pg Go.Proofs.Ytagcohpghgnalaa





set_option maxRecDepth 100000 in
theorem remove_nil (s : St) (bx size : Nat) (S : Nat → Prop) (vr : Value) (pvs : List Value) (w : World) (hM : MemV w bx size [] S vr pvs) :
    Calls Try.prog 26 #[.pointer (some ⟨bx, 0, none⟩), s.v] w fun e w' => e = .returned (.tuple #[.int .u64 0, .bool false]) ∧ Below w.heap.size w w' := by
  have hPl := Lib.hid (place_none s bx size S vr pvs)
  have HM := Lib.hid hM; clear hM
  unfold St.v at hPl ⊢
  have hB0 := below_trans (below_box w (.cells #[.pointer (some ⟨bx, 0, none⟩)] 29)) (below_box (w.alloc (.cells #[.pointer (some ⟨bx, 0, none⟩)] 29)) (.cells #[.int .u64 s.t, .int .u64 s.s] 38))
  go_enter Try.func26, Try.ntmps26
  go_wp2_with fail
  refine (hPl.out _ (HM.out.below hB0)).mono ?_
  rintro e w1 ⟨rfl, hB1⟩
  have hB2 := below_trans hB0 hB1
  go_wp2_with fail
  go_ret2
  exact ⟨rfl, hB2⟩

set_option maxRecDepth 100000 in
theorem remove_no (s : St) (bx size : Nat) (R : List (List Ent)) (hR : 0 < R.length) (hF : Fits size R) (hO : Ordered R) (ht : there R s = false)
    (S : Nat → Prop) (vr : Value) (pvs : List Value) (w : World) (hM : MemV w bx size R S vr pvs) :
    Calls Try.prog 26 #[.pointer (some ⟨bx, 0, none⟩), s.v] w fun e w' => e = .returned (.tuple #[.int .u64 0, .bool false]) ∧ Below w.heap.size w w' := by
  have hp := pageOf_lt (s := s) hR
  have hsz : (size : Int) ≠ 0 := by have := hF.lo; omega
  have hsz' : ((size : Int) == 0) = false := by simpa using hsz
  obtain ⟨m0, m1, m2⟩ := hM.cells
  obtain ⟨g, cap, rfl, hg, hc, hcm, hrow, hfr⟩ := hM.row hR
  obtain ⟨g2, cap2, hv2, hg2, hc2, hcm2, hpage, hone, -⟩ := (hM.pages _ hp).parts (hO.full _ hp)
  have hrp := hrow _ hp
  rw [hv2] at hrp
  have hB0 := below_box w (.cells #[.int .u64 s.t, .int .u64 s.s] 38)
  have hbx := block_lt_of_heap hM.str
  have hgx := hM.sr g rfl
  have hlp := hF.page _ hp
  have hsize := hF.hi
  have hPl := Lib.hid (place_some s bx size hsz R hR (by have := hF.rows; omega) hO (fun i hi => by have := hF.page i hi; omega) S (.slice (some ⟨g, 0, none⟩) R.length cap) pvs)
  have hel := entOf_le R s
  have HM := Lib.hid hM; clear hM
  have HF := Lib.hid hF; clear hF
  have HO := Lib.hid hO; clear hO
  have Hone := Lib.hid hone; clear hone
  have Hpage := Lib.hid hpage; clear hpage
  have Hrow := Lib.hid hrow; clear hrow
  have Hfr := Lib.hid hfr; clear hfr
  have hmz := HF.out.tot
  have hbb : ¬ bx = w.heap.size := by omega
  unfold St.v at hPl ⊢
  have hBb := below_trans (below_box w (.cells #[.pointer (some ⟨bx, 0, none⟩)] 29)) (below_box (w.alloc (.cells #[.pointer (some ⟨bx, 0, none⟩)] 29)) (.cells #[.int .u64 s.t, .int .u64 s.s] 38))
  go_enter Try.func26, Try.ntmps26
  go_wp2_with fail
  refine (hPl.out _ (HM.out.below hBb)).mono ?_
  rintro e w1 ⟨rfl, hB1⟩
  rw [ht]
  have hB2 := below_trans hBb hB1
  go_wp2_with fail
  go_ret2
  exact ⟨rfl, hB2⟩

def RemPost (w : World) (bx size : Nat) (R R' : List (List Ent)) (S : Nat → Prop) (v : Value) (e : Ending) (w' : World) : Prop :=
  e = .returned (.tuple #[v, .bool true]) ∧ ∃ vr' pvs', MemV w' bx size R' (fun k => S k ∨ w.heap.size ≤ k) vr' pvs' ∧ Wrote w bx vr' w'

set_option maxRecDepth 100000 in
/-- the page's only entry -/
theorem remove_empty (s : St) (bx size : Nat) (R : List (List Ent)) (hR : 0 < R.length) (hF : Fits size R) (hO : Ordered R) (ht : there R s = true) (h1 : (pageAt R (pageOf R s)).length = 1)
    (S : Nat → Prop) (vr : Value) (pvs : List Value) (w : World) (hM : MemV w bx size R S vr pvs) :
    Calls Try.prog 26 #[.pointer (some ⟨bx, 0, none⟩), s.v] w (RemPost w bx size R (removeR size R s) S (ent (pageAt R (pageOf R s)) (entOf R s)).v) := by
  have H1 := Lib.hid h1; clear h1
  have hp := pageOf_lt (s := s) hR
  have hsz : (size : Int) ≠ 0 := by have := hF.lo; omega
  have hsz' : ((size : Int) == 0) = false := by simpa using hsz
  obtain ⟨m0, m1, m2⟩ := hM.cells
  obtain ⟨g, cap, rfl, hg, hc, hcm, hrow, hfr⟩ := hM.row hR
  obtain ⟨g2, cap2, hv2, hg2, hc2, hcm2, hpage, hone, -⟩ := (hM.pages _ hp).parts (hO.full _ hp)
  have hrp := hrow _ hp
  rw [hv2] at hrp
  have hB0 := below_box w (.cells #[.int .u64 s.t, .int .u64 s.s] 38)
  have hbx := block_lt_of_heap hM.str
  have hgx := hM.sr g rfl
  have hlp := hF.page _ hp
  have hsize := hF.hi
  have hPl := Lib.hid (place_some s bx size hsz R hR (by have := hF.rows; omega) hO (fun i hi => by have := hF.page i hi; omega) S (.slice (some ⟨g, 0, none⟩) R.length cap) pvs)
  have hel := entOf_le R s
  have HM := Lib.hid hM; clear hM
  have HF := Lib.hid hF; clear hF
  have HO := Lib.hid hO; clear hO
  have Hone := Lib.hid hone; clear hone
  have Hpage := Lib.hid hpage; clear hpage
  have Hrow := Lib.hid hrow; clear hrow
  have Hfr := Lib.hid hfr; clear hfr
  have hmz := HF.out.tot
  have hbb : ¬ bx = w.heap.size := by omega
  unfold St.v at hPl ⊢
  have hBb := below_trans (below_box w (.cells #[.pointer (some ⟨bx, 0, none⟩)] 29)) (below_box (w.alloc (.cells #[.pointer (some ⟨bx, 0, none⟩)] 29)) (.cells #[.int .u64 s.t, .int .u64 s.s] 38))
  go_enter Try.func26, Try.ntmps26
  go_wp2_with fail
  refine (hPl.out _ (HM.out.below hBb)).mono ?_
  rintro e w1 ⟨rfl, hB1⟩
  rw [ht]
  have hB2 := below_trans hBb hB1
  have el : entOf R s < (pageAt R (pageOf R s)).length := by
    have := (isIn_iff.1 ht).1
    rwa [length_keys] at this
  have eli : (entOf R s : Int) < ((pageAt R (pageOf R s)).length : Int) := by omega
  have hv := (Hpage.out _ el).2.2
  have h1v := Hone.out _ el
  obtain ⟨v, ev⟩ : ∃ v, v = (ent (pageAt R (pageOf R s)) (entOf R s)).v := ⟨_, rfl⟩
  rw [← ev] at hv h1v
  have Ev := Lib.hid ev; clear ev
  have n0 := below_cell hB2 m0
  have n1 := below_cell hB2 m1
  have n2 := below_cell hB2 m2
  have n3 := below_cell hB2 hrp
  have n4 := below_cell hB2 hv
  have HM1 := Lib.hid (HM.out.below hB2)
  have f1 := HM1.out.frozen 1
  have d0 : w1.cell? ⟨w.heap.size, 0, none⟩ = some (.pointer (some ⟨bx, 0, none⟩)) := below_cell hB1 (by simp)
  have hpos : (0 : Int) < (total R : Int) := by
    have := total_split R hp
    omega
  have hne1 : ¬ bx = w.heap.size := by omega
  have hne2 : ¬ w.heap.size = bx := by omega
  have hs1 : w.heap.size + 1 < w1.heap.size := by have := hB1.size; simp at this; omega
  have hne3 : ¬ bx = w1.heap.size := by omega
  have hne5 : ¬ bx = g := fun h => hgx.2 h.symm
  have hne6 : ¬ g = bx := hgx.2
  have hne7 : ¬ g2 = bx := (HM.out.sp _ hp g2 (by rw [hv2]; rfl)).2.1
  go_wp2_with fail
  obtain ⟨x1, x2, x4⟩ := HM.out.count0 hB2 (.int .i64 ((total R : Int) - 1))
  have x3 : (w1.setCell ⟨bx, 1, none⟩ (.int .i64 ((total R : Int) - 1))).cell? ⟨w.heap.size, 0, none⟩ = some (.pointer (some ⟨bx, 0, none⟩)) := (Ext.setCell (S := (· = bx)) rfl _).cell_some d0 hne2
  generalize World.setCell w1 _ _ = X at x1 x2 x3 x4 ⊢
  have hxs : w.heap.size + 1 < X.heap.size := by omega
  have y0 : X.cell? ⟨bx, 0, none⟩ = some (.int .i64 size) := by simp [World.cell?, x2]
  have y2 : X.cell? ⟨bx, 2, none⟩ = some (.slice (some ⟨g, 0, none⟩) R.length cap) := by simp [World.cell?, x2]
  have hpx := (HM.out.pages _ hp).ext x1 (fun k hk => ((HM.out.sp _ hp k hk).2.1))
  rw [hv2] at hpx
  refine (clone_page (w.heap.size + 2) _ g2 _ cap2 rfl (HO.out.full _ hp) (by omega) X (by omega) hpx).mono ?_
  clear hpx n0 n1 n2 n3 n4
  rintro e w2 ⟨v', rfl, hB3, g', cap', rfl, hg', hown⟩
  have Hown := Lib.hid hown; clear hown
  go_wp2_with fail
  refine (EU.delete_any (w.heap.size + 2) g' _ cap' (entOf R s) _ w2 Hown.out (by omega) el (cellsOf_one (HM.out.pages _ hp).one)).mono ?_
  rintro e w3 ⟨rfl, hl3, hx3⟩
  have hg'3 : g' < w3.heap.size := owns_lt hl3 rfl
  have e3 : Ext (· = bx) w w3 := (x1.trans (Ext.of_below (S := (· = bx)) hB3) fun k _ hk => hk).trans hx3 (fun k (hk : k < w.heap.size) (h : k = g') => by exfalso; omega)
  have X3 : Ext (· = g') X w3 := (Ext.of_below (S := (· = g')) hB3).trans hx3 fun k _ hk => hk
  obtain ⟨l, el'⟩ : ∃ l, l = (pageAt R (pageOf R s)).take (entOf R s) ++ (pageAt R (pageOf R s)).drop (entOf R s + 1) := ⟨_, rfl⟩
  obtain ⟨N, eN⟩ : ∃ N, N = (pageAt R (pageOf R s)).length - 1 := ⟨_, rfl⟩
  have hlen : l.length = N := by
    rw [el', eN]
    simp only [List.length_append, List.length_take, List.length_drop]; omega
  have hN : N + 1 = (pageAt R (pageOf R s)).length := by omega
  have ecl : (cellsOf (pageAt R (pageOf R s))).take (entOf R s * 3) ++ (cellsOf (pageAt R (pageOf R s))).drop ((entOf R s + 1) * 3) = cellsOf l := by
    rw [el', cellsOf_append, ← cellsOf_take, ← cellsOf_drop]
  have hone3 : ∀ e ∈ l, e.v.oneCell' = true := fun e he => by
    rw [el'] at he
    rcases List.mem_append.1 he with h | h
    · exact (HM.out.pages _ hp).one e (List.mem_of_mem_take h)
    · exact (HM.out.pages _ hp).one e (List.mem_of_mem_drop h)
  rw [ecl] at hl3
  rw [← eN] at hl3 ⊢
  have hNc : N ≤ cap' := by
    obtain ⟨_, _, hs, h1, _⟩ := owns_shape hl3
    injection hs with _ _ hs
    omega
  have hN63 : N ≤ 64 := by omega
  have Hone3 := Lib.hid hone3; clear hone3
  have El := Lib.hid el'; clear el'
  have Hlen := Lib.hid hlen; clear hlen
  have Hol := Lib.hid hl3; clear hl3
  have EN := Lib.hid eN; clear eN
  have HN := Lib.hid hN; clear hN
  clear ecl
  have hbg : ¬ bx = g' := by omega
  have hgg : ¬ g = g' := by omega
  have hbb' : ¬ w.heap.size = g' := by omega
  have hbb3 : ¬ w.heap.size = g := by omega
  have q2 : w3.heap[bx]? = _ := X3.heap x2 hbg
  have q0 : w3.cell? ⟨bx, 0, none⟩ = some (.int .i64 size) := X3.cell_some y0 hbg
  have q1 : w3.cell? ⟨bx, 2, none⟩ = some (.slice (some ⟨g, 0, none⟩) R.length cap) := X3.cell_some y2 hbg
  have q3 : w3.cell? ⟨w.heap.size, 0, none⟩ = some (.pointer (some ⟨bx, 0, none⟩)) := X3.cell_some x3 hbb'
  obtain rfl : N = 0 := by have := HN.out; have := H1.out; omega
  go_wp2_with fail
  have hBx := below_box w3 (.cells #[.slice (some ⟨g', 0, none⟩) 0 cap'] 89)
  have hbl : (w3.alloc (.cells #[.slice (some ⟨g', 0, none⟩) 0 cap'] 89)).cell? ⟨w3.heap.size, 0, none⟩ = some (.slice (some ⟨g', 0, none⟩) 0 cap') := by simp
  have hY2 : (w3.alloc (.cells #[.slice (some ⟨g', 0, none⟩) 0 cap'] 89)).heap.size = w3.heap.size + 1 := by simp
  generalize World.alloc w3 (.cells #[.slice (some ⟨g', 0, none⟩) 0 cap'] 89) = Y at hBx hbl hY2 ⊢
  have e4 : Ext (· = bx) w Y := e3.trans (Ext.of_below (S := (· = bx)) hBx) fun k _ hk => hk
  have p2 : Y.heap[bx]? = _ := below_heap hBx q2
  have p0 := below_cell hBx q0
  have p1 := below_cell hBx q1
  have p3 := below_cell hBx q3
  have Hol4 := Lib.hid (owns_below Hol.out hBx)
  have Hrows := Lib.hid (owns_ext HM.out.rows e4 (fun k hk => (HM.out.sr k hk).2))
  clear q0 q1 q2 q3
  refine wp_region_late 9 [0] (fun _ => none) (fun w' => w'.cell? ⟨w.heap.size, 0, none⟩ = some (.pointer (some ⟨bx, 0, none⟩)))
    (fun u w' => u = .slice (some ⟨g, 0, none⟩) (R.length - 1) cap ∧ w'.ownsRow 0 89 1 u (R.length - 1) (pvs.take (pageOf R s) ++ pvs.drop (pageOf R s + 1)) ∧ Ext (· = g) Y w') fol (by kernel_rfl)
    (fun b _ hb w' h => below_cell (below_trans hb h) p3) (fun W hW hh => ?_)
  clear hh
  have c1 : ∀ w1, Below W.heap.size W w1 → w1.cell? ⟨bx, 2, none⟩ = some (.slice (some ⟨g, 0, none⟩) R.length cap) := fun w1 h => below_cell (below_trans hW h) p1
  have c3 : ∀ w1, Below W.heap.size W w1 → w1.cell? ⟨w.heap.size, 0, none⟩ = some (.pointer (some ⟨bx, 0, none⟩)) := fun w1 h => below_cell (below_trans hW h) p3
  simp only [List.take_succ_cons, List.take_zero, List.drop_succ_cons, List.drop_zero]
  repeat (first
    | (refine rl_move _ (by first | exact Or.inl rfl | exact Or.inr rfl) (by first | exact Or.inl rfl | exact Or.inr rfl) rfl ?_
       simp only [Act.put, Act.eval, Array.getD_eq_getD_getElem?, List.getElem?_toArray, List.getElem?_cons_zero, List.getElem?_cons_succ, Option.getD_some, List.setIfInBounds_toArray, List.set_cons_succ, List.set_cons_zero]
      )
    | (refine rl_small ?_ rfl rfl (fun w1 hb1 hf1 => ?_) ?_
       rotate_left
       (go_simp; (try simp (disch := omega) only [IntWalk.i64_quo, IntWalk.rem_in, IntWalk.i64_in, IntWalk.u64_in, IntWalk.u32_in, IntWalk.u8_in, IntWalk.toNatUp, IntWalk.iteOmega]); (try go_simp); rfl)
       simp only [Act.put, Act.eval, Array.getD_eq_getD_getElem?, List.getElem?_toArray, List.getElem?_cons_zero, List.getElem?_cons_succ, Option.getD_some, List.setIfInBounds_toArray, List.set_cons_succ, List.set_cons_zero]
      )
    | (refine rl_big ?_ rfl rfl (fun w1 hcb1 => ?_) ?_
       rotate_left
       ((try dsimp only at hcb1); go_simp; (try simp (disch := omega) only [IntWalk.i64_quo, IntWalk.rem_in, IntWalk.i64_in, IntWalk.u64_in, IntWalk.u32_in, IntWalk.u8_in, IntWalk.toNatUp, IntWalk.iteOmega]); (try go_simp); rfl)
       simp only [Act.put, Act.eval, Array.getD_eq_getD_getElem?, List.getElem?_toArray, List.getElem?_cons_zero, List.getElem?_cons_succ, Option.getD_some, List.setIfInBounds_toArray, List.set_cons_succ, List.set_cons_zero]
      ))
  refine rl_late _ rfl rfl ?_ ?_
  · (unfold makes; go_simp; simp only [makesUpon])
    have hrs := HF.out.rows
    rw [IntWalk.i64_in _ (by omega)]
    refine (RU.delete_any 0 g R.length cap (pageOf R s) pvs W (owns_below Hrows.out hW) (by omega) hp HM.out.rows_one).mono ?_
    rintro e w7 ⟨rfl, ho, hx⟩
    refine ⟨_, rfl, hx.cell_some (below_cell hW p3) hbb3, rfl, ?_, (Ext.of_below (S := (· = g)) hW).trans hx fun k _ h => h⟩
    simpa only [Nat.mul_one] using ho
  rintro u7 w7 hcb7 ⟨rfl, hrow7, hx7⟩
  have Hrow7 := Lib.hid hrow7; clear hrow7
  simp only [Act.put, Act.eval, Array.getD_eq_getD_getElem?, List.getElem?_toArray, List.getElem?_cons_zero, List.getElem?_cons_succ, Option.getD_some, List.setIfInBounds_toArray, List.set_cons_succ, List.set_cons_zero]
  refine rl_nil ?_
  have r2 : w7.heap[bx]? = _ := hx7.heap p2 hne5
  have r1 : w7.cell? ⟨bx, 2, none⟩ = some (.slice (some ⟨g, 0, none⟩) R.length cap) := by simp [World.cell?, r2]
  have r4 : w7.frozen? ⟨bx, 2, none⟩ = false := by simp [World.frozen?, r2]
  go_wp2_with fail
  go_ret2
  have hrem : removeR size R s = R.take (pageOf R s) ++ ([] ++ R.drop (pageOf R s + 1)) := by
    unfold removeR
    rw [if_pos ht]
    simp only [← El.out]
    rw [if_pos Hlen.out]
    rfl
  have htp := total_remove (size := size) s hR ht
  rw [hrem] at htp ⊢
  have hend := HM.out.rows_end (ms := []) (vs := []) (i := pageOf R s) (j := pageOf R s + 1) hR (by omega) (by omega) rfl e4 hx7 r2 (by congr 1; omega) (by simp only [List.length_nil]; omega) Hrow7.out (fun q hq => by cases hq) (fun q hq => by cases hq) (fun k hk => .inl (Option.some.inj hk).symm)
  exact ⟨by rw [← Ev.out]; rfl, _, _, hend.1, hend.2⟩
end Go.Proofs.Ytagcohpghgnalaa.U
namespace Go.Proofs.Ytagcohpghgnalaa.U
open Go.RowKit Go.RG Go.Hp Go.Pg Go.Proofs.Ytagcohpghgnalaa





/-- two pages in a row of their own -/
def Two (B : Nat) (va vb : Value) : RG.Spec := fun u w' => ∃ gv, u = .slice (some ⟨gv, 0, none⟩) 2 2 ∧ B ≤ gv ∧ Row w' gv 89 [va, vb]
theorem Two.st (B : Nat) (va vb : Value) : RG.Spec.stable (Two B va vb) := fun u a b h hb => by
  obtain ⟨gv, h1, h2, h3⟩ := h
  exact ⟨gv, h1, h2, h3.below hb⟩
/-- one page in a row of its own -/
def One (B n : Nat) (p : List Ent) : RG.Spec := fun u w' => ∃ gv va, u = .slice (some ⟨gv, 0, none⟩) 1 1 ∧ B ≤ gv ∧ Row w' gv 89 [va] ∧ CP B n p va w'
theorem One.st (B n : Nat) (p : List Ent) : RG.Spec.stable (One B n p) := fun u a b h hb => by
  obtain ⟨gv, va, h1, h2, h3, h4⟩ := h
  exact ⟨gv, va, h1, h2, h3.below hb, CP.st _ _ _ _ _ _ h4 hb⟩

set_option maxHeartbeats 1000000 in
set_option maxRecDepth 100000 in
/-- into the next page -/
theorem remove_next (s : St) (bx size : Nat) (R : List (List Ent)) (hR : 0 < R.length) (hF : Fits size R) (hO : Ordered R) (ht : there R s = true) (h1 : 1 < (pageAt R (pageOf R s)).length)
    (hfew : fewB R size ((pageAt R (pageOf R s)).length - 1) ((pageOf R s : Int) + 1) = true)
    (S : Nat → Prop) (vr : Value) (pvs : List Value) (w : World) (hM : MemV w bx size R S vr pvs) :
    Calls Try.prog 26 #[.pointer (some ⟨bx, 0, none⟩), s.v] w (RemPost w bx size R (removeR size R s) S (ent (pageAt R (pageOf R s)) (entOf R s)).v) := by
  have HW := Lib.hid hfew; clear hfew
  have hp := pageOf_lt (s := s) hR
  have hsz : (size : Int) ≠ 0 := by have := hF.lo; omega
  have hsz' : ((size : Int) == 0) = false := by simpa using hsz
  obtain ⟨m0, m1, m2⟩ := hM.cells
  obtain ⟨g, cap, rfl, hg, hc, hcm, hrow, hfr⟩ := hM.row hR
  obtain ⟨g2, cap2, hv2, hg2, hc2, hcm2, hpage, hone, -⟩ := (hM.pages _ hp).parts (hO.full _ hp)
  have hrp := hrow _ hp
  rw [hv2] at hrp
  have hB0 := below_box w (.cells #[.int .u64 s.t, .int .u64 s.s] 38)
  have hbx := block_lt_of_heap hM.str
  have hgx := hM.sr g rfl
  have hlp := hF.page _ hp
  have hsize := hF.hi
  have hPl := Lib.hid (place_some s bx size hsz R hR (by have := hF.rows; omega) hO (fun i hi => by have := hF.page i hi; omega) S (.slice (some ⟨g, 0, none⟩) R.length cap) pvs)
  have hel := entOf_le R s
  have HM := Lib.hid hM; clear hM
  have HF := Lib.hid hF; clear hF
  have HO := Lib.hid hO; clear hO
  have Hone := Lib.hid hone; clear hone
  have Hpage := Lib.hid hpage; clear hpage
  have Hrow := Lib.hid hrow; clear hrow
  have Hfr := Lib.hid hfr; clear hfr
  have hmz := HF.out.tot
  have hbb : ¬ bx = w.heap.size := by omega
  unfold St.v at hPl ⊢
  have hBb := below_trans (below_box w (.cells #[.pointer (some ⟨bx, 0, none⟩)] 29)) (below_box (w.alloc (.cells #[.pointer (some ⟨bx, 0, none⟩)] 29)) (.cells #[.int .u64 s.t, .int .u64 s.s] 38))
  go_enter Try.func26, Try.ntmps26
  go_wp2_with fail
  refine (hPl.out _ (HM.out.below hBb)).mono ?_
  rintro e w1 ⟨rfl, hB1⟩
  rw [ht]
  have hB2 := below_trans hBb hB1
  have el : entOf R s < (pageAt R (pageOf R s)).length := by
    have := (isIn_iff.1 ht).1
    rwa [length_keys] at this
  have eli : (entOf R s : Int) < ((pageAt R (pageOf R s)).length : Int) := by omega
  have hv := (Hpage.out _ el).2.2
  have h1v := Hone.out _ el
  obtain ⟨v, ev⟩ : ∃ v, v = (ent (pageAt R (pageOf R s)) (entOf R s)).v := ⟨_, rfl⟩
  rw [← ev] at hv h1v
  have Ev := Lib.hid ev; clear ev
  have n0 := below_cell hB2 m0
  have n1 := below_cell hB2 m1
  have n2 := below_cell hB2 m2
  have n3 := below_cell hB2 hrp
  have n4 := below_cell hB2 hv
  have HM1 := Lib.hid (HM.out.below hB2)
  have f1 := HM1.out.frozen 1
  have d0 : w1.cell? ⟨w.heap.size, 0, none⟩ = some (.pointer (some ⟨bx, 0, none⟩)) := below_cell hB1 (by simp)
  have hpos : (0 : Int) < (total R : Int) := by
    have := total_split R hp
    omega
  have hne1 : ¬ bx = w.heap.size := by omega
  have hne2 : ¬ w.heap.size = bx := by omega
  have hs1 : w.heap.size + 1 < w1.heap.size := by have := hB1.size; simp at this; omega
  have hne3 : ¬ bx = w1.heap.size := by omega
  have hne5 : ¬ bx = g := fun h => hgx.2 h.symm
  have hne6 : ¬ g = bx := hgx.2
  have hne7 : ¬ g2 = bx := (HM.out.sp _ hp g2 (by rw [hv2]; rfl)).2.1
  go_wp2_with fail
  obtain ⟨x1, x2, x4⟩ := HM.out.count0 hB2 (.int .i64 ((total R : Int) - 1))
  have x3 : (w1.setCell ⟨bx, 1, none⟩ (.int .i64 ((total R : Int) - 1))).cell? ⟨w.heap.size, 0, none⟩ = some (.pointer (some ⟨bx, 0, none⟩)) := (Ext.setCell (S := (· = bx)) rfl _).cell_some d0 hne2
  generalize World.setCell w1 _ _ = X at x1 x2 x3 x4 ⊢
  have hxs : w.heap.size + 1 < X.heap.size := by omega
  have y0 : X.cell? ⟨bx, 0, none⟩ = some (.int .i64 size) := by simp [World.cell?, x2]
  have y2 : X.cell? ⟨bx, 2, none⟩ = some (.slice (some ⟨g, 0, none⟩) R.length cap) := by simp [World.cell?, x2]
  have hpx := (HM.out.pages _ hp).ext x1 (fun k hk => ((HM.out.sp _ hp k hk).2.1))
  rw [hv2] at hpx
  refine (clone_page (w.heap.size + 2) _ g2 _ cap2 rfl (HO.out.full _ hp) (by omega) X (by omega) hpx).mono ?_
  clear hpx n0 n1 n2 n3 n4
  rintro e w2 ⟨v', rfl, hB3, g', cap', rfl, hg', hown⟩
  have Hown := Lib.hid hown; clear hown
  go_wp2_with fail
  refine (EU.delete_any (w.heap.size + 2) g' _ cap' (entOf R s) _ w2 Hown.out (by omega) el (cellsOf_one (HM.out.pages _ hp).one)).mono ?_
  rintro e w3 ⟨rfl, hl3, hx3⟩
  have hg'3 : g' < w3.heap.size := owns_lt hl3 rfl
  have e3 : Ext (· = bx) w w3 := (x1.trans (Ext.of_below (S := (· = bx)) hB3) fun k _ hk => hk).trans hx3 (fun k (hk : k < w.heap.size) (h : k = g') => by exfalso; omega)
  have X3 : Ext (· = g') X w3 := (Ext.of_below (S := (· = g')) hB3).trans hx3 fun k _ hk => hk
  obtain ⟨l, el'⟩ : ∃ l, l = (pageAt R (pageOf R s)).take (entOf R s) ++ (pageAt R (pageOf R s)).drop (entOf R s + 1) := ⟨_, rfl⟩
  obtain ⟨N, eN⟩ : ∃ N, N = (pageAt R (pageOf R s)).length - 1 := ⟨_, rfl⟩
  have hlen : l.length = N := by
    rw [el', eN]
    simp only [List.length_append, List.length_take, List.length_drop]; omega
  have hN : N + 1 = (pageAt R (pageOf R s)).length := by omega
  have ecl : (cellsOf (pageAt R (pageOf R s))).take (entOf R s * 3) ++ (cellsOf (pageAt R (pageOf R s))).drop ((entOf R s + 1) * 3) = cellsOf l := by
    rw [el', cellsOf_append, ← cellsOf_take, ← cellsOf_drop]
  have hone3 : ∀ e ∈ l, e.v.oneCell' = true := fun e he => by
    rw [el'] at he
    rcases List.mem_append.1 he with h | h
    · exact (HM.out.pages _ hp).one e (List.mem_of_mem_take h)
    · exact (HM.out.pages _ hp).one e (List.mem_of_mem_drop h)
  rw [ecl] at hl3
  rw [← eN] at hl3 ⊢
  have hNc : N ≤ cap' := by
    obtain ⟨_, _, hs, h1, _⟩ := owns_shape hl3
    injection hs with _ _ hs
    omega
  have hN63 : N ≤ 64 := by omega
  have Hone3 := Lib.hid hone3; clear hone3
  have El := Lib.hid el'; clear el'
  have Hlen := Lib.hid hlen; clear hlen
  have Hol := Lib.hid hl3; clear hl3
  have EN := Lib.hid eN; clear eN
  have HN := Lib.hid hN; clear hN
  clear ecl
  have hbg : ¬ bx = g' := by omega
  have hgg : ¬ g = g' := by omega
  have hbb' : ¬ w.heap.size = g' := by omega
  have hbb3 : ¬ w.heap.size = g := by omega
  have q2 : w3.heap[bx]? = _ := X3.heap x2 hbg
  have q0 : w3.cell? ⟨bx, 0, none⟩ = some (.int .i64 size) := X3.cell_some y0 hbg
  have q1 : w3.cell? ⟨bx, 2, none⟩ = some (.slice (some ⟨g, 0, none⟩) R.length cap) := X3.cell_some y2 hbg
  have q3 : w3.cell? ⟨w.heap.size, 0, none⟩ = some (.pointer (some ⟨bx, 0, none⟩)) := X3.cell_some x3 hbb'
  have hN0 : 0 < N := by have := HN.out; omega
  have hNz : ((N : Int) == 0) = false := by rw [beq_eq_false_iff_ne]; omega
  go_wp2_with fail
  have hBx := below_box w3 (.cells #[.slice (some ⟨g', 0, none⟩) N cap'] 89)
  have hbl : (w3.alloc (.cells #[.slice (some ⟨g', 0, none⟩) N cap'] 89)).cell? ⟨w3.heap.size, 0, none⟩ = some (.slice (some ⟨g', 0, none⟩) N cap') := by simp
  have hY2 : (w3.alloc (.cells #[.slice (some ⟨g', 0, none⟩) N cap'] 89)).heap.size = w3.heap.size + 1 := by simp
  generalize World.alloc w3 (.cells #[.slice (some ⟨g', 0, none⟩) N cap'] 89) = Y at hBx hbl hY2 ⊢
  have e4 : Ext (· = bx) w Y := e3.trans (Ext.of_below (S := (· = bx)) hBx) fun k _ hk => hk
  have p2 : Y.heap[bx]? = _ := below_heap hBx q2
  have p0 := below_cell hBx q0
  have p1 := below_cell hBx q1
  have p3 := below_cell hBx q3
  have Hol4 := Lib.hid (owns_below Hol.out hBx)
  have Hrows := Lib.hid (owns_ext HM.out.rows e4 (fun k hk => (HM.out.sr k hk).2))
  clear q0 q1 q2 q3
  have Hlens := Lib.hid (HM.out.lens e4)
  rw [IntWalk.wrap64_in _ (by have := HF.out.rows; omega)]
  refine (few_any _ (by have := HF.out.rows; omega) w.heap.size w3.heap.size bx size g cap N cap' (some ⟨g', 0, none⟩) R HF.out.hi (by omega) HF.out.rows (fun i hi => by have := HF.out.page i hi; have := HF.out.hi; omega) pvs Y p3 hbl p0 p1 (fun i hi => by obtain ⟨a, c, -, h⟩ := Hlens.out i hi; exact ⟨a, c, h⟩)).mono ?_
  rintro e Y1 ⟨rfl, hB5⟩
  rw [EN.out, HW.out]
  go_wp2_with fail
  have hw := HW.out
  unfold fewB at hw
  rw [← EN.out, Bool.and_eq_true, Bool.and_eq_true, decide_eq_true_eq, decide_eq_true_eq, decide_eq_true_eq, show ((pageOf R s : Int) + 1).toNat = pageOf R s + 1 by omega] at hw
  have hp1 : pageOf R s + 1 < R.length := by omega
  have hroom := hw.2.2
  clear hw
  obtain ⟨g5, c5, hv5, hg5, hc5, hm5, -, -, -⟩ := (HM.out.pages _ hp1).parts (HO.out.full _ hp1)
  have hcell5 : Y.cell? ⟨g, pageOf R s + 1, none⟩ = some (.slice (some ⟨g5, 0, none⟩) (pageAt R (pageOf R s + 1)).length c5) := by
    obtain ⟨a, c, e1, e2⟩ := Hlens.out _ hp1
    rw [e2, ← e1, hv5]
  have hrow5 := (HM.out.pages _ hp1).ext e4 (fun k hk => (HM.out.sp _ hp1 k hk).2.1)
  rw [hv5] at hrow5
  have Hv5 := Lib.hid hv5; clear hv5
  have hn5 : 0 < (pageAt R (pageOf R s + 1)).length := HO.out.full _ hp1
  have hl5 := HF.out.page _ hp1
  obtain ⟨n5, en5⟩ : ∃ n5, n5 = (pageAt R (pageOf R s + 1)).length := ⟨_, rfl⟩
  rw [← en5] at hrow5 hcell5 hc5 hn5 hl5 hroom
  have hr5 := hrow5.row
  rw [← en5] at hr5
  have Hr5 := Lib.hid hr5; clear hr5 hrow5
  have En5 := Lib.hid en5; clear en5
  obtain ⟨q, eq⟩ : ∃ q, q = pageOf R s + 1 := ⟨_, rfl⟩
  have hqz : (pageOf R s : Int) + 1 = (q : Int) := by omega
  have hqi : (q : Int) < (R.length : Int) := by omega
  rw [← eq] at hcell5
  have Hqz := Lib.hid hqz; clear hqz
  have Eq := Lib.hid eq; clear eq
  have hYW := hB5
  refine wp_region_late 21 [0] (fun i => if i = 17 then some (Two w.heap.size (.slice (some ⟨g', 0, none⟩) N cap') (.slice (some ⟨g5, 0, none⟩) n5 c5)) else if i = 18 then some (CP w.heap.size (N + n5) (l ++ pageAt R (pageOf R s + 1))) else if i = 19 then some (One w.heap.size (N + n5) (l ++ pageAt R (pageOf R s + 1))) else none)
    (fun w' => w'.cell? ⟨w.heap.size, 0, none⟩ = some (.pointer (some ⟨bx, 0, none⟩)))
    (fun u w' => ∃ va a cap', w'.ownsRow 0 89 1 u (R.length - 1) (pvs.take (pageOf R s) ++ ([va] ++ pvs.drop (pageOf R s + 2))) ∧ CP w.heap.size (N + n5) (l ++ pageAt R (pageOf R s + 1)) va w' ∧ Ext (· = g) Y w' ∧
      (∀ k, u.ownBlock = some k → k = g ∨ (Y.heap.size ≤ k ∧ va.ownBlock ≠ some k)) ∧ u = .slice a (R.length - 1) cap') fol (by kernel_rfl)
    (fun b _ hb w' h => below_cell (below_trans (below_trans hB5 hb) h) p3) (fun W hW hh => ?_)
  clear hh
  have hYW := below_trans hB5 hW
  have c1 : ∀ w1, Below W.heap.size W w1 → w1.cell? ⟨bx, 2, none⟩ = some (.slice (some ⟨g, 0, none⟩) R.length cap) := fun w1 h => below_cell (below_trans hYW h) p1
  have c3 : ∀ w1, Below W.heap.size W w1 → w1.cell? ⟨w.heap.size, 0, none⟩ = some (.pointer (some ⟨bx, 0, none⟩)) := fun w1 h => below_cell (below_trans hYW h) p3
  have c4 : ∀ w1, Below W.heap.size W w1 → w1.cell? ⟨w3.heap.size, 0, none⟩ = some (.slice (some ⟨g', 0, none⟩) N cap') := fun w1 h => below_cell (below_trans hYW h) hbl
  have c5' : ∀ w1, Below W.heap.size W w1 → w1.cell? ⟨g, q, none⟩ = some (.slice (some ⟨g5, 0, none⟩) n5 c5) := fun w1 h => below_cell (below_trans hYW h) hcell5
  simp only [List.take_succ_cons, List.take_zero, List.drop_succ_cons, List.drop_zero]
  repeat (first
    | (refine rl_move _ (by first | exact Or.inl rfl | exact Or.inr rfl) (by first | exact Or.inl rfl | exact Or.inr rfl) rfl ?_
       simp only [Act.put, Act.eval, Array.getD_eq_getD_getElem?, List.getElem?_toArray, List.getElem?_cons_zero, List.getElem?_cons_succ, Option.getD_some, List.setIfInBounds_toArray, List.set_cons_succ, List.set_cons_zero]
      )
    | (refine rl_small ?_ rfl rfl (fun w1 hb1 hf1 => ?_) ?_
       rotate_left
       (go_simp; (try simp (disch := omega) only [IntWalk.i64_quo, IntWalk.rem_in, IntWalk.i64_in, IntWalk.u64_in, IntWalk.u32_in, IntWalk.u8_in, IntWalk.toNatUp, IntWalk.iteOmega]); (try go_simp); rfl)
       simp only [Act.put, Act.eval, Array.getD_eq_getD_getElem?, List.getElem?_toArray, List.getElem?_cons_zero, List.getElem?_cons_succ, Option.getD_some, List.setIfInBounds_toArray, List.set_cons_succ, List.set_cons_zero]
      )
    | (refine rl_big ?_ rfl rfl (fun w1 hcb1 => ?_) ?_
       rotate_left
       ((try dsimp only at hcb1); go_simp; (try simp (disch := omega) only [IntWalk.i64_quo, IntWalk.rem_in, IntWalk.i64_in, IntWalk.u64_in, IntWalk.u32_in, IntWalk.u8_in, IntWalk.toNatUp, IntWalk.iteOmega]); (try go_simp); rfl)
       simp only [Act.put, Act.eval, Array.getD_eq_getD_getElem?, List.getElem?_toArray, List.getElem?_cons_zero, List.getElem?_cons_succ, Option.getD_some, List.setIfInBounds_toArray, List.set_cons_succ, List.set_cons_zero]
      ))
  have hrs := HF.out.rows
  rw [IntWalk.i64_in ((pageOf R s : Int) + 1) (by omega), Hqz.out]
  repeat (first
    | (refine rl_move _ (by first | exact Or.inl rfl | exact Or.inr rfl) (by first | exact Or.inl rfl | exact Or.inr rfl) rfl ?_
       simp only [Act.put, Act.eval, Array.getD_eq_getD_getElem?, List.getElem?_toArray, List.getElem?_cons_zero, List.getElem?_cons_succ, Option.getD_some, List.setIfInBounds_toArray, List.set_cons_succ, List.set_cons_zero]
      )
    | (refine rl_small ?_ rfl rfl (fun w1 hb1 hf1 => ?_) ?_
       rotate_left
       (go_simp; (try simp (disch := omega) only [IntWalk.i64_quo, IntWalk.rem_in, IntWalk.i64_in, IntWalk.u64_in, IntWalk.u32_in, IntWalk.u8_in, IntWalk.toNatUp, IntWalk.iteOmega]); (try go_simp); rfl)
       simp only [Act.put, Act.eval, Array.getD_eq_getD_getElem?, List.getElem?_toArray, List.getElem?_cons_zero, List.getElem?_cons_succ, Option.getD_some, List.setIfInBounds_toArray, List.set_cons_succ, List.set_cons_zero]
      )
    | (refine rl_big ?_ rfl rfl (fun w1 hcb1 => ?_) ?_
       rotate_left
       ((try dsimp only at hcb1); go_simp; (try simp (disch := omega) only [IntWalk.i64_quo, IntWalk.rem_in, IntWalk.i64_in, IntWalk.u64_in, IntWalk.u32_in, IntWalk.u8_in, IntWalk.toNatUp, IntWalk.iteOmega]); (try go_simp); rfl)
       simp only [Act.put, Act.eval, Array.getD_eq_getD_getElem?, List.getElem?_toArray, List.getElem?_cons_zero, List.getElem?_cons_succ, Option.getD_some, List.setIfInBounds_toArray, List.set_cons_succ, List.set_cons_zero]
      ))
  refine rl_make _ rfl (by exact Two.st _ _ _) rfl (fun w1 hb1 hf1 => ?_) ?_
  · have hb1' := hb1
    (unfold makes; go_simp; simp only [makesUpon])
    have h1 := e4.size; have h2 := hYW.size; have h3 := hb1'.size
    exact ⟨below_box _ _, _, rfl, by omega, row_new _ _ _⟩
  rintro u8 w8 hB8 ⟨gv8, rfl, hg8, hrow8⟩
  clear hrow8
  simp only [Act.put, Act.eval, Array.getD_eq_getD_getElem?, List.getElem?_toArray, List.getElem?_cons_zero, List.getElem?_cons_succ, Option.getD_some, List.setIfInBounds_toArray, List.set_cons_succ, List.set_cons_zero]
  refine rl_make _ rfl (by exact CP.st _ _ _) rfl (fun w1 hb1 hf1 => ?_) ?_
  · have hb1' := hb1
    have f8 : Two w.heap.size (.slice (some ⟨g', 0, none⟩) N cap') (.slice (some ⟨g5, 0, none⟩) n5 c5) (.slice (some ⟨gv8, 0, none⟩) 2 2) w1 := hf1 95 (by decide) (by simp)
    clear hf1
    (unfold makes; go_simp; simp only [makesUpon])
    obtain ⟨gx8, ex8, hgx8, hr8⟩ := f8
    have ex8 : gv8 = gx8 := by injection ex8 with h1 _ _; injection h1 with h1; injection h1
    subst ex8
    have hcB := below_trans hYW hb1'
    have ho1 := owns_below Hol4.out hcB
    have ho2 := owns_below Hr5.out hcB
    have hcs := hcB.size
    have he4 := e4.size
    refine (EU.concat_two gv8 2 g' N cap' g5 n5 c5 _ _ w1 (by rw [hr8.cell]; rfl) (by rw [hr8.cell]; rfl) (owns_length ho1) (owns_length ho2) (fun j u h => by have := owns_src ho1 j u h; rwa [Addr.add_lit, Nat.zero_add] at this) (fun j u h => by have := owns_src ho2 j u h; rwa [Addr.add_lit, Nat.zero_add] at this) (cellsOf_one Hone3.out) (cellsOf_one (HM.out.pages _ hp1).one) hN0 (by omega)).mono ?_
    rintro e w'' ⟨vc, rfl, hoc, hbc⟩
    have hoc := owns_base hoc (base' := w.heap.size) fun k hk => by have := (hoc.lt k hk).1; omega
    rw [← cellsOf_append] at hoc
    obtain ⟨gc, cc, rfl, hgc, -⟩ := owns_parts hoc (by omega)
    exact ⟨_, rfl, hbc, gc, cc, rfl, hgc, hoc⟩
  rintro u9 w9 hB9 ⟨g9, c9, rfl, hg9, hown9⟩
  clear hown9
  simp only [Act.put, Act.eval, Array.getD_eq_getD_getElem?, List.getElem?_toArray, List.getElem?_cons_zero, List.getElem?_cons_succ, Option.getD_some, List.setIfInBounds_toArray, List.set_cons_succ, List.set_cons_zero]
  refine rl_make _ rfl (by exact One.st _ _ _) rfl (fun w1 hb1 hf1 => ?_) ?_
  · have hb1' := hb1
    have f9 : CP w.heap.size (N + n5) (l ++ pageAt R (pageOf R s + 1)) (.slice (some ⟨g9, 0, none⟩) (N + n5) c9) w1 := hf1 96 (by decide) (by simp)
    clear hf1
    (unfold makes; go_simp; simp only [makesUpon])
    have hb2 := below_box w1 (.cells #[.slice (some ⟨g9, 0, none⟩) (N + n5) c9] 89)
    have h1 := e4.size; have h2 := hYW.size; have h3 := hb1'.size
    exact ⟨hb2, w1.heap.size, _, rfl, by omega, row_new _ _ _, CP.st _ _ _ _ _ _ f9 hb2⟩
  rintro u10 w10 hB10 ⟨gv10, va, rfl, hg10, hrow10, hva⟩
  have Hrow10 := Lib.hid hrow10; clear hrow10
  have Hva := Lib.hid hva; clear hva
  simp only [Act.put, Act.eval, Array.getD_eq_getD_getElem?, List.getElem?_toArray, List.getElem?_cons_zero, List.getElem?_cons_succ, Option.getD_some, List.setIfInBounds_toArray, List.set_cons_succ, List.set_cons_zero]
  refine rl_late _ rfl rfl ?_ ?_
  · (unfold makes; go_simp; simp only [makesUpon])
    rw [IntWalk.i64_in _ (by omega)]
    have hB11 := below_trans hYW (below_trans (below_trans hB8 hB9) hB10)
    have hb6 := hB11.size
    have hw3 := e4.size
    have one6 : ∀ x ∈ [va], x.oneCell' = true := by
      obtain ⟨_, _, h1, -⟩ := Hva.out
      intro x hx
      obtain rfl := List.mem_singleton.1 hx
      rw [h1]; rfl
    refine (RU.rep21 0 g R.length cap (pageOf R s) gv10 pvs [va] w10 (owns_below Hrows.out hB11) (by omega) hp1 Hrow10.out (by omega) rfl one6 HM.out.rows_one).mono ?_
    rintro e w7 ⟨u, rfl, hu1, hu2, hu3⟩
    obtain ⟨a7, cap7, hs7, -⟩ := owns_shape hu1
    obtain ⟨ga, ca, ea, hga, hoa⟩ := Hva.out
    have hga6 : ga < w10.heap.size := owns_lt hoa (by rw [ea]; rfl)
    refine ⟨u, rfl, hu2.cell_some (below_cell hB11 p3) hbb3, va, hu1, ⟨ga, ca, ea, hga, owns_ext hoa hu2 ?_⟩, ?_, fun k hk => ?_, a7, cap7, hs7⟩
    · rw [ea]; intro k hk hh
      have hk : ga = k := Option.some.inj hk
      have hh : k = g := hh
      omega
    · exact (Ext.of_below (S := (· = g)) hB11).trans hu2 fun k _ h => h
    · rcases hu3 k hk with h | h
      · exact .inl h
      · refine .inr ⟨by omega, ?_⟩
        rw [ea]; intro hk; have hk : ga = k := Option.some.inj hk; omega
  rintro u7 w7 hcb7 ⟨va7, a7, cap7, hrow7, hva7, hx7, hbk7, rfl⟩
  have Hrow7 := Lib.hid hrow7; clear hrow7
  have Hva7 := Lib.hid hva7; clear hva7
  have Hbk7 := Lib.hid hbk7; clear hbk7
  simp only [Act.put, Act.eval, Array.getD_eq_getD_getElem?, List.getElem?_toArray, List.getElem?_cons_zero, List.getElem?_cons_succ, Option.getD_some, List.setIfInBounds_toArray, List.set_cons_succ, List.set_cons_zero]
  refine rl_nil ?_
  have r2 : w7.heap[bx]? = _ := hx7.heap p2 hne5
  have r1 : w7.cell? ⟨bx, 2, none⟩ = some (.slice (some ⟨g, 0, none⟩) R.length cap) := by simp [World.cell?, r2]
  have r4 : w7.frozen? ⟨bx, 2, none⟩ = false := by simp [World.frozen?, r2]
  go_wp2_with fail
  go_ret2
  have hrem : removeR size R s = R.take (pageOf R s) ++ ([l ++ pageAt R (pageOf R s + 1)] ++ R.drop (pageOf R s + 2)) := by
    unfold removeR
    rw [if_pos ht]
    simp only [← El.out]
    rw [if_neg (by rw [Hlen.out]; omega), if_pos ⟨hp1, by rw [Hlen.out, ← En5.out]; omega⟩]
    rfl
  have htp := total_remove (size := size) s hR ht
  rw [hrem] at htp ⊢
  have hw3 := e4.size
  have hend := HM.out.rows_end (ms := [(l ++ pageAt R (pageOf R s + 1))]) (vs := [va7]) (i := (pageOf R s)) (j := (pageOf R s + 2)) hR (by omega) (by omega) rfl e4 hx7 r2 (by congr 1; omega) (by simp only [List.length_cons, List.length_nil]; omega) Hrow7.out
    (fun q hq => by
      obtain rfl : q = 0 := by simpa using hq
      obtain ⟨ga, ca, rfl, hga, hoa⟩ := Hva7.out
      refine ⟨?_, (fun e he => (List.mem_append.1 he).elim (Hone3.out e) ((HM.out.pages _ hp1).one e))⟩
      show World.ownsRow _ 0 92 3 _ ((l ++ pageAt R (pageOf R s + 1))).length _
      rw [show ((l ++ pageAt R (pageOf R s + 1))).length = N + n5 from (by rw [List.length_append, Hlen.out, ← En5.out])]
      exact owns_base hoa fun k _ => Nat.zero_le _)
    (fun q hq k hk => by
      obtain rfl : q = 0 := by simpa using hq
      have hk : va7.ownBlock = some k := hk
      obtain ⟨ga, ca, ea, hga, hoa⟩ := Hva7.out
      have hk2 := hk
      rw [ea] at hk2
      have hk2 : ga = k := Option.some.inj hk2
      refine ⟨by omega, fun e => ?_⟩
      rcases Hbk7.out k e with h | ⟨_, h⟩
      · omega
      · exact h hk)
    (fun k hk => (Hbk7.out k hk).imp id fun h => h.1)
  exact ⟨by rw [← Ev.out]; rfl, _, _, hend.1, hend.2⟩
end Go.Proofs.Ytagcohpghgnalaa.U
namespace Go.Proofs.Ytagcohpghgnalaa.U
open Go.RowKit Go.RG Go.Hp Go.Pg Go.Proofs.Ytagcohpghgnalaa





set_option maxHeartbeats 1000000 in
set_option maxRecDepth 100000 in
/-- into the page ahead -/
theorem remove_prev (s : St) (bx size : Nat) (R : List (List Ent)) (hR : 0 < R.length) (hF : Fits size R) (hO : Ordered R) (ht : there R s = true) (h1 : 1 < (pageAt R (pageOf R s)).length)
    (hfew0 : fewB R size ((pageAt R (pageOf R s)).length - 1) ((pageOf R s : Int) + 1) = false) (hfew : fewB R size ((pageAt R (pageOf R s)).length - 1) ((pageOf R s : Int) - 1) = true)
    (S : Nat → Prop) (vr : Value) (pvs : List Value) (w : World) (hM : MemV w bx size R S vr pvs) :
    Calls Try.prog 26 #[.pointer (some ⟨bx, 0, none⟩), s.v] w (RemPost w bx size R (removeR size R s) S (ent (pageAt R (pageOf R s)) (entOf R s)).v) := by
  have HW := Lib.hid hfew; clear hfew
  have HW0 := Lib.hid hfew0; clear hfew0
  have hp := pageOf_lt (s := s) hR
  have hsz : (size : Int) ≠ 0 := by have := hF.lo; omega
  have hsz' : ((size : Int) == 0) = false := by simpa using hsz
  obtain ⟨m0, m1, m2⟩ := hM.cells
  obtain ⟨g, cap, rfl, hg, hc, hcm, hrow, hfr⟩ := hM.row hR
  obtain ⟨g2, cap2, hv2, hg2, hc2, hcm2, hpage, hone, -⟩ := (hM.pages _ hp).parts (hO.full _ hp)
  have hrp := hrow _ hp
  rw [hv2] at hrp
  have hB0 := below_box w (.cells #[.int .u64 s.t, .int .u64 s.s] 38)
  have hbx := block_lt_of_heap hM.str
  have hgx := hM.sr g rfl
  have hlp := hF.page _ hp
  have hsize := hF.hi
  have hPl := Lib.hid (place_some s bx size hsz R hR (by have := hF.rows; omega) hO (fun i hi => by have := hF.page i hi; omega) S (.slice (some ⟨g, 0, none⟩) R.length cap) pvs)
  have hel := entOf_le R s
  have HM := Lib.hid hM; clear hM
  have HF := Lib.hid hF; clear hF
  have HO := Lib.hid hO; clear hO
  have Hone := Lib.hid hone; clear hone
  have Hpage := Lib.hid hpage; clear hpage
  have Hrow := Lib.hid hrow; clear hrow
  have Hfr := Lib.hid hfr; clear hfr
  have hmz := HF.out.tot
  have hbb : ¬ bx = w.heap.size := by omega
  unfold St.v at hPl ⊢
  have hBb := below_trans (below_box w (.cells #[.pointer (some ⟨bx, 0, none⟩)] 29)) (below_box (w.alloc (.cells #[.pointer (some ⟨bx, 0, none⟩)] 29)) (.cells #[.int .u64 s.t, .int .u64 s.s] 38))
  go_enter Try.func26, Try.ntmps26
  go_wp2_with fail
  refine (hPl.out _ (HM.out.below hBb)).mono ?_
  rintro e w1 ⟨rfl, hB1⟩
  rw [ht]
  have hB2 := below_trans hBb hB1
  have el : entOf R s < (pageAt R (pageOf R s)).length := by
    have := (isIn_iff.1 ht).1
    rwa [length_keys] at this
  have eli : (entOf R s : Int) < ((pageAt R (pageOf R s)).length : Int) := by omega
  have hv := (Hpage.out _ el).2.2
  have h1v := Hone.out _ el
  obtain ⟨v, ev⟩ : ∃ v, v = (ent (pageAt R (pageOf R s)) (entOf R s)).v := ⟨_, rfl⟩
  rw [← ev] at hv h1v
  have Ev := Lib.hid ev; clear ev
  have n0 := below_cell hB2 m0
  have n1 := below_cell hB2 m1
  have n2 := below_cell hB2 m2
  have n3 := below_cell hB2 hrp
  have n4 := below_cell hB2 hv
  have HM1 := Lib.hid (HM.out.below hB2)
  have f1 := HM1.out.frozen 1
  have d0 : w1.cell? ⟨w.heap.size, 0, none⟩ = some (.pointer (some ⟨bx, 0, none⟩)) := below_cell hB1 (by simp)
  have hpos : (0 : Int) < (total R : Int) := by
    have := total_split R hp
    omega
  have hne1 : ¬ bx = w.heap.size := by omega
  have hne2 : ¬ w.heap.size = bx := by omega
  have hs1 : w.heap.size + 1 < w1.heap.size := by have := hB1.size; simp at this; omega
  have hne3 : ¬ bx = w1.heap.size := by omega
  have hne5 : ¬ bx = g := fun h => hgx.2 h.symm
  have hne6 : ¬ g = bx := hgx.2
  have hne7 : ¬ g2 = bx := (HM.out.sp _ hp g2 (by rw [hv2]; rfl)).2.1
  go_wp2_with fail
  obtain ⟨x1, x2, x4⟩ := HM.out.count0 hB2 (.int .i64 ((total R : Int) - 1))
  have x3 : (w1.setCell ⟨bx, 1, none⟩ (.int .i64 ((total R : Int) - 1))).cell? ⟨w.heap.size, 0, none⟩ = some (.pointer (some ⟨bx, 0, none⟩)) := (Ext.setCell (S := (· = bx)) rfl _).cell_some d0 hne2
  generalize World.setCell w1 _ _ = X at x1 x2 x3 x4 ⊢
  have hxs : w.heap.size + 1 < X.heap.size := by omega
  have y0 : X.cell? ⟨bx, 0, none⟩ = some (.int .i64 size) := by simp [World.cell?, x2]
  have y2 : X.cell? ⟨bx, 2, none⟩ = some (.slice (some ⟨g, 0, none⟩) R.length cap) := by simp [World.cell?, x2]
  have hpx := (HM.out.pages _ hp).ext x1 (fun k hk => ((HM.out.sp _ hp k hk).2.1))
  rw [hv2] at hpx
  refine (clone_page (w.heap.size + 2) _ g2 _ cap2 rfl (HO.out.full _ hp) (by omega) X (by omega) hpx).mono ?_
  clear hpx n0 n1 n2 n3 n4
  rintro e w2 ⟨v', rfl, hB3, g', cap', rfl, hg', hown⟩
  have Hown := Lib.hid hown; clear hown
  go_wp2_with fail
  refine (EU.delete_any (w.heap.size + 2) g' _ cap' (entOf R s) _ w2 Hown.out (by omega) el (cellsOf_one (HM.out.pages _ hp).one)).mono ?_
  rintro e w3 ⟨rfl, hl3, hx3⟩
  have hg'3 : g' < w3.heap.size := owns_lt hl3 rfl
  have e3 : Ext (· = bx) w w3 := (x1.trans (Ext.of_below (S := (· = bx)) hB3) fun k _ hk => hk).trans hx3 (fun k (hk : k < w.heap.size) (h : k = g') => by exfalso; omega)
  have X3 : Ext (· = g') X w3 := (Ext.of_below (S := (· = g')) hB3).trans hx3 fun k _ hk => hk
  obtain ⟨l, el'⟩ : ∃ l, l = (pageAt R (pageOf R s)).take (entOf R s) ++ (pageAt R (pageOf R s)).drop (entOf R s + 1) := ⟨_, rfl⟩
  obtain ⟨N, eN⟩ : ∃ N, N = (pageAt R (pageOf R s)).length - 1 := ⟨_, rfl⟩
  have hlen : l.length = N := by
    rw [el', eN]
    simp only [List.length_append, List.length_take, List.length_drop]; omega
  have hN : N + 1 = (pageAt R (pageOf R s)).length := by omega
  have ecl : (cellsOf (pageAt R (pageOf R s))).take (entOf R s * 3) ++ (cellsOf (pageAt R (pageOf R s))).drop ((entOf R s + 1) * 3) = cellsOf l := by
    rw [el', cellsOf_append, ← cellsOf_take, ← cellsOf_drop]
  have hone3 : ∀ e ∈ l, e.v.oneCell' = true := fun e he => by
    rw [el'] at he
    rcases List.mem_append.1 he with h | h
    · exact (HM.out.pages _ hp).one e (List.mem_of_mem_take h)
    · exact (HM.out.pages _ hp).one e (List.mem_of_mem_drop h)
  rw [ecl] at hl3
  rw [← eN] at hl3 ⊢
  have hNc : N ≤ cap' := by
    obtain ⟨_, _, hs, h1, _⟩ := owns_shape hl3
    injection hs with _ _ hs
    omega
  have hN63 : N ≤ 64 := by omega
  have Hone3 := Lib.hid hone3; clear hone3
  have El := Lib.hid el'; clear el'
  have Hlen := Lib.hid hlen; clear hlen
  have Hol := Lib.hid hl3; clear hl3
  have EN := Lib.hid eN; clear eN
  have HN := Lib.hid hN; clear hN
  clear ecl
  have hbg : ¬ bx = g' := by omega
  have hgg : ¬ g = g' := by omega
  have hbb' : ¬ w.heap.size = g' := by omega
  have hbb3 : ¬ w.heap.size = g := by omega
  have q2 : w3.heap[bx]? = _ := X3.heap x2 hbg
  have q0 : w3.cell? ⟨bx, 0, none⟩ = some (.int .i64 size) := X3.cell_some y0 hbg
  have q1 : w3.cell? ⟨bx, 2, none⟩ = some (.slice (some ⟨g, 0, none⟩) R.length cap) := X3.cell_some y2 hbg
  have q3 : w3.cell? ⟨w.heap.size, 0, none⟩ = some (.pointer (some ⟨bx, 0, none⟩)) := X3.cell_some x3 hbb'
  have hN0 : 0 < N := by have := HN.out; omega
  have hNz : ((N : Int) == 0) = false := by rw [beq_eq_false_iff_ne]; omega
  go_wp2_with fail
  have hBx := below_box w3 (.cells #[.slice (some ⟨g', 0, none⟩) N cap'] 89)
  have hbl : (w3.alloc (.cells #[.slice (some ⟨g', 0, none⟩) N cap'] 89)).cell? ⟨w3.heap.size, 0, none⟩ = some (.slice (some ⟨g', 0, none⟩) N cap') := by simp
  have hY2 : (w3.alloc (.cells #[.slice (some ⟨g', 0, none⟩) N cap'] 89)).heap.size = w3.heap.size + 1 := by simp
  generalize World.alloc w3 (.cells #[.slice (some ⟨g', 0, none⟩) N cap'] 89) = Y at hBx hbl hY2 ⊢
  have e4 : Ext (· = bx) w Y := e3.trans (Ext.of_below (S := (· = bx)) hBx) fun k _ hk => hk
  have p2 : Y.heap[bx]? = _ := below_heap hBx q2
  have p0 := below_cell hBx q0
  have p1 := below_cell hBx q1
  have p3 := below_cell hBx q3
  have Hol4 := Lib.hid (owns_below Hol.out hBx)
  have Hrows := Lib.hid (owns_ext HM.out.rows e4 (fun k hk => (HM.out.sr k hk).2))
  clear q0 q1 q2 q3
  have Hlens := Lib.hid (HM.out.lens e4)
  rw [IntWalk.wrap64_in _ (by have := HF.out.rows; omega)]
  refine (few_any _ (by have := HF.out.rows; omega) w.heap.size w3.heap.size bx size g cap N cap' (some ⟨g', 0, none⟩) R HF.out.hi (by omega) HF.out.rows (fun i hi => by have := HF.out.page i hi; have := HF.out.hi; omega) pvs Y p3 hbl p0 p1 (fun i hi => by obtain ⟨a, c, -, h⟩ := Hlens.out i hi; exact ⟨a, c, h⟩)).mono ?_
  rintro e Y1 ⟨rfl, hB5⟩
  rw [EN.out, HW0.out]
  go_wp2_with fail
  have u0 := below_cell hB5 p0
  have u1 := below_cell hB5 p1
  have u3 := below_cell hB5 p3
  have ubl := below_cell hB5 hbl
  rw [IntWalk.wrap64_in _ (by have := HF.out.rows; omega)]
  refine (few_any _ (by have := HF.out.rows; omega) w.heap.size w3.heap.size bx size g cap N cap' (some ⟨g', 0, none⟩) R HF.out.hi (by omega) HF.out.rows (fun i hi => by have := HF.out.page i hi; have := HF.out.hi; omega) pvs Y1 u3 ubl u0 u1 (fun i hi => by obtain ⟨a, c, -, h⟩ := Hlens.out i hi; exact ⟨a, c, below_cell hB5 h⟩)).mono ?_
  rintro e Y2 ⟨rfl, hB6⟩
  rw [EN.out, HW.out]
  go_wp2_with fail
  clear u0 u1 u3 ubl
  have hB5 := below_trans hB5 hB6
  have hw := HW.out
  unfold fewB at hw
  rw [← EN.out, Bool.and_eq_true, Bool.and_eq_true, decide_eq_true_eq, decide_eq_true_eq, decide_eq_true_eq] at hw
  have hp0 : 0 < pageOf R s := by omega
  have hroom := hw.2.2
  rw [show ((pageOf R s : Int) - 1).toNat = pageOf R s - 1 by omega] at hroom
  clear hw
  have hw0 := HW0.out
  have hnot : ¬ (pageOf R s + 1 < R.length ∧ (pageAt R (pageOf R s + 1)).length + N ≤ size / 2) := by
    rintro ⟨h1, h2⟩
    have : fewB R size N ((pageOf R s : Int) + 1) = true := by
      unfold fewB
      rw [Bool.and_eq_true, Bool.and_eq_true, decide_eq_true_eq, decide_eq_true_eq, decide_eq_true_eq, show ((pageOf R s : Int) + 1).toNat = pageOf R s + 1 by omega]
      exact ⟨by omega, by omega, h2⟩
    rw [← EN.out, this] at hw0
    cases hw0
  have hp1 : pageOf R s - 1 < R.length := by omega
  clear hw0
  have Hnot := Lib.hid hnot; clear hnot
  obtain ⟨g5, c5, hv5, hg5, hc5, hm5, -, -, -⟩ := (HM.out.pages _ hp1).parts (HO.out.full _ hp1)
  have hcell5 : Y.cell? ⟨g, pageOf R s - 1, none⟩ = some (.slice (some ⟨g5, 0, none⟩) (pageAt R (pageOf R s - 1)).length c5) := by
    obtain ⟨a, c, e1, e2⟩ := Hlens.out _ hp1
    rw [e2, ← e1, hv5]
  have hrow5 := (HM.out.pages _ hp1).ext e4 (fun k hk => (HM.out.sp _ hp1 k hk).2.1)
  rw [hv5] at hrow5
  have Hv5 := Lib.hid hv5; clear hv5
  have hn5 : 0 < (pageAt R (pageOf R s - 1)).length := HO.out.full _ hp1
  have hl5 := HF.out.page _ hp1
  obtain ⟨n5, en5⟩ : ∃ n5, n5 = (pageAt R (pageOf R s - 1)).length := ⟨_, rfl⟩
  rw [← en5] at hrow5 hcell5 hc5 hn5 hl5 hroom
  have hr5 := hrow5.row
  rw [← en5] at hr5
  have Hr5 := Lib.hid hr5; clear hr5 hrow5
  have En5 := Lib.hid en5; clear en5
  obtain ⟨q, eq⟩ : ∃ q, q = pageOf R s - 1 := ⟨_, rfl⟩
  have hqz : (pageOf R s : Int) - 1 = (q : Int) := by omega
  have hqi : (q : Int) < (R.length : Int) := by omega
  rw [← eq] at hcell5
  have Hqz := Lib.hid hqz; clear hqz
  have Eq := Lib.hid eq; clear eq
  have hYW := hB5
  refine wp_region_late 22 [0] (fun i => if i = 18 then some (Two w.heap.size (.slice (some ⟨g5, 0, none⟩) n5 c5) (.slice (some ⟨g', 0, none⟩) N cap')) else if i = 19 then some (CP w.heap.size (n5 + N) (pageAt R (pageOf R s - 1) ++ l)) else if i = 20 then some (One w.heap.size (n5 + N) (pageAt R (pageOf R s - 1) ++ l)) else none)
    (fun w' => w'.cell? ⟨w.heap.size, 0, none⟩ = some (.pointer (some ⟨bx, 0, none⟩)))
    (fun u w' => ∃ va a cap', w'.ownsRow 0 89 1 u (R.length - 1) (pvs.take q ++ ([va] ++ pvs.drop (q + 2))) ∧ CP w.heap.size (n5 + N) (pageAt R (pageOf R s - 1) ++ l) va w' ∧ Ext (· = g) Y w' ∧
      (∀ k, u.ownBlock = some k → k = g ∨ (Y.heap.size ≤ k ∧ va.ownBlock ≠ some k)) ∧ u = .slice a (R.length - 1) cap') fol (by kernel_rfl)
    (fun b _ hb w' h => below_cell (below_trans (below_trans hB5 hb) h) p3) (fun W hW hh => ?_)
  clear hh
  have hYW := below_trans hB5 hW
  have c1 : ∀ w1, Below W.heap.size W w1 → w1.cell? ⟨bx, 2, none⟩ = some (.slice (some ⟨g, 0, none⟩) R.length cap) := fun w1 h => below_cell (below_trans hYW h) p1
  have c3 : ∀ w1, Below W.heap.size W w1 → w1.cell? ⟨w.heap.size, 0, none⟩ = some (.pointer (some ⟨bx, 0, none⟩)) := fun w1 h => below_cell (below_trans hYW h) p3
  have c4 : ∀ w1, Below W.heap.size W w1 → w1.cell? ⟨w3.heap.size, 0, none⟩ = some (.slice (some ⟨g', 0, none⟩) N cap') := fun w1 h => below_cell (below_trans hYW h) hbl
  have c5' : ∀ w1, Below W.heap.size W w1 → w1.cell? ⟨g, q, none⟩ = some (.slice (some ⟨g5, 0, none⟩) n5 c5) := fun w1 h => below_cell (below_trans hYW h) hcell5
  simp only [List.take_succ_cons, List.take_zero, List.drop_succ_cons, List.drop_zero]
  repeat (first
    | (refine rl_move _ (by first | exact Or.inl rfl | exact Or.inr rfl) (by first | exact Or.inl rfl | exact Or.inr rfl) rfl ?_
       simp only [Act.put, Act.eval, Array.getD_eq_getD_getElem?, List.getElem?_toArray, List.getElem?_cons_zero, List.getElem?_cons_succ, Option.getD_some, List.setIfInBounds_toArray, List.set_cons_succ, List.set_cons_zero]
      )
    | (refine rl_small ?_ rfl rfl (fun w1 hb1 hf1 => ?_) ?_
       rotate_left
       (go_simp; (try simp (disch := omega) only [IntWalk.i64_quo, IntWalk.rem_in, IntWalk.i64_in, IntWalk.u64_in, IntWalk.u32_in, IntWalk.u8_in, IntWalk.toNatUp, IntWalk.iteOmega]); (try go_simp); rfl)
       simp only [Act.put, Act.eval, Array.getD_eq_getD_getElem?, List.getElem?_toArray, List.getElem?_cons_zero, List.getElem?_cons_succ, Option.getD_some, List.setIfInBounds_toArray, List.set_cons_succ, List.set_cons_zero]
      )
    | (refine rl_big ?_ rfl rfl (fun w1 hcb1 => ?_) ?_
       rotate_left
       ((try dsimp only at hcb1); go_simp; (try simp (disch := omega) only [IntWalk.i64_quo, IntWalk.rem_in, IntWalk.i64_in, IntWalk.u64_in, IntWalk.u32_in, IntWalk.u8_in, IntWalk.toNatUp, IntWalk.iteOmega]); (try go_simp); rfl)
       simp only [Act.put, Act.eval, Array.getD_eq_getD_getElem?, List.getElem?_toArray, List.getElem?_cons_zero, List.getElem?_cons_succ, Option.getD_some, List.setIfInBounds_toArray, List.set_cons_succ, List.set_cons_zero]
      ))
  have hrs := HF.out.rows
  rw [IntWalk.i64_in ((pageOf R s : Int) - 1) (by omega), Hqz.out]
  repeat (first
    | (refine rl_move _ (by first | exact Or.inl rfl | exact Or.inr rfl) (by first | exact Or.inl rfl | exact Or.inr rfl) rfl ?_
       simp only [Act.put, Act.eval, Array.getD_eq_getD_getElem?, List.getElem?_toArray, List.getElem?_cons_zero, List.getElem?_cons_succ, Option.getD_some, List.setIfInBounds_toArray, List.set_cons_succ, List.set_cons_zero]
      )
    | (refine rl_small ?_ rfl rfl (fun w1 hb1 hf1 => ?_) ?_
       rotate_left
       (go_simp; (try simp (disch := omega) only [IntWalk.i64_quo, IntWalk.rem_in, IntWalk.i64_in, IntWalk.u64_in, IntWalk.u32_in, IntWalk.u8_in, IntWalk.toNatUp, IntWalk.iteOmega]); (try go_simp); rfl)
       simp only [Act.put, Act.eval, Array.getD_eq_getD_getElem?, List.getElem?_toArray, List.getElem?_cons_zero, List.getElem?_cons_succ, Option.getD_some, List.setIfInBounds_toArray, List.set_cons_succ, List.set_cons_zero]
      )
    | (refine rl_big ?_ rfl rfl (fun w1 hcb1 => ?_) ?_
       rotate_left
       ((try dsimp only at hcb1); go_simp; (try simp (disch := omega) only [IntWalk.i64_quo, IntWalk.rem_in, IntWalk.i64_in, IntWalk.u64_in, IntWalk.u32_in, IntWalk.u8_in, IntWalk.toNatUp, IntWalk.iteOmega]); (try go_simp); rfl)
       simp only [Act.put, Act.eval, Array.getD_eq_getD_getElem?, List.getElem?_toArray, List.getElem?_cons_zero, List.getElem?_cons_succ, Option.getD_some, List.setIfInBounds_toArray, List.set_cons_succ, List.set_cons_zero]
      ))
  refine rl_make _ rfl (by exact Two.st _ _ _) rfl (fun w1 hb1 hf1 => ?_) ?_
  · have hb1' := hb1
    (unfold makes; go_simp; simp only [makesUpon])
    have h1 := e4.size; have h2 := hYW.size; have h3 := hb1'.size
    exact ⟨below_box _ _, _, rfl, by omega, row_new _ _ _⟩
  rintro u8 w8 hB8 ⟨gv8, rfl, hg8, hrow8⟩
  clear hrow8
  simp only [Act.put, Act.eval, Array.getD_eq_getD_getElem?, List.getElem?_toArray, List.getElem?_cons_zero, List.getElem?_cons_succ, Option.getD_some, List.setIfInBounds_toArray, List.set_cons_succ, List.set_cons_zero]
  refine rl_make _ rfl (by exact CP.st _ _ _) rfl (fun w1 hb1 hf1 => ?_) ?_
  · have hb1' := hb1
    have f8 : Two w.heap.size (.slice (some ⟨g5, 0, none⟩) n5 c5) (.slice (some ⟨g', 0, none⟩) N cap') (.slice (some ⟨gv8, 0, none⟩) 2 2) w1 := hf1 124 (by decide) (by simp)
    clear hf1
    (unfold makes; go_simp; simp only [makesUpon])
    obtain ⟨gx8, ex8, hgx8, hr8⟩ := f8
    have ex8 : gv8 = gx8 := by injection ex8 with h1 _ _; injection h1 with h1; injection h1
    subst ex8
    have hcB := below_trans hYW hb1'
    have ho1 := owns_below Hr5.out hcB
    have ho2 := owns_below Hol4.out hcB
    have hcs := hcB.size
    have he4 := e4.size
    refine (EU.concat_two gv8 2 g5 n5 c5 g' N cap' _ _ w1 (by rw [hr8.cell]; rfl) (by rw [hr8.cell]; rfl) (owns_length ho1) (owns_length ho2) (fun j u h => by have := owns_src ho1 j u h; rwa [Addr.add_lit, Nat.zero_add] at this) (fun j u h => by have := owns_src ho2 j u h; rwa [Addr.add_lit, Nat.zero_add] at this) (cellsOf_one (HM.out.pages _ hp1).one) (cellsOf_one Hone3.out) hn5 (by omega)).mono ?_
    rintro e w'' ⟨vc, rfl, hoc, hbc⟩
    have hoc := owns_base hoc (base' := w.heap.size) fun k hk => by have := (hoc.lt k hk).1; omega
    rw [← cellsOf_append] at hoc
    obtain ⟨gc, cc, rfl, hgc, -⟩ := owns_parts hoc (by omega)
    exact ⟨_, rfl, hbc, gc, cc, rfl, hgc, hoc⟩
  rintro u9 w9 hB9 ⟨g9, c9, rfl, hg9, hown9⟩
  clear hown9
  simp only [Act.put, Act.eval, Array.getD_eq_getD_getElem?, List.getElem?_toArray, List.getElem?_cons_zero, List.getElem?_cons_succ, Option.getD_some, List.setIfInBounds_toArray, List.set_cons_succ, List.set_cons_zero]
  refine rl_make _ rfl (by exact One.st _ _ _) rfl (fun w1 hb1 hf1 => ?_) ?_
  · have hb1' := hb1
    have f9 : CP w.heap.size (n5 + N) (pageAt R (pageOf R s - 1) ++ l) (.slice (some ⟨g9, 0, none⟩) (n5 + N) c9) w1 := hf1 125 (by decide) (by simp)
    clear hf1
    (unfold makes; go_simp; simp only [makesUpon])
    have hb2 := below_box w1 (.cells #[.slice (some ⟨g9, 0, none⟩) (n5 + N) c9] 89)
    have h1 := e4.size; have h2 := hYW.size; have h3 := hb1'.size
    exact ⟨hb2, w1.heap.size, _, rfl, by omega, row_new _ _ _, CP.st _ _ _ _ _ _ f9 hb2⟩
  rintro u10 w10 hB10 ⟨gv10, va, rfl, hg10, hrow10, hva⟩
  have Hrow10 := Lib.hid hrow10; clear hrow10
  have Hva := Lib.hid hva; clear hva
  simp only [Act.put, Act.eval, Array.getD_eq_getD_getElem?, List.getElem?_toArray, List.getElem?_cons_zero, List.getElem?_cons_succ, Option.getD_some, List.setIfInBounds_toArray, List.set_cons_succ, List.set_cons_zero]
  refine rl_late _ rfl rfl ?_ ?_
  · (unfold makes; go_simp; simp only [makesUpon])
    have hq2 : IntKind.i64.wrap ((pageOf R s : Int) + 1) = (q : Int) + 2 := by rw [IntWalk.i64_in _ (by omega)]; have := Hqz.out; omega
    have hq3 := Eq.out
    rw [hq2]
    have hB11 := below_trans hYW (below_trans (below_trans hB8 hB9) hB10)
    have hb6 := hB11.size
    have hw3 := e4.size
    have one6 : ∀ x ∈ [va], x.oneCell' = true := by
      obtain ⟨_, _, h1, -⟩ := Hva.out
      intro x hx
      obtain rfl := List.mem_singleton.1 hx
      rw [h1]; rfl
    refine (RU.rep21 0 g R.length cap q gv10 pvs [va] w10 (owns_below Hrows.out hB11) (by omega) (by omega) Hrow10.out (by omega) rfl one6 HM.out.rows_one).mono ?_
    rintro e w7 ⟨u, rfl, hu1, hu2, hu3⟩
    obtain ⟨a7, cap7, hs7, -⟩ := owns_shape hu1
    obtain ⟨ga, ca, ea, hga, hoa⟩ := Hva.out
    have hga6 : ga < w10.heap.size := owns_lt hoa (by rw [ea]; rfl)
    refine ⟨u, rfl, hu2.cell_some (below_cell hB11 p3) hbb3, va, hu1, ⟨ga, ca, ea, hga, owns_ext hoa hu2 ?_⟩, ?_, fun k hk => ?_, a7, cap7, hs7⟩
    · rw [ea]; intro k hk hh
      have hk : ga = k := Option.some.inj hk
      have hh : k = g := hh
      omega
    · exact (Ext.of_below (S := (· = g)) hB11).trans hu2 fun k _ h => h
    · rcases hu3 k hk with h | h
      · exact .inl h
      · refine .inr ⟨by omega, ?_⟩
        rw [ea]; intro hk; have hk : ga = k := Option.some.inj hk; omega
  rintro u7 w7 hcb7 ⟨va7, a7, cap7, hrow7, hva7, hx7, hbk7, rfl⟩
  have Hrow7 := Lib.hid hrow7; clear hrow7
  have Hva7 := Lib.hid hva7; clear hva7
  have Hbk7 := Lib.hid hbk7; clear hbk7
  simp only [Act.put, Act.eval, Array.getD_eq_getD_getElem?, List.getElem?_toArray, List.getElem?_cons_zero, List.getElem?_cons_succ, Option.getD_some, List.setIfInBounds_toArray, List.set_cons_succ, List.set_cons_zero]
  refine rl_nil ?_
  have r2 : w7.heap[bx]? = _ := hx7.heap p2 hne5
  have r1 : w7.cell? ⟨bx, 2, none⟩ = some (.slice (some ⟨g, 0, none⟩) R.length cap) := by simp [World.cell?, r2]
  have r4 : w7.frozen? ⟨bx, 2, none⟩ = false := by simp [World.frozen?, r2]
  go_wp2_with fail
  go_ret2
  have hq3 := Eq.out
  have hrem : removeR size R s = R.take q ++ ([pageAt R (pageOf R s - 1) ++ l] ++ R.drop (q + 2)) := by
    unfold removeR
    rw [if_pos ht]
    simp only [← El.out]
    rw [if_neg (by rw [Hlen.out]; omega), if_neg (by rw [Hlen.out]; exact Hnot.out), if_pos ⟨hp0, by rw [Hlen.out, ← En5.out]; omega⟩, hq3, show pageOf R s - 1 + 2 = pageOf R s + 1 by omega]
    rfl
  have htp := total_remove (size := size) s hR ht
  rw [hrem] at htp ⊢
  have hw3 := e4.size
  have hend := HM.out.rows_end (ms := [(pageAt R (pageOf R s - 1) ++ l)]) (vs := [va7]) (i := q) (j := (q + 2)) hR (by omega) (by omega) rfl e4 hx7 r2 (by congr 1; omega) (by simp only [List.length_cons, List.length_nil]; omega) Hrow7.out
    (fun q hq => by
      obtain rfl : q = 0 := by simpa using hq
      obtain ⟨ga, ca, rfl, hga, hoa⟩ := Hva7.out
      refine ⟨?_, (fun e he => (List.mem_append.1 he).elim ((HM.out.pages _ hp1).one e) (Hone3.out e))⟩
      show World.ownsRow _ 0 92 3 _ ((pageAt R (pageOf R s - 1) ++ l)).length _
      rw [show ((pageAt R (pageOf R s - 1) ++ l)).length = n5 + N from (by rw [List.length_append, Hlen.out, ← En5.out])]
      exact owns_base hoa fun k _ => Nat.zero_le _)
    (fun q hq k hk => by
      obtain rfl : q = 0 := by simpa using hq
      have hk : va7.ownBlock = some k := hk
      obtain ⟨ga, ca, ea, hga, hoa⟩ := Hva7.out
      have hk2 := hk
      rw [ea] at hk2
      have hk2 : ga = k := Option.some.inj hk2
      refine ⟨by omega, fun e => ?_⟩
      rcases Hbk7.out k e with h | ⟨_, h⟩
      · omega
      · exact h hk)
    (fun k hk => (Hbk7.out k hk).imp id fun h => h.1)
  exact ⟨by rw [← Ev.out]; rfl, _, _, hend.1, hend.2⟩
end Go.Proofs.Ytagcohpghgnalaa.U
namespace Go.Proofs.Ytagcohpghgnalaa.U
open Go.RowKit Go.RG Go.Hp Go.Pg Go.Proofs.Ytagcohpghgnalaa





set_option maxHeartbeats 1000000 in
set_option maxRecDepth 100000 in
/-- the page stays -/
theorem remove_keep (s : St) (bx size : Nat) (R : List (List Ent)) (hR : 0 < R.length) (hF : Fits size R) (hO : Ordered R) (ht : there R s = true) (h1 : 1 < (pageAt R (pageOf R s)).length)
    (hfew0 : fewB R size ((pageAt R (pageOf R s)).length - 1) ((pageOf R s : Int) + 1) = false) (hfew : fewB R size ((pageAt R (pageOf R s)).length - 1) ((pageOf R s : Int) - 1) = false)
    (S : Nat → Prop) (vr : Value) (pvs : List Value) (w : World) (hM : MemV w bx size R S vr pvs) :
    Calls Try.prog 26 #[.pointer (some ⟨bx, 0, none⟩), s.v] w (RemPost w bx size R (removeR size R s) S (ent (pageAt R (pageOf R s)) (entOf R s)).v) := by
  have HW := Lib.hid hfew; clear hfew
  have HW0 := Lib.hid hfew0; clear hfew0
  have hp := pageOf_lt (s := s) hR
  have hsz : (size : Int) ≠ 0 := by have := hF.lo; omega
  have hsz' : ((size : Int) == 0) = false := by simpa using hsz
  obtain ⟨m0, m1, m2⟩ := hM.cells
  obtain ⟨g, cap, rfl, hg, hc, hcm, hrow, hfr⟩ := hM.row hR
  obtain ⟨g2, cap2, hv2, hg2, hc2, hcm2, hpage, hone, -⟩ := (hM.pages _ hp).parts (hO.full _ hp)
  have hrp := hrow _ hp
  rw [hv2] at hrp
  have hB0 := below_box w (.cells #[.int .u64 s.t, .int .u64 s.s] 38)
  have hbx := block_lt_of_heap hM.str
  have hgx := hM.sr g rfl
  have hlp := hF.page _ hp
  have hsize := hF.hi
  have hPl := Lib.hid (place_some s bx size hsz R hR (by have := hF.rows; omega) hO (fun i hi => by have := hF.page i hi; omega) S (.slice (some ⟨g, 0, none⟩) R.length cap) pvs)
  have hel := entOf_le R s
  have HM := Lib.hid hM; clear hM
  have HF := Lib.hid hF; clear hF
  have HO := Lib.hid hO; clear hO
  have Hone := Lib.hid hone; clear hone
  have Hpage := Lib.hid hpage; clear hpage
  have Hrow := Lib.hid hrow; clear hrow
  have Hfr := Lib.hid hfr; clear hfr
  have hmz := HF.out.tot
  have hbb : ¬ bx = w.heap.size := by omega
  unfold St.v at hPl ⊢
  have hBb := below_trans (below_box w (.cells #[.pointer (some ⟨bx, 0, none⟩)] 29)) (below_box (w.alloc (.cells #[.pointer (some ⟨bx, 0, none⟩)] 29)) (.cells #[.int .u64 s.t, .int .u64 s.s] 38))
  go_enter Try.func26, Try.ntmps26
  go_wp2_with fail
  refine (hPl.out _ (HM.out.below hBb)).mono ?_
  rintro e w1 ⟨rfl, hB1⟩
  rw [ht]
  have hB2 := below_trans hBb hB1
  have el : entOf R s < (pageAt R (pageOf R s)).length := by
    have := (isIn_iff.1 ht).1
    rwa [length_keys] at this
  have eli : (entOf R s : Int) < ((pageAt R (pageOf R s)).length : Int) := by omega
  have hv := (Hpage.out _ el).2.2
  have h1v := Hone.out _ el
  obtain ⟨v, ev⟩ : ∃ v, v = (ent (pageAt R (pageOf R s)) (entOf R s)).v := ⟨_, rfl⟩
  rw [← ev] at hv h1v
  have Ev := Lib.hid ev; clear ev
  have n0 := below_cell hB2 m0
  have n1 := below_cell hB2 m1
  have n2 := below_cell hB2 m2
  have n3 := below_cell hB2 hrp
  have n4 := below_cell hB2 hv
  have HM1 := Lib.hid (HM.out.below hB2)
  have f1 := HM1.out.frozen 1
  have d0 : w1.cell? ⟨w.heap.size, 0, none⟩ = some (.pointer (some ⟨bx, 0, none⟩)) := below_cell hB1 (by simp)
  have hpos : (0 : Int) < (total R : Int) := by
    have := total_split R hp
    omega
  have hne1 : ¬ bx = w.heap.size := by omega
  have hne2 : ¬ w.heap.size = bx := by omega
  have hs1 : w.heap.size + 1 < w1.heap.size := by have := hB1.size; simp at this; omega
  have hne3 : ¬ bx = w1.heap.size := by omega
  have hne5 : ¬ bx = g := fun h => hgx.2 h.symm
  have hne6 : ¬ g = bx := hgx.2
  have hne7 : ¬ g2 = bx := (HM.out.sp _ hp g2 (by rw [hv2]; rfl)).2.1
  go_wp2_with fail
  obtain ⟨x1, x2, x4⟩ := HM.out.count0 hB2 (.int .i64 ((total R : Int) - 1))
  have x3 : (w1.setCell ⟨bx, 1, none⟩ (.int .i64 ((total R : Int) - 1))).cell? ⟨w.heap.size, 0, none⟩ = some (.pointer (some ⟨bx, 0, none⟩)) := (Ext.setCell (S := (· = bx)) rfl _).cell_some d0 hne2
  generalize World.setCell w1 _ _ = X at x1 x2 x3 x4 ⊢
  have hxs : w.heap.size + 1 < X.heap.size := by omega
  have y0 : X.cell? ⟨bx, 0, none⟩ = some (.int .i64 size) := by simp [World.cell?, x2]
  have y2 : X.cell? ⟨bx, 2, none⟩ = some (.slice (some ⟨g, 0, none⟩) R.length cap) := by simp [World.cell?, x2]
  have hpx := (HM.out.pages _ hp).ext x1 (fun k hk => ((HM.out.sp _ hp k hk).2.1))
  rw [hv2] at hpx
  refine (clone_page (w.heap.size + 2) _ g2 _ cap2 rfl (HO.out.full _ hp) (by omega) X (by omega) hpx).mono ?_
  clear hpx n0 n1 n2 n3 n4
  rintro e w2 ⟨v', rfl, hB3, g', cap', rfl, hg', hown⟩
  have Hown := Lib.hid hown; clear hown
  go_wp2_with fail
  refine (EU.delete_any (w.heap.size + 2) g' _ cap' (entOf R s) _ w2 Hown.out (by omega) el (cellsOf_one (HM.out.pages _ hp).one)).mono ?_
  rintro e w3 ⟨rfl, hl3, hx3⟩
  have hg'3 : g' < w3.heap.size := owns_lt hl3 rfl
  have e3 : Ext (· = bx) w w3 := (x1.trans (Ext.of_below (S := (· = bx)) hB3) fun k _ hk => hk).trans hx3 (fun k (hk : k < w.heap.size) (h : k = g') => by exfalso; omega)
  have X3 : Ext (· = g') X w3 := (Ext.of_below (S := (· = g')) hB3).trans hx3 fun k _ hk => hk
  obtain ⟨l, el'⟩ : ∃ l, l = (pageAt R (pageOf R s)).take (entOf R s) ++ (pageAt R (pageOf R s)).drop (entOf R s + 1) := ⟨_, rfl⟩
  obtain ⟨N, eN⟩ : ∃ N, N = (pageAt R (pageOf R s)).length - 1 := ⟨_, rfl⟩
  have hlen : l.length = N := by
    rw [el', eN]
    simp only [List.length_append, List.length_take, List.length_drop]; omega
  have hN : N + 1 = (pageAt R (pageOf R s)).length := by omega
  have ecl : (cellsOf (pageAt R (pageOf R s))).take (entOf R s * 3) ++ (cellsOf (pageAt R (pageOf R s))).drop ((entOf R s + 1) * 3) = cellsOf l := by
    rw [el', cellsOf_append, ← cellsOf_take, ← cellsOf_drop]
  have hone3 : ∀ e ∈ l, e.v.oneCell' = true := fun e he => by
    rw [el'] at he
    rcases List.mem_append.1 he with h | h
    · exact (HM.out.pages _ hp).one e (List.mem_of_mem_take h)
    · exact (HM.out.pages _ hp).one e (List.mem_of_mem_drop h)
  rw [ecl] at hl3
  rw [← eN] at hl3 ⊢
  have hNc : N ≤ cap' := by
    obtain ⟨_, _, hs, h1, _⟩ := owns_shape hl3
    injection hs with _ _ hs
    omega
  have hN63 : N ≤ 64 := by omega
  have Hone3 := Lib.hid hone3; clear hone3
  have El := Lib.hid el'; clear el'
  have Hlen := Lib.hid hlen; clear hlen
  have Hol := Lib.hid hl3; clear hl3
  have EN := Lib.hid eN; clear eN
  have HN := Lib.hid hN; clear hN
  clear ecl
  have hbg : ¬ bx = g' := by omega
  have hgg : ¬ g = g' := by omega
  have hbb' : ¬ w.heap.size = g' := by omega
  have hbb3 : ¬ w.heap.size = g := by omega
  have q2 : w3.heap[bx]? = _ := X3.heap x2 hbg
  have q0 : w3.cell? ⟨bx, 0, none⟩ = some (.int .i64 size) := X3.cell_some y0 hbg
  have q1 : w3.cell? ⟨bx, 2, none⟩ = some (.slice (some ⟨g, 0, none⟩) R.length cap) := X3.cell_some y2 hbg
  have q3 : w3.cell? ⟨w.heap.size, 0, none⟩ = some (.pointer (some ⟨bx, 0, none⟩)) := X3.cell_some x3 hbb'
  have hN0 : 0 < N := by have := HN.out; omega
  have hNz : ((N : Int) == 0) = false := by rw [beq_eq_false_iff_ne]; omega
  go_wp2_with fail
  have hBx := below_box w3 (.cells #[.slice (some ⟨g', 0, none⟩) N cap'] 89)
  have hbl : (w3.alloc (.cells #[.slice (some ⟨g', 0, none⟩) N cap'] 89)).cell? ⟨w3.heap.size, 0, none⟩ = some (.slice (some ⟨g', 0, none⟩) N cap') := by simp
  have hY2 : (w3.alloc (.cells #[.slice (some ⟨g', 0, none⟩) N cap'] 89)).heap.size = w3.heap.size + 1 := by simp
  generalize World.alloc w3 (.cells #[.slice (some ⟨g', 0, none⟩) N cap'] 89) = Y at hBx hbl hY2 ⊢
  have e4 : Ext (· = bx) w Y := e3.trans (Ext.of_below (S := (· = bx)) hBx) fun k _ hk => hk
  have p2 : Y.heap[bx]? = _ := below_heap hBx q2
  have p0 := below_cell hBx q0
  have p1 := below_cell hBx q1
  have p3 := below_cell hBx q3
  have Hol4 := Lib.hid (owns_below Hol.out hBx)
  have Hrows := Lib.hid (owns_ext HM.out.rows e4 (fun k hk => (HM.out.sr k hk).2))
  clear q0 q1 q2 q3
  have Hlens := Lib.hid (HM.out.lens e4)
  rw [IntWalk.wrap64_in _ (by have := HF.out.rows; omega)]
  refine (few_any _ (by have := HF.out.rows; omega) w.heap.size w3.heap.size bx size g cap N cap' (some ⟨g', 0, none⟩) R HF.out.hi (by omega) HF.out.rows (fun i hi => by have := HF.out.page i hi; have := HF.out.hi; omega) pvs Y p3 hbl p0 p1 (fun i hi => by obtain ⟨a, c, -, h⟩ := Hlens.out i hi; exact ⟨a, c, h⟩)).mono ?_
  rintro e Y1 ⟨rfl, hB5⟩
  rw [EN.out, HW0.out]
  go_wp2_with fail
  have u0 := below_cell hB5 p0
  have u1 := below_cell hB5 p1
  have u3 := below_cell hB5 p3
  have ubl := below_cell hB5 hbl
  rw [IntWalk.wrap64_in _ (by have := HF.out.rows; omega)]
  refine (few_any _ (by have := HF.out.rows; omega) w.heap.size w3.heap.size bx size g cap N cap' (some ⟨g', 0, none⟩) R HF.out.hi (by omega) HF.out.rows (fun i hi => by have := HF.out.page i hi; have := HF.out.hi; omega) pvs Y1 u3 ubl u0 u1 (fun i hi => by obtain ⟨a, c, -, h⟩ := Hlens.out i hi; exact ⟨a, c, below_cell hB5 h⟩)).mono ?_
  rintro e Y2 ⟨rfl, hB6⟩
  rw [EN.out, HW.out]
  go_wp2_with fail
  clear u0 u1 u3 ubl
  have hB5 := below_trans hB5 hB6
  have v1 := below_cell hB5 p1
  have v3 := below_cell hB5 p3
  have vbl := below_cell hB5 hbl
  have vrp := below_cell hB5 (show Y.cell? ⟨g, pageOf R s, none⟩ = some (.slice (some ⟨g2, 0, none⟩) (pageAt R (pageOf R s)).length cap2) from e4.cell_some hrp hgx.2)
  have vfz : ∀ j, Y2.frozen? ⟨g, j, none⟩ = false := fun j => by
    have h := Hfr.out j
    have hh : Y2.heap[g]? = w.heap[g]? := (hB5.block g (by have := e4.size; omega)).trans (e4.block g hg hgx.2)
    simp only [World.frozen?] at h ⊢
    rw [hh]
    exact h
  refine wp_region_rg_tail 6 (fun _ => none) fol (by kernel_rfl) (fun W hW hh => ?_)
  have hfzW : W.frozen? ⟨g, pageOf R s, none⟩ = false := by
    have h := vfz (pageOf R s)
    simp only [World.frozen?] at h ⊢
    rw [hh]
    exact h
  clear hh vfz
  have hYW := below_trans hB5 hW
  have c1 : ∀ w1, Below W.heap.size W w1 → w1.cell? ⟨bx, 2, none⟩ = some (.slice (some ⟨g, 0, none⟩) R.length cap) := fun w1 h => below_cell (below_trans hYW h) p1
  have c3 : ∀ w1, Below W.heap.size W w1 → w1.cell? ⟨w.heap.size, 0, none⟩ = some (.pointer (some ⟨bx, 0, none⟩)) := fun w1 h => below_cell (below_trans hYW h) p3
  have c4 : ∀ w1, Below W.heap.size W w1 → w1.cell? ⟨w3.heap.size, 0, none⟩ = some (.slice (some ⟨g', 0, none⟩) N cap') := fun w1 h => below_cell (below_trans hYW h) hbl
  have c5 := below_cell hW vrp
  have hp2 : (pageOf R s : Int) < (R.length : Int) := by omega
  simp only [List.take_succ_cons, List.take_zero, List.drop_succ_cons, List.drop_zero]
  repeat (first
    | (refine lex_move _ (by first | exact Or.inl rfl | exact Or.inr rfl) rfl rfl ?_
       simp only [Act.put, Act.eval, Array.getD_eq_getD_getElem?, List.getElem?_toArray, List.getElem?_cons_zero, List.getElem?_cons_succ, Option.getD_some, List.setIfInBounds_toArray, List.set_cons_succ, List.set_cons_zero]
      )
    | (refine lex_float ?_ rfl rfl (fun w1 hb1 hf1 => ?_) ?_
       rotate_left
       (go_simp; (try simp (disch := omega) only [IntWalk.i64_quo, IntWalk.rem_in, IntWalk.i64_in, IntWalk.u64_in, IntWalk.u32_in, IntWalk.u8_in, IntWalk.toNatUp, IntWalk.iteOmega]); (try go_simp); rfl)
       simp only [Act.put, Act.eval, Array.getD_eq_getD_getElem?, List.getElem?_toArray, List.getElem?_cons_zero, List.getElem?_cons_succ, Option.getD_some, List.setIfInBounds_toArray, List.set_cons_succ, List.set_cons_zero]
      )
    | (refine lex_skip rfl ?_
       simp only [Act.put, Act.eval, Array.getD_eq_getD_getElem?, List.getElem?_toArray, List.getElem?_cons_zero, List.getElem?_cons_succ, Option.getD_some, List.setIfInBounds_toArray, List.set_cons_succ, List.set_cons_zero]
      ))
  refine lex_nil ?_
  go_wp2_with fail
  go_ret2
  have hrem : removeR size R s = R.set (pageOf R s) l := by
    have hw1 := HW.out
    have hw0 := HW0.out
    rw [← EN.out] at hw0 hw1
    unfold removeR
    rw [if_pos ht]
    simp only [← El.out]
    rw [if_neg (by rw [Hlen.out]; omega), Hlen.out, if_neg, if_neg]
    · rintro ⟨h1, h2⟩
      have : fewB R size N ((pageOf R s : Int) - 1) = true := by
        unfold fewB
        rw [Bool.and_eq_true, Bool.and_eq_true, decide_eq_true_eq, decide_eq_true_eq, decide_eq_true_eq, show ((pageOf R s : Int) - 1).toNat = pageOf R s - 1 by omega]
        exact ⟨by omega, by omega, h2⟩
      rw [this] at hw1
      cases hw1
    · rintro ⟨h1, h2⟩
      have : fewB R size N ((pageOf R s : Int) + 1) = true := by
        unfold fewB
        rw [Bool.and_eq_true, Bool.and_eq_true, decide_eq_true_eq, decide_eq_true_eq, decide_eq_true_eq, show ((pageOf R s : Int) + 1).toNat = pageOf R s + 1 by omega]
        exact ⟨by omega, by omega, h2⟩
      rw [this] at hw0
      cases hw0
  have htp := total_remove (size := size) s hR ht
  rw [hrem] at htp ⊢
  have e6 : Ext (· = bx) w W := e4.trans (Ext.of_below (S := (· = bx)) hYW) fun k _ h => h
  have hws := e6.size
  have hoW := owns_below Hol4.out hYW
  refine ⟨by rw [← Ev.out]; rfl, _, _, HM.out.swap (W := W.setCell ⟨g, pageOf R s, none⟩ (.slice (some ⟨g', 0, none⟩) N cap')) (u := .slice (some ⟨g', 0, none⟩) N cap') (l := l) hp ?_ ?_ (fun k k1 k2 k3 k4 => ?_) ?_ (fun k hk => by have hk : g' = k := Option.some.inj hk; omega), ?_⟩
  · rw [heap_setCell_ne _ _ _ _ hne5, below_heap hYW p2, show ((total R : Int) - 1) = (total (R.set (pageOf R s) l) : Int) by omega]
  · exact heap_setCell_eq _ (e6.block g hg hgx.2)
  · rw [heap_setCell_ne _ _ _ _ k4]
    exact e6.block k k2 k3
  · refine ⟨?_, Hone3.out⟩
    show World.ownsRow _ 0 92 3 _ l.length _
    rw [Hlen.out]
    exact owns_base (owns_of_block hoW fun k hk => heap_setCell_ne _ _ _ _ (by have hk : g' = k := Option.some.inj hk; show k ≠ g; omega)) fun k _ => Nat.zero_le _
  · exact ⟨(e6.mono (S' := WrW w bx) fun k _ hk => .inl hk).trans (Ext.setCell (S := (· = g)) rfl _) fun k _ hk => (by obtain rfl : k = g := hk; exact HM.out.wg rfl), fun k hk => .inl (HM.out.wg hk)⟩

/-- Remove, whatever there is -/
theorem remove_fine (s : St) (bx size : Nat) (R : List (List Ent)) (hR : 0 < R.length) (hF : Fits size R) (hO : Ordered R) (ht : there R s = true)
    (S : Nat → Prop) (vr : Value) (pvs : List Value) (w : World) (hM : MemV w bx size R S vr pvs) :
    Calls Try.prog 26 #[.pointer (some ⟨bx, 0, none⟩), s.v] w (RemPost w bx size R (removeR size R s) S (ent (pageAt R (pageOf R s)) (entOf R s)).v) := by
  have h0 := hO.full _ (pageOf_lt (s := s) hR)
  rcases Nat.lt_or_ge 1 (pageAt R (pageOf R s)).length with h | h
  · cases h1 : fewB R size ((pageAt R (pageOf R s)).length - 1) ((pageOf R s : Int) + 1)
    · cases h2 : fewB R size ((pageAt R (pageOf R s)).length - 1) ((pageOf R s : Int) - 1)
      · exact remove_keep s bx size R hR hF hO ht h h1 h2 S vr pvs w hM
      · exact remove_prev s bx size R hR hF hO ht h h1 h2 S vr pvs w hM
    · exact remove_next s bx size R hR hF hO ht h h1 S vr pvs w hM
  · exact remove_empty s bx size R hR hF hO ht (by omega) S vr pvs w hM
theorem remove_any (s : St) (bx size : Nat) (R : List (List Ent)) (hR : 0 < R.length) (hF : Fits size R) (hO : Ordered R) (ht : there R s = true)
    (S : Nat → Prop) (vr : Value) (pvs : List Value) (w : World) (hM : MemV w bx size R S vr pvs) :
    Calls Try.prog 26 #[.pointer (some ⟨bx, 0, none⟩), s.v] w fun e w' => e = .returned (.tuple #[(ent (pageAt R (pageOf R s)) (entOf R s)).v, .bool true]) ∧ ∃ vr' pvs', MemV w' bx size (removeR size R s) (fun k => S k ∨ w.heap.size ≤ k) vr' pvs' ∧ Ext S w w' :=
  (remove_fine s bx size R hR hF hO ht S vr pvs w hM).mono fun e w' ⟨h1, vr', pvs', h2, h3⟩ => ⟨h1, vr', pvs', h2, h3.ext.mono fun k _ hk => hM.wr k hk⟩
end Go.Proofs.Ytagcohpghgnalaa.U
