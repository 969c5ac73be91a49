/-
  The walk of Remove where no neighbour takes it in; Remove, whatever there is (V: uint64).
-/
import Derived.Test.YtagcohpghgnalaaCW5dU
set_option linter.unusedSimpArgs false
set_option linter.unusedVariables false
namespace Go.Proofs.Ytagcohpghgnalaa.U
open Go.RowKit Go.RG Go.Hp Go.Pg Go.Proofs.Ytagcohpghgnalaa





set_option maxHeartbeats 1000000 in
set_option maxRecDepth 100000 in
/-- the page stays -/
theorem remove_keep (s : St) (bx size : Nat) (R : List (List Ent)) (hR : 0 < R.length) (hF : Fits size R) (hO : Ordered R) (ht : there R s = true) (h1 : 1 < (pageAt R (pageOf R s)).length)
    (hfew0 : fewB R size ((pageAt R (pageOf R s)).length - 1) ((pageOf R s : Int) + 1) = false) (hfew : fewB R size ((pageAt R (pageOf R s)).length - 1) ((pageOf R s : Int) - 1) = false)
    (S : Nat → Prop) (vr : Value) (pvs : List Value) (w : World) (hM : MemV w bx size R S vr pvs) :
    Calls Try.prog 26 #[.pointer (some ⟨bx, 0, none⟩), s.v] w (RemPost w bx size R (removeR size R s) S (ent (pageAt R (pageOf R s)) (entOf R s)).v) := by
  have HW := Lib.hid hfew; clear hfew
  have HW0 := Lib.hid hfew0; clear hfew0
  have hp := pageOf_lt (s := s) hR
  have hsz : (size : Int) ≠ 0 := by have := hF.lo; omega
  have hsz' : ((size : Int) == 0) = false := by simpa using hsz
  obtain ⟨m0, m1, m2⟩ := hM.cells
  obtain ⟨g, cap, rfl, hg, hc, hcm, hrow, hfr⟩ := hM.row hR
  obtain ⟨g2, cap2, hv2, hg2, hc2, hcm2, hpage, hone, -⟩ := (hM.pages _ hp).parts (hO.full _ hp)
  have hrp := hrow _ hp
  rw [hv2] at hrp
  have hB0 := below_box w (.cells #[.int .u64 s.t, .int .u64 s.s] 38)
  have hbx := block_lt_of_heap hM.str
  have hgx := hM.sr g rfl
  have hlp := hF.page _ hp
  have hsize := hF.hi
  have hPl := Lib.hid (place_some s bx size hsz R hR (by have := hF.rows; omega) hO (fun i hi => by have := hF.page i hi; omega) S (.slice (some ⟨g, 0, none⟩) R.length cap) pvs)
  have hel := entOf_le R s
  have HM := Lib.hid hM; clear hM
  have HF := Lib.hid hF; clear hF
  have HO := Lib.hid hO; clear hO
  have Hone := Lib.hid hone; clear hone
  have Hpage := Lib.hid hpage; clear hpage
  have Hrow := Lib.hid hrow; clear hrow
  have Hfr := Lib.hid hfr; clear hfr
  have hmz := HF.out.tot
  have hbb : ¬ bx = w.heap.size := by omega
  unfold St.v at hPl ⊢
  have hBb := below_trans (below_box w (.cells #[.pointer (some ⟨bx, 0, none⟩)] 29)) (below_box (w.alloc (.cells #[.pointer (some ⟨bx, 0, none⟩)] 29)) (.cells #[.int .u64 s.t, .int .u64 s.s] 38))
  go_enter Try.func26, Try.ntmps26
  go_wp2_with fail
  refine (hPl.out _ (HM.out.below hBb)).mono ?_
  rintro e w1 ⟨rfl, hB1⟩
  rw [ht]
  have hB2 := below_trans hBb hB1
  have el : entOf R s < (pageAt R (pageOf R s)).length := by
    have := (isIn_iff.1 ht).1
    rwa [length_keys] at this
  have eli : (entOf R s : Int) < ((pageAt R (pageOf R s)).length : Int) := by omega
  have hv := (Hpage.out _ el).2.2
  have h1v := Hone.out _ el
  obtain ⟨v, ev⟩ : ∃ v, v = (ent (pageAt R (pageOf R s)) (entOf R s)).v := ⟨_, rfl⟩
  rw [← ev] at hv h1v
  have Ev := Lib.hid ev; clear ev
  have n0 := below_cell hB2 m0
  have n1 := below_cell hB2 m1
  have n2 := below_cell hB2 m2
  have n3 := below_cell hB2 hrp
  have n4 := below_cell hB2 hv
  have HM1 := Lib.hid (HM.out.below hB2)
  have f1 := HM1.out.frozen 1
  have d0 : w1.cell? ⟨w.heap.size, 0, none⟩ = some (.pointer (some ⟨bx, 0, none⟩)) := below_cell hB1 (by simp)
  have hpos : (0 : Int) < (total R : Int) := by
    have := total_split R hp
    omega
  have hne1 : ¬ bx = w.heap.size := by omega
  have hne2 : ¬ w.heap.size = bx := by omega
  have hs1 : w.heap.size + 1 < w1.heap.size := by have := hB1.size; simp at this; omega
  have hne3 : ¬ bx = w1.heap.size := by omega
  have hne5 : ¬ bx = g := fun h => hgx.2 h.symm
  have hne6 : ¬ g = bx := hgx.2
  have hne7 : ¬ g2 = bx := (HM.out.sp _ hp g2 (by rw [hv2]; rfl)).2.1
  go_wp2_with fail
  obtain ⟨x1, x2, x4⟩ := HM.out.count0 hB2 (.int .i64 ((total R : Int) - 1))
  have x3 : (w1.setCell ⟨bx, 1, none⟩ (.int .i64 ((total R : Int) - 1))).cell? ⟨w.heap.size, 0, none⟩ = some (.pointer (some ⟨bx, 0, none⟩)) := (Ext.setCell (S := (· = bx)) rfl _).cell_some d0 hne2
  generalize World.setCell w1 _ _ = X at x1 x2 x3 x4 ⊢
  have hxs : w.heap.size + 1 < X.heap.size := by omega
  have y0 : X.cell? ⟨bx, 0, none⟩ = some (.int .i64 size) := by simp [World.cell?, x2]
  have y2 : X.cell? ⟨bx, 2, none⟩ = some (.slice (some ⟨g, 0, none⟩) R.length cap) := by simp [World.cell?, x2]
  have hpx := (HM.out.pages _ hp).ext x1 (fun k hk => ((HM.out.sp _ hp k hk).2.1))
  rw [hv2] at hpx
  refine (clone_page (w.heap.size + 2) _ g2 _ cap2 rfl (HO.out.full _ hp) (by omega) X (by omega) hpx).mono ?_
  clear hpx n0 n1 n2 n3 n4
  rintro e w2 ⟨v', rfl, hB3, g', cap', rfl, hg', hown⟩
  have Hown := Lib.hid hown; clear hown
  go_wp2_with fail
  refine (EU.delete_any (w.heap.size + 2) g' _ cap' (entOf R s) _ w2 Hown.out (by omega) el (cellsOf_one (HM.out.pages _ hp).one)).mono ?_
  rintro e w3 ⟨rfl, hl3, hx3⟩
  have hg'3 : g' < w3.heap.size := owns_lt hl3 rfl
  have e3 : Ext (· = bx) w w3 := (x1.trans (Ext.of_below (S := (· = bx)) hB3) fun k _ hk => hk).trans hx3 (fun k (hk : k < w.heap.size) (h : k = g') => by exfalso; omega)
  have X3 : Ext (· = g') X w3 := (Ext.of_below (S := (· = g')) hB3).trans hx3 fun k _ hk => hk
  obtain ⟨l, el'⟩ : ∃ l, l = (pageAt R (pageOf R s)).take (entOf R s) ++ (pageAt R (pageOf R s)).drop (entOf R s + 1) := ⟨_, rfl⟩
  obtain ⟨N, eN⟩ : ∃ N, N = (pageAt R (pageOf R s)).length - 1 := ⟨_, rfl⟩
  have hlen : l.length = N := by
    rw [el', eN]
    simp only [List.length_append, List.length_take, List.length_drop]; omega
  have hN : N + 1 = (pageAt R (pageOf R s)).length := by omega
  have ecl : (cellsOf (pageAt R (pageOf R s))).take (entOf R s * 3) ++ (cellsOf (pageAt R (pageOf R s))).drop ((entOf R s + 1) * 3) = cellsOf l := by
    rw [el', cellsOf_append, ← cellsOf_take, ← cellsOf_drop]
  have hone3 : ∀ e ∈ l, e.v.oneCell' = true := fun e he => by
    rw [el'] at he
    rcases List.mem_append.1 he with h | h
    · exact (HM.out.pages _ hp).one e (List.mem_of_mem_take h)
    · exact (HM.out.pages _ hp).one e (List.mem_of_mem_drop h)
  rw [ecl] at hl3
  rw [← eN] at hl3 ⊢
  have hNc : N ≤ cap' := by
    obtain ⟨_, _, hs, h1, _⟩ := owns_shape hl3
    injection hs with _ _ hs
    omega
  have hN63 : N ≤ 64 := by omega
  have Hone3 := Lib.hid hone3; clear hone3
  have El := Lib.hid el'; clear el'
  have Hlen := Lib.hid hlen; clear hlen
  have Hol := Lib.hid hl3; clear hl3
  have EN := Lib.hid eN; clear eN
  have HN := Lib.hid hN; clear hN
  clear ecl
  have hbg : ¬ bx = g' := by omega
  have hgg : ¬ g = g' := by omega
  have hbb' : ¬ w.heap.size = g' := by omega
  have hbb3 : ¬ w.heap.size = g := by omega
  have q2 : w3.heap[bx]? = _ := X3.heap x2 hbg
  have q0 : w3.cell? ⟨bx, 0, none⟩ = some (.int .i64 size) := X3.cell_some y0 hbg
  have q1 : w3.cell? ⟨bx, 2, none⟩ = some (.slice (some ⟨g, 0, none⟩) R.length cap) := X3.cell_some y2 hbg
  have q3 : w3.cell? ⟨w.heap.size, 0, none⟩ = some (.pointer (some ⟨bx, 0, none⟩)) := X3.cell_some x3 hbb'
  have hN0 : 0 < N := by have := HN.out; omega
  have hNz : ((N : Int) == 0) = false := by rw [beq_eq_false_iff_ne]; omega
  go_wp2_with fail
  have hBx := below_box w3 (.cells #[.slice (some ⟨g', 0, none⟩) N cap'] 89)
  have hbl : (w3.alloc (.cells #[.slice (some ⟨g', 0, none⟩) N cap'] 89)).cell? ⟨w3.heap.size, 0, none⟩ = some (.slice (some ⟨g', 0, none⟩) N cap') := by simp
  have hY2 : (w3.alloc (.cells #[.slice (some ⟨g', 0, none⟩) N cap'] 89)).heap.size = w3.heap.size + 1 := by simp
  generalize World.alloc w3 (.cells #[.slice (some ⟨g', 0, none⟩) N cap'] 89) = Y at hBx hbl hY2 ⊢
  have e4 : Ext (· = bx) w Y := e3.trans (Ext.of_below (S := (· = bx)) hBx) fun k _ hk => hk
  have p2 : Y.heap[bx]? = _ := below_heap hBx q2
  have p0 := below_cell hBx q0
  have p1 := below_cell hBx q1
  have p3 := below_cell hBx q3
  have Hol4 := Lib.hid (owns_below Hol.out hBx)
  have Hrows := Lib.hid (owns_ext HM.out.rows e4 (fun k hk => (HM.out.sr k hk).2))
  clear q0 q1 q2 q3
  have Hlens := Lib.hid (HM.out.lens e4)
  rw [IntWalk.wrap64_in _ (by have := HF.out.rows; omega)]
  refine (few_any _ (by have := HF.out.rows; omega) w.heap.size w3.heap.size bx size g cap N cap' (some ⟨g', 0, none⟩) R HF.out.hi (by omega) HF.out.rows (fun i hi => by have := HF.out.page i hi; have := HF.out.hi; omega) pvs Y p3 hbl p0 p1 (fun i hi => by obtain ⟨a, c, -, h⟩ := Hlens.out i hi; exact ⟨a, c, h⟩)).mono ?_
  rintro e Y1 ⟨rfl, hB5⟩
  rw [EN.out, HW0.out]
  go_wp2_with fail
  have u0 := below_cell hB5 p0
  have u1 := below_cell hB5 p1
  have u3 := below_cell hB5 p3
  have ubl := below_cell hB5 hbl
  rw [IntWalk.wrap64_in _ (by have := HF.out.rows; omega)]
  refine (few_any _ (by have := HF.out.rows; omega) w.heap.size w3.heap.size bx size g cap N cap' (some ⟨g', 0, none⟩) R HF.out.hi (by omega) HF.out.rows (fun i hi => by have := HF.out.page i hi; have := HF.out.hi; omega) pvs Y1 u3 ubl u0 u1 (fun i hi => by obtain ⟨a, c, -, h⟩ := Hlens.out i hi; exact ⟨a, c, below_cell hB5 h⟩)).mono ?_
  rintro e Y2 ⟨rfl, hB6⟩
  rw [EN.out, HW.out]
  go_wp2_with fail
  clear u0 u1 u3 ubl
  have hB5 := below_trans hB5 hB6
  have v1 := below_cell hB5 p1
  have v3 := below_cell hB5 p3
  have vbl := below_cell hB5 hbl
  have vrp := below_cell hB5 (show Y.cell? ⟨g, pageOf R s, none⟩ = some (.slice (some ⟨g2, 0, none⟩) (pageAt R (pageOf R s)).length cap2) from e4.cell_some hrp hgx.2)
  have vfz : ∀ j, Y2.frozen? ⟨g, j, none⟩ = false := fun j => by
    have h := Hfr.out j
    have hh : Y2.heap[g]? = w.heap[g]? := (hB5.block g (by have := e4.size; omega)).trans (e4.block g hg hgx.2)
    simp only [World.frozen?] at h ⊢
    rw [hh]
    exact h
  refine wp_region_rg_tail 6 (fun _ => none) fol (by kernel_rfl) (fun W hW hh => ?_)
  have hfzW : W.frozen? ⟨g, pageOf R s, none⟩ = false := by
    have h := vfz (pageOf R s)
    simp only [World.frozen?] at h ⊢
    rw [hh]
    exact h
  clear hh vfz
  have hYW := below_trans hB5 hW
  have c1 : ∀ w1, Below W.heap.size W w1 → w1.cell? ⟨bx, 2, none⟩ = some (.slice (some ⟨g, 0, none⟩) R.length cap) := fun w1 h => below_cell (below_trans hYW h) p1
  have c3 : ∀ w1, Below W.heap.size W w1 → w1.cell? ⟨w.heap.size, 0, none⟩ = some (.pointer (some ⟨bx, 0, none⟩)) := fun w1 h => below_cell (below_trans hYW h) p3
  have c4 : ∀ w1, Below W.heap.size W w1 → w1.cell? ⟨w3.heap.size, 0, none⟩ = some (.slice (some ⟨g', 0, none⟩) N cap') := fun w1 h => below_cell (below_trans hYW h) hbl
  have c5 := below_cell hW vrp
  have hp2 : (pageOf R s : Int) < (R.length : Int) := by omega
  simp only [List.take_succ_cons, List.take_zero, List.drop_succ_cons, List.drop_zero]
  repeat (first
    | (refine lex_move _ (by first | exact Or.inl rfl | exact Or.inr rfl) rfl rfl ?_
       simp only [Act.put, Act.eval, Array.getD_eq_getD_getElem?, List.getElem?_toArray, List.getElem?_cons_zero, List.getElem?_cons_succ, Option.getD_some, List.setIfInBounds_toArray, List.set_cons_succ, List.set_cons_zero]
      )
    | (refine lex_float ?_ rfl rfl (fun w1 hb1 hf1 => ?_) ?_
       rotate_left
       (go_simp; (try simp (disch := omega) only [IntWalk.i64_quo, IntWalk.rem_in, IntWalk.i64_in, IntWalk.u64_in, IntWalk.u32_in, IntWalk.u8_in, IntWalk.toNatUp, IntWalk.iteOmega]); (try go_simp); rfl)
       simp only [Act.put, Act.eval, Array.getD_eq_getD_getElem?, List.getElem?_toArray, List.getElem?_cons_zero, List.getElem?_cons_succ, Option.getD_some, List.setIfInBounds_toArray, List.set_cons_succ, List.set_cons_zero]
      )
    | (refine lex_skip rfl ?_
       simp only [Act.put, Act.eval, Array.getD_eq_getD_getElem?, List.getElem?_toArray, List.getElem?_cons_zero, List.getElem?_cons_succ, Option.getD_some, List.setIfInBounds_toArray, List.set_cons_succ, List.set_cons_zero]
      ))
  refine lex_nil ?_
  go_wp2_with fail
  go_ret2
  have hrem : removeR size R s = R.set (pageOf R s) l := by
    have hw1 := HW.out
    have hw0 := HW0.out
    rw [← EN.out] at hw0 hw1
    unfold removeR
    rw [if_pos ht]
    simp only [← El.out]
    rw [if_neg (by rw [Hlen.out]; omega), Hlen.out, if_neg, if_neg]
    · rintro ⟨h1, h2⟩
      have : fewB R size N ((pageOf R s : Int) - 1) = true := by
        unfold fewB
        rw [Bool.and_eq_true, Bool.and_eq_true, decide_eq_true_eq, decide_eq_true_eq, decide_eq_true_eq, show ((pageOf R s : Int) - 1).toNat = pageOf R s - 1 by omega]
        exact ⟨by omega, by omega, h2⟩
      rw [this] at hw1
      cases hw1
    · rintro ⟨h1, h2⟩
      have : fewB R size N ((pageOf R s : Int) + 1) = true := by
        unfold fewB
        rw [Bool.and_eq_true, Bool.and_eq_true, decide_eq_true_eq, decide_eq_true_eq, decide_eq_true_eq, show ((pageOf R s : Int) + 1).toNat = pageOf R s + 1 by omega]
        exact ⟨by omega, by omega, h2⟩
      rw [this] at hw0
      cases hw0
  have htp := total_remove (size := size) s hR ht
  rw [hrem] at htp ⊢
  have e6 : Ext (· = bx) w W := e4.trans (Ext.of_below (S := (· = bx)) hYW) fun k _ h => h
  have hws := e6.size
  have hoW := owns_below Hol4.out hYW
  refine ⟨by rw [← Ev.out]; rfl, _, _, HM.out.swap (W := W.setCell ⟨g, pageOf R s, none⟩ (.slice (some ⟨g', 0, none⟩) N cap')) (u := .slice (some ⟨g', 0, none⟩) N cap') (l := l) hp ?_ ?_ (fun k k1 k2 k3 k4 => ?_) ?_ (fun k hk => by have hk : g' = k := Option.some.inj hk; omega), ?_⟩
  · rw [heap_setCell_ne _ _ _ _ hne5, below_heap hYW p2, show ((total R : Int) - 1) = (total (R.set (pageOf R s) l) : Int) by omega]
  · exact heap_setCell_eq _ (e6.block g hg hgx.2)
  · rw [heap_setCell_ne _ _ _ _ k4]
    exact e6.block k k2 k3
  · refine ⟨?_, Hone3.out⟩
    show World.ownsRow _ 0 92 3 _ l.length _
    rw [Hlen.out]
    exact owns_base (owns_of_block hoW fun k hk => heap_setCell_ne _ _ _ _ (by have hk : g' = k := Option.some.inj hk; show k ≠ g; omega)) fun k _ => Nat.zero_le _
  · exact (e6.mono (S' := S) fun k _ hk => by obtain rfl : k = bx := hk; exact HM.out.sx).trans (Ext.setCell (S := (· = g)) rfl _) fun k _ hk => by obtain rfl : k = g := hk; exact hgx.1

/-- Remove, whatever there is -/
theorem remove_any (s : St) (bx size : Nat) (R : List (List Ent)) (hR : 0 < R.length) (hF : Fits size R) (hO : Ordered R) (ht : there R s = true)
    (S : Nat → Prop) (vr : Value) (pvs : List Value) (w : World) (hM : MemV w bx size R S vr pvs) :
    Calls Try.prog 26 #[.pointer (some ⟨bx, 0, none⟩), s.v] w (RemPost w bx size R (removeR size R s) S (ent (pageAt R (pageOf R s)) (entOf R s)).v) := by
  have h0 := hO.full _ (pageOf_lt (s := s) hR)
  rcases Nat.lt_or_ge 1 (pageAt R (pageOf R s)).length with h | h
  · cases h1 : fewB R size ((pageAt R (pageOf R s)).length - 1) ((pageOf R s : Int) + 1)
    · cases h2 : fewB R size ((pageAt R (pageOf R s)).length - 1) ((pageOf R s : Int) - 1)
      · exact remove_keep s bx size R hR hF hO ht h h1 h2 S vr pvs w hM
      · exact remove_prev s bx size R hR hF hO ht h h1 h2 S vr pvs w hM
    · exact remove_next s bx size R hR hF hO ht h h1 S vr pvs w hM
  · exact remove_empty s bx size R hR hF hO ht (by omega) S vr pvs w hM
end Go.Proofs.Ytagcohpghgnalaa.U
