/-
  The walk of Remove where the page ahead takes it in (V: string).
-/
import Derived.Test.YtagcohpghgnalaaCW5cS
set_option linter.unusedSimpArgs false
set_option linter.unusedVariables false
namespace Go.Proofs.Ytagcohpghgnalaa.S
open Go.RowKit Go.RG Go.Hp Go.Pg Go.Proofs.Ytagcohpghgnalaa





set_option maxHeartbeats 1000000 in
set_option maxRecDepth 100000 in
/-- into the page ahead -/
theorem remove_prev (s : St) (bx size : Nat) (R : List (List Ent)) (hR : 0 < R.length) (hF : Fits size R) (hO : Ordered R) (ht : there R s = true) (h1 : 1 < (pageAt R (pageOf R s)).length)
    (hfew0 : fewB R size ((pageAt R (pageOf R s)).length - 1) ((pageOf R s : Int) + 1) = false) (hfew : fewB R size ((pageAt R (pageOf R s)).length - 1) ((pageOf R s : Int) - 1) = true)
    (S : Nat → Prop) (vr : Value) (pvs : List Value) (w : World) (hM : MemV w bx size R S vr pvs) :
    Calls Try.prog 27 #[.pointer (some ⟨bx, 0, none⟩), s.v] w (RemPost w bx size R (removeR size R s) S (ent (pageAt R (pageOf R s)) (entOf R s)).v) := by
  have HW := Lib.hid hfew; clear hfew
  have HW0 := Lib.hid hfew0; clear hfew0
  have hp := pageOf_lt (s := s) hR
  have hsz : (size : Int) ≠ 0 := by have := hF.lo; omega
  have hsz' : ((size : Int) == 0) = false := by simpa using hsz
  obtain ⟨m0, m1, m2⟩ := hM.cells
  obtain ⟨g, cap, rfl, hg, hc, hcm, hrow, hfr⟩ := hM.row hR
  obtain ⟨g2, cap2, hv2, hg2, hc2, hcm2, hpage, hone, -⟩ := (hM.pages _ hp).parts (hO.full _ hp)
  have hrp := hrow _ hp
  rw [hv2] at hrp
  have hB0 := below_box w (.cells #[.int .u64 s.t, .int .u64 s.s] 38)
  have hbx := block_lt_of_heap hM.str
  have hgx := hM.sr g rfl
  have hlp := hF.page _ hp
  have hsize := hF.hi
  have hPl := Lib.hid (place_some s bx size hsz R hR (by have := hF.rows; omega) hO (fun i hi => by have := hF.page i hi; omega) S (.slice (some ⟨g, 0, none⟩) R.length cap) pvs)
  have hel := entOf_le R s
  have HM := Lib.hid hM; clear hM
  have HF := Lib.hid hF; clear hF
  have HO := Lib.hid hO; clear hO
  have Hone := Lib.hid hone; clear hone
  have Hpage := Lib.hid hpage; clear hpage
  have Hrow := Lib.hid hrow; clear hrow
  have Hfr := Lib.hid hfr; clear hfr
  have hmz := HF.out.tot
  have hbb : ¬ bx = w.heap.size := by omega
  unfold St.v at hPl ⊢
  have hBb := below_trans (below_box w (.cells #[.pointer (some ⟨bx, 0, none⟩)] 22)) (below_box (w.alloc (.cells #[.pointer (some ⟨bx, 0, none⟩)] 22)) (.cells #[.int .u64 s.t, .int .u64 s.s] 38))
  go_enter Try.func27, Try.ntmps27
  go_wp2_with fail
  refine (hPl.out _ (HM.out.below hBb)).mono ?_
  rintro e w1 ⟨rfl, hB1⟩
  rw [ht]
  have hB2 := below_trans hBb hB1
  have el : entOf R s < (pageAt R (pageOf R s)).length := by
    have := (isIn_iff.1 ht).1
    rwa [length_keys] at this
  have eli : (entOf R s : Int) < ((pageAt R (pageOf R s)).length : Int) := by omega
  have hv := (Hpage.out _ el).2.2
  have h1v := Hone.out _ el
  obtain ⟨v, ev⟩ : ∃ v, v = (ent (pageAt R (pageOf R s)) (entOf R s)).v := ⟨_, rfl⟩
  rw [← ev] at hv h1v
  have Ev := Lib.hid ev; clear ev
  have n0 := below_cell hB2 m0
  have n1 := below_cell hB2 m1
  have n2 := below_cell hB2 m2
  have n3 := below_cell hB2 hrp
  have n4 := below_cell hB2 hv
  have HM1 := Lib.hid (HM.out.below hB2)
  have f1 := HM1.out.frozen 1
  have d0 : w1.cell? ⟨w.heap.size, 0, none⟩ = some (.pointer (some ⟨bx, 0, none⟩)) := below_cell hB1 (by simp)
  have hpos : (0 : Int) < (total R : Int) := by
    have := total_split R hp
    omega
  have hne1 : ¬ bx = w.heap.size := by omega
  have hne2 : ¬ w.heap.size = bx := by omega
  have hs1 : w.heap.size + 1 < w1.heap.size := by have := hB1.size; simp at this; omega
  have hne3 : ¬ bx = w1.heap.size := by omega
  have hne5 : ¬ bx = g := fun h => hgx.2 h.symm
  have hne6 : ¬ g = bx := hgx.2
  have hne7 : ¬ g2 = bx := (HM.out.sp _ hp g2 (by rw [hv2]; rfl)).2.1
  go_wp2_with fail
  obtain ⟨x1, x2, x4⟩ := HM.out.count0 hB2 (.int .i64 ((total R : Int) - 1))
  have x3 : (w1.setCell ⟨bx, 1, none⟩ (.int .i64 ((total R : Int) - 1))).cell? ⟨w.heap.size, 0, none⟩ = some (.pointer (some ⟨bx, 0, none⟩)) := (Ext.setCell (S := (· = bx)) rfl _).cell_some d0 hne2
  generalize World.setCell w1 _ _ = X at x1 x2 x3 x4 ⊢
  have hxs : w.heap.size + 1 < X.heap.size := by omega
  have y0 : X.cell? ⟨bx, 0, none⟩ = some (.int .i64 size) := by simp [World.cell?, x2]
  have y2 : X.cell? ⟨bx, 2, none⟩ = some (.slice (some ⟨g, 0, none⟩) R.length cap) := by simp [World.cell?, x2]
  have hpx := (HM.out.pages _ hp).ext x1 (fun k hk => ((HM.out.sp _ hp k hk).2.1))
  rw [hv2] at hpx
  refine (clone_page (w.heap.size + 2) _ g2 _ cap2 rfl (HO.out.full _ hp) (by omega) X (by omega) hpx).mono ?_
  clear hpx n0 n1 n2 n3 n4
  rintro e w2 ⟨v', rfl, hB3, g', cap', rfl, hg', hown⟩
  have Hown := Lib.hid hown; clear hown
  go_wp2_with fail
  refine (ES.delete_any (w.heap.size + 2) g' _ cap' (entOf R s) _ w2 Hown.out (by omega) el (cellsOf_one (HM.out.pages _ hp).one)).mono ?_
  rintro e w3 ⟨rfl, hl3, hx3⟩
  have hg'3 : g' < w3.heap.size := owns_lt hl3 rfl
  have e3 : Ext (· = bx) w w3 := (x1.trans (Ext.of_below (S := (· = bx)) hB3) fun k _ hk => hk).trans hx3 (fun k (hk : k < w.heap.size) (h : k = g') => by exfalso; omega)
  have X3 : Ext (· = g') X w3 := (Ext.of_below (S := (· = g')) hB3).trans hx3 fun k _ hk => hk
  obtain ⟨l, el'⟩ : ∃ l, l = (pageAt R (pageOf R s)).take (entOf R s) ++ (pageAt R (pageOf R s)).drop (entOf R s + 1) := ⟨_, rfl⟩
  obtain ⟨N, eN⟩ : ∃ N, N = (pageAt R (pageOf R s)).length - 1 := ⟨_, rfl⟩
  have hlen : l.length = N := by
    rw [el', eN]
    simp only [List.length_append, List.length_take, List.length_drop]; omega
  have hN : N + 1 = (pageAt R (pageOf R s)).length := by omega
  have ecl : (cellsOf (pageAt R (pageOf R s))).take (entOf R s * 3) ++ (cellsOf (pageAt R (pageOf R s))).drop ((entOf R s + 1) * 3) = cellsOf l := by
    rw [el', cellsOf_append, ← cellsOf_take, ← cellsOf_drop]
  have hone3 : ∀ e ∈ l, e.v.oneCell' = true := fun e he => by
    rw [el'] at he
    rcases List.mem_append.1 he with h | h
    · exact (HM.out.pages _ hp).one e (List.mem_of_mem_take h)
    · exact (HM.out.pages _ hp).one e (List.mem_of_mem_drop h)
  rw [ecl] at hl3
  rw [← eN] at hl3 ⊢
  have hNc : N ≤ cap' := by
    obtain ⟨_, _, hs, h1, _⟩ := owns_shape hl3
    injection hs with _ _ hs
    omega
  have hN63 : N ≤ 64 := by omega
  have Hone3 := Lib.hid hone3; clear hone3
  have El := Lib.hid el'; clear el'
  have Hlen := Lib.hid hlen; clear hlen
  have Hol := Lib.hid hl3; clear hl3
  have EN := Lib.hid eN; clear eN
  have HN := Lib.hid hN; clear hN
  clear ecl
  have hbg : ¬ bx = g' := by omega
  have hgg : ¬ g = g' := by omega
  have hbb' : ¬ w.heap.size = g' := by omega
  have hbb3 : ¬ w.heap.size = g := by omega
  have q2 : w3.heap[bx]? = _ := X3.heap x2 hbg
  have q0 : w3.cell? ⟨bx, 0, none⟩ = some (.int .i64 size) := X3.cell_some y0 hbg
  have q1 : w3.cell? ⟨bx, 2, none⟩ = some (.slice (some ⟨g, 0, none⟩) R.length cap) := X3.cell_some y2 hbg
  have q3 : w3.cell? ⟨w.heap.size, 0, none⟩ = some (.pointer (some ⟨bx, 0, none⟩)) := X3.cell_some x3 hbb'
  have hN0 : 0 < N := by have := HN.out; omega
  have hNz : ((N : Int) == 0) = false := by rw [beq_eq_false_iff_ne]; omega
  go_wp2_with fail
  have hBx := below_box w3 (.cells #[.slice (some ⟨g', 0, none⟩) N cap'] 95)
  have hbl : (w3.alloc (.cells #[.slice (some ⟨g', 0, none⟩) N cap'] 95)).cell? ⟨w3.heap.size, 0, none⟩ = some (.slice (some ⟨g', 0, none⟩) N cap') := by simp
  have hY2 : (w3.alloc (.cells #[.slice (some ⟨g', 0, none⟩) N cap'] 95)).heap.size = w3.heap.size + 1 := by simp
  generalize World.alloc w3 (.cells #[.slice (some ⟨g', 0, none⟩) N cap'] 95) = Y at hBx hbl hY2 ⊢
  have e4 : Ext (· = bx) w Y := e3.trans (Ext.of_below (S := (· = bx)) hBx) fun k _ hk => hk
  have p2 : Y.heap[bx]? = _ := below_heap hBx q2
  have p0 := below_cell hBx q0
  have p1 := below_cell hBx q1
  have p3 := below_cell hBx q3
  have Hol4 := Lib.hid (owns_below Hol.out hBx)
  have Hrows := Lib.hid (owns_ext HM.out.rows e4 (fun k hk => (HM.out.sr k hk).2))
  clear q0 q1 q2 q3
  have Hlens := Lib.hid (HM.out.lens e4)
  rw [IntWalk.wrap64_in _ (by have := HF.out.rows; omega)]
  refine (few_any _ (by have := HF.out.rows; omega) w.heap.size w3.heap.size bx size g cap N cap' (some ⟨g', 0, none⟩) R HF.out.hi (by omega) HF.out.rows (fun i hi => by have := HF.out.page i hi; have := HF.out.hi; omega) pvs Y p3 hbl p0 p1 (fun i hi => by obtain ⟨a, c, -, h⟩ := Hlens.out i hi; exact ⟨a, c, h⟩)).mono ?_
  rintro e Y1 ⟨rfl, hB5⟩
  rw [EN.out, HW0.out]
  go_wp2_with fail
  have u0 := below_cell hB5 p0
  have u1 := below_cell hB5 p1
  have u3 := below_cell hB5 p3
  have ubl := below_cell hB5 hbl
  rw [IntWalk.wrap64_in _ (by have := HF.out.rows; omega)]
  refine (few_any _ (by have := HF.out.rows; omega) w.heap.size w3.heap.size bx size g cap N cap' (some ⟨g', 0, none⟩) R HF.out.hi (by omega) HF.out.rows (fun i hi => by have := HF.out.page i hi; have := HF.out.hi; omega) pvs Y1 u3 ubl u0 u1 (fun i hi => by obtain ⟨a, c, -, h⟩ := Hlens.out i hi; exact ⟨a, c, below_cell hB5 h⟩)).mono ?_
  rintro e Y2 ⟨rfl, hB6⟩
  rw [EN.out, HW.out]
  go_wp2_with fail
  clear u0 u1 u3 ubl
  have hB5 := below_trans hB5 hB6
  have hw := HW.out
  unfold fewB at hw
  rw [← EN.out, Bool.and_eq_true, Bool.and_eq_true, decide_eq_true_eq, decide_eq_true_eq, decide_eq_true_eq] at hw
  have hp0 : 0 < pageOf R s := by omega
  have hroom := hw.2.2
  rw [show ((pageOf R s : Int) - 1).toNat = pageOf R s - 1 by omega] at hroom
  clear hw
  have hw0 := HW0.out
  have hnot : ¬ (pageOf R s + 1 < R.length ∧ (pageAt R (pageOf R s + 1)).length + N ≤ size / 2) := by
    rintro ⟨h1, h2⟩
    have : fewB R size N ((pageOf R s : Int) + 1) = true := by
      unfold fewB
      rw [Bool.and_eq_true, Bool.and_eq_true, decide_eq_true_eq, decide_eq_true_eq, decide_eq_true_eq, show ((pageOf R s : Int) + 1).toNat = pageOf R s + 1 by omega]
      exact ⟨by omega, by omega, h2⟩
    rw [← EN.out, this] at hw0
    cases hw0
  have hp1 : pageOf R s - 1 < R.length := by omega
  clear hw0
  have Hnot := Lib.hid hnot; clear hnot
  obtain ⟨g5, c5, hv5, hg5, hc5, hm5, -, -, -⟩ := (HM.out.pages _ hp1).parts (HO.out.full _ hp1)
  have hcell5 : Y.cell? ⟨g, pageOf R s - 1, none⟩ = some (.slice (some ⟨g5, 0, none⟩) (pageAt R (pageOf R s - 1)).length c5) := by
    obtain ⟨a, c, e1, e2⟩ := Hlens.out _ hp1
    rw [e2, ← e1, hv5]
  have hrow5 := (HM.out.pages _ hp1).ext e4 (fun k hk => (HM.out.sp _ hp1 k hk).2.1)
  rw [hv5] at hrow5
  have Hv5 := Lib.hid hv5; clear hv5
  have hn5 : 0 < (pageAt R (pageOf R s - 1)).length := HO.out.full _ hp1
  have hl5 := HF.out.page _ hp1
  obtain ⟨n5, en5⟩ : ∃ n5, n5 = (pageAt R (pageOf R s - 1)).length := ⟨_, rfl⟩
  rw [← en5] at hrow5 hcell5 hc5 hn5 hl5 hroom
  have hr5 := hrow5.row
  rw [← en5] at hr5
  have Hr5 := Lib.hid hr5; clear hr5 hrow5
  have En5 := Lib.hid en5; clear en5
  obtain ⟨q, eq⟩ : ∃ q, q = pageOf R s - 1 := ⟨_, rfl⟩
  have hqz : (pageOf R s : Int) - 1 = (q : Int) := by omega
  have hqi : (q : Int) < (R.length : Int) := by omega
  rw [← eq] at hcell5
  have Hqz := Lib.hid hqz; clear hqz
  have Eq := Lib.hid eq; clear eq
  have hYW := hB5
  refine wp_region_late 22 [0] (fun i => if i = 18 then some (Two w.heap.size (.slice (some ⟨g5, 0, none⟩) n5 c5) (.slice (some ⟨g', 0, none⟩) N cap')) else if i = 19 then some (CP w.heap.size (n5 + N) (pageAt R (pageOf R s - 1) ++ l)) else if i = 20 then some (One w.heap.size (n5 + N) (pageAt R (pageOf R s - 1) ++ l)) else none)
    (fun w' => w'.cell? ⟨w.heap.size, 0, none⟩ = some (.pointer (some ⟨bx, 0, none⟩)))
    (fun u w' => ∃ va a cap', w'.ownsRow 0 95 1 u (R.length - 1) (pvs.take q ++ ([va] ++ pvs.drop (q + 2))) ∧ CP w.heap.size (n5 + N) (pageAt R (pageOf R s - 1) ++ l) va w' ∧ Ext (· = g) Y w' ∧
      (∀ k, u.ownBlock = some k → k = g ∨ (Y.heap.size ≤ k ∧ va.ownBlock ≠ some k)) ∧ u = .slice a (R.length - 1) cap') fol (by kernel_rfl)
    (fun b _ hb w' h => below_cell (below_trans (below_trans hB5 hb) h) p3) (fun W hW hh => ?_)
  clear hh
  have hYW := below_trans hB5 hW
  have c1 : ∀ w1, Below W.heap.size W w1 → w1.cell? ⟨bx, 2, none⟩ = some (.slice (some ⟨g, 0, none⟩) R.length cap) := fun w1 h => below_cell (below_trans hYW h) p1
  have c3 : ∀ w1, Below W.heap.size W w1 → w1.cell? ⟨w.heap.size, 0, none⟩ = some (.pointer (some ⟨bx, 0, none⟩)) := fun w1 h => below_cell (below_trans hYW h) p3
  have c4 : ∀ w1, Below W.heap.size W w1 → w1.cell? ⟨w3.heap.size, 0, none⟩ = some (.slice (some ⟨g', 0, none⟩) N cap') := fun w1 h => below_cell (below_trans hYW h) hbl
  have c5' : ∀ w1, Below W.heap.size W w1 → w1.cell? ⟨g, q, none⟩ = some (.slice (some ⟨g5, 0, none⟩) n5 c5) := fun w1 h => below_cell (below_trans hYW h) hcell5
  simp only [List.take_succ_cons, List.take_zero, List.drop_succ_cons, List.drop_zero]
  repeat (first
    | (refine rl_move _ (by first | exact Or.inl rfl | exact Or.inr rfl) (by first | exact Or.inl rfl | exact Or.inr rfl) rfl ?_
       simp only [Act.put, Act.eval, Array.getD_eq_getD_getElem?, List.getElem?_toArray, List.getElem?_cons_zero, List.getElem?_cons_succ, Option.getD_some, List.setIfInBounds_toArray, List.set_cons_succ, List.set_cons_zero]
      )
    | (refine rl_small ?_ rfl rfl (fun w1 hb1 hf1 => ?_) ?_
       rotate_left
       (go_simp; (try simp (disch := omega) only [IntWalk.i64_quo, IntWalk.rem_in, IntWalk.i64_in, IntWalk.u64_in, IntWalk.u32_in, IntWalk.u8_in, IntWalk.toNatUp, IntWalk.iteOmega]); (try go_simp); rfl)
       simp only [Act.put, Act.eval, Array.getD_eq_getD_getElem?, List.getElem?_toArray, List.getElem?_cons_zero, List.getElem?_cons_succ, Option.getD_some, List.setIfInBounds_toArray, List.set_cons_succ, List.set_cons_zero]
      )
    | (refine rl_big ?_ rfl rfl (fun w1 hcb1 => ?_) ?_
       rotate_left
       ((try dsimp only at hcb1); go_simp; (try simp (disch := omega) only [IntWalk.i64_quo, IntWalk.rem_in, IntWalk.i64_in, IntWalk.u64_in, IntWalk.u32_in, IntWalk.u8_in, IntWalk.toNatUp, IntWalk.iteOmega]); (try go_simp); rfl)
       simp only [Act.put, Act.eval, Array.getD_eq_getD_getElem?, List.getElem?_toArray, List.getElem?_cons_zero, List.getElem?_cons_succ, Option.getD_some, List.setIfInBounds_toArray, List.set_cons_succ, List.set_cons_zero]
      ))
  have hrs := HF.out.rows
  rw [IntWalk.i64_in ((pageOf R s : Int) - 1) (by omega), Hqz.out]
  repeat (first
    | (refine rl_move _ (by first | exact Or.inl rfl | exact Or.inr rfl) (by first | exact Or.inl rfl | exact Or.inr rfl) rfl ?_
       simp only [Act.put, Act.eval, Array.getD_eq_getD_getElem?, List.getElem?_toArray, List.getElem?_cons_zero, List.getElem?_cons_succ, Option.getD_some, List.setIfInBounds_toArray, List.set_cons_succ, List.set_cons_zero]
      )
    | (refine rl_small ?_ rfl rfl (fun w1 hb1 hf1 => ?_) ?_
       rotate_left
       (go_simp; (try simp (disch := omega) only [IntWalk.i64_quo, IntWalk.rem_in, IntWalk.i64_in, IntWalk.u64_in, IntWalk.u32_in, IntWalk.u8_in, IntWalk.toNatUp, IntWalk.iteOmega]); (try go_simp); rfl)
       simp only [Act.put, Act.eval, Array.getD_eq_getD_getElem?, List.getElem?_toArray, List.getElem?_cons_zero, List.getElem?_cons_succ, Option.getD_some, List.setIfInBounds_toArray, List.set_cons_succ, List.set_cons_zero]
      )
    | (refine rl_big ?_ rfl rfl (fun w1 hcb1 => ?_) ?_
       rotate_left
       ((try dsimp only at hcb1); go_simp; (try simp (disch := omega) only [IntWalk.i64_quo, IntWalk.rem_in, IntWalk.i64_in, IntWalk.u64_in, IntWalk.u32_in, IntWalk.u8_in, IntWalk.toNatUp, IntWalk.iteOmega]); (try go_simp); rfl)
       simp only [Act.put, Act.eval, Array.getD_eq_getD_getElem?, List.getElem?_toArray, List.getElem?_cons_zero, List.getElem?_cons_succ, Option.getD_some, List.setIfInBounds_toArray, List.set_cons_succ, List.set_cons_zero]
      ))
  refine rl_make _ rfl (by exact Two.st _ _ _) rfl (fun w1 hb1 hf1 => ?_) ?_
  · have hb1' := hb1
    (unfold makes; go_simp; simp only [makesUpon])
    have h1 := e4.size; have h2 := hYW.size; have h3 := hb1'.size
    exact ⟨below_box _ _, _, rfl, by omega, row_new _ _ _⟩
  rintro u8 w8 hB8 ⟨gv8, rfl, hg8, hrow8⟩
  clear hrow8
  simp only [Act.put, Act.eval, Array.getD_eq_getD_getElem?, List.getElem?_toArray, List.getElem?_cons_zero, List.getElem?_cons_succ, Option.getD_some, List.setIfInBounds_toArray, List.set_cons_succ, List.set_cons_zero]
  refine rl_make _ rfl (by exact CP.st _ _ _) rfl (fun w1 hb1 hf1 => ?_) ?_
  · have hb1' := hb1
    have f8 : Two w.heap.size (.slice (some ⟨g5, 0, none⟩) n5 c5) (.slice (some ⟨g', 0, none⟩) N cap') (.slice (some ⟨gv8, 0, none⟩) 2 2) w1 := hf1 124 (by decide) (by simp)
    clear hf1
    (unfold makes; go_simp; simp only [makesUpon])
    obtain ⟨gx8, ex8, hgx8, hr8⟩ := f8
    have ex8 : gv8 = gx8 := by injection ex8 with h1 _ _; injection h1 with h1; injection h1
    subst ex8
    have hcB := below_trans hYW hb1'
    have ho1 := owns_below Hr5.out hcB
    have ho2 := owns_below Hol4.out hcB
    have hcs := hcB.size
    have he4 := e4.size
    refine (ES.concat_two gv8 2 g5 n5 c5 g' N cap' _ _ w1 (by rw [hr8.cell]; rfl) (by rw [hr8.cell]; rfl) (owns_length ho1) (owns_length ho2) (fun j u h => by have := owns_src ho1 j u h; rwa [Addr.add_lit, Nat.zero_add] at this) (fun j u h => by have := owns_src ho2 j u h; rwa [Addr.add_lit, Nat.zero_add] at this) (cellsOf_one (HM.out.pages _ hp1).one) (cellsOf_one Hone3.out) hn5 (by omega)).mono ?_
    rintro e w'' ⟨vc, rfl, hoc, hbc⟩
    have hoc := owns_base hoc (base' := w.heap.size) fun k hk => by have := (hoc.lt k hk).1; omega
    rw [← cellsOf_append] at hoc
    obtain ⟨gc, cc, rfl, hgc, -⟩ := owns_parts hoc (by omega)
    exact ⟨_, rfl, hbc, gc, cc, rfl, hgc, hoc⟩
  rintro u9 w9 hB9 ⟨g9, c9, rfl, hg9, hown9⟩
  clear hown9
  simp only [Act.put, Act.eval, Array.getD_eq_getD_getElem?, List.getElem?_toArray, List.getElem?_cons_zero, List.getElem?_cons_succ, Option.getD_some, List.setIfInBounds_toArray, List.set_cons_succ, List.set_cons_zero]
  refine rl_make _ rfl (by exact One.st _ _ _) rfl (fun w1 hb1 hf1 => ?_) ?_
  · have hb1' := hb1
    have f9 : CP w.heap.size (n5 + N) (pageAt R (pageOf R s - 1) ++ l) (.slice (some ⟨g9, 0, none⟩) (n5 + N) c9) w1 := hf1 125 (by decide) (by simp)
    clear hf1
    (unfold makes; go_simp; simp only [makesUpon])
    have hb2 := below_box w1 (.cells #[.slice (some ⟨g9, 0, none⟩) (n5 + N) c9] 95)
    have h1 := e4.size; have h2 := hYW.size; have h3 := hb1'.size
    exact ⟨hb2, w1.heap.size, _, rfl, by omega, row_new _ _ _, CP.st _ _ _ _ _ _ f9 hb2⟩
  rintro u10 w10 hB10 ⟨gv10, va, rfl, hg10, hrow10, hva⟩
  have Hrow10 := Lib.hid hrow10; clear hrow10
  have Hva := Lib.hid hva; clear hva
  simp only [Act.put, Act.eval, Array.getD_eq_getD_getElem?, List.getElem?_toArray, List.getElem?_cons_zero, List.getElem?_cons_succ, Option.getD_some, List.setIfInBounds_toArray, List.set_cons_succ, List.set_cons_zero]
  refine rl_late _ rfl rfl ?_ ?_
  · (unfold makes; go_simp; simp only [makesUpon])
    have hq2 : IntKind.i64.wrap ((pageOf R s : Int) + 1) = (q : Int) + 2 := by rw [IntWalk.i64_in _ (by omega)]; have := Hqz.out; omega
    have hq3 := Eq.out
    rw [hq2]
    have hB11 := below_trans hYW (below_trans (below_trans hB8 hB9) hB10)
    have hb6 := hB11.size
    have hw3 := e4.size
    have one6 : ∀ x ∈ [va], x.oneCell' = true := by
      obtain ⟨_, _, h1, -⟩ := Hva.out
      intro x hx
      obtain rfl := List.mem_singleton.1 hx
      rw [h1]; rfl
    refine (RS.rep21 0 g R.length cap q gv10 pvs [va] w10 (owns_below Hrows.out hB11) (by omega) (by omega) Hrow10.out (by omega) rfl one6 HM.out.rows_one).mono ?_
    rintro e w7 ⟨u, rfl, hu1, hu2, hu3⟩
    obtain ⟨a7, cap7, hs7, -⟩ := owns_shape hu1
    obtain ⟨ga, ca, ea, hga, hoa⟩ := Hva.out
    have hga6 : ga < w10.heap.size := owns_lt hoa (by rw [ea]; rfl)
    refine ⟨u, rfl, hu2.cell_some (below_cell hB11 p3) hbb3, va, hu1, ⟨ga, ca, ea, hga, owns_ext hoa hu2 ?_⟩, ?_, fun k hk => ?_, a7, cap7, hs7⟩
    · rw [ea]; intro k hk hh
      have hk : ga = k := Option.some.inj hk
      have hh : k = g := hh
      omega
    · exact (Ext.of_below (S := (· = g)) hB11).trans hu2 fun k _ h => h
    · rcases hu3 k hk with h | h
      · exact .inl h
      · refine .inr ⟨by omega, ?_⟩
        rw [ea]; intro hk; have hk : ga = k := Option.some.inj hk; omega
  rintro u7 w7 hcb7 ⟨va7, a7, cap7, hrow7, hva7, hx7, hbk7, rfl⟩
  have Hrow7 := Lib.hid hrow7; clear hrow7
  have Hva7 := Lib.hid hva7; clear hva7
  have Hbk7 := Lib.hid hbk7; clear hbk7
  simp only [Act.put, Act.eval, Array.getD_eq_getD_getElem?, List.getElem?_toArray, List.getElem?_cons_zero, List.getElem?_cons_succ, Option.getD_some, List.setIfInBounds_toArray, List.set_cons_succ, List.set_cons_zero]
  refine rl_nil ?_
  have r2 : w7.heap[bx]? = _ := hx7.heap p2 hne5
  have r1 : w7.cell? ⟨bx, 2, none⟩ = some (.slice (some ⟨g, 0, none⟩) R.length cap) := by simp [World.cell?, r2]
  have r4 : w7.frozen? ⟨bx, 2, none⟩ = false := by simp [World.frozen?, r2]
  go_wp2_with fail
  go_ret2
  have hq3 := Eq.out
  have hrem : removeR size R s = R.take q ++ ([pageAt R (pageOf R s - 1) ++ l] ++ R.drop (q + 2)) := by
    unfold removeR
    rw [if_pos ht]
    simp only [← El.out]
    rw [if_neg (by rw [Hlen.out]; omega), if_neg (by rw [Hlen.out]; exact Hnot.out), if_pos ⟨hp0, by rw [Hlen.out, ← En5.out]; omega⟩, hq3, show pageOf R s - 1 + 2 = pageOf R s + 1 by omega]
    rfl
  have htp := total_remove (size := size) s hR ht
  rw [hrem] at htp ⊢
  have hw3 := e4.size
  have hend := HM.out.rows_end (ms := [(pageAt R (pageOf R s - 1) ++ l)]) (vs := [va7]) (i := q) (j := (q + 2)) hR (by omega) (by omega) rfl e4 hx7 r2 (by congr 1; omega) (by simp only [List.length_cons, List.length_nil]; omega) Hrow7.out
    (fun q hq => by
      obtain rfl : q = 0 := by simpa using hq
      obtain ⟨ga, ca, rfl, hga, hoa⟩ := Hva7.out
      refine ⟨?_, (fun e he => (List.mem_append.1 he).elim ((HM.out.pages _ hp1).one e) (Hone3.out e))⟩
      show World.ownsRow _ 0 98 3 _ ((pageAt R (pageOf R s - 1) ++ l)).length _
      rw [show ((pageAt R (pageOf R s - 1) ++ l)).length = n5 + N from (by rw [List.length_append, Hlen.out, ← En5.out])]
      exact owns_base hoa fun k _ => Nat.zero_le _)
    (fun q hq k hk => by
      obtain rfl : q = 0 := by simpa using hq
      have hk : va7.ownBlock = some k := hk
      obtain ⟨ga, ca, ea, hga, hoa⟩ := Hva7.out
      have hk2 := hk
      rw [ea] at hk2
      have hk2 : ga = k := Option.some.inj hk2
      refine ⟨by omega, fun e => ?_⟩
      rcases Hbk7.out k e with h | ⟨_, h⟩
      · omega
      · exact h hk)
    (fun k hk => (Hbk7.out k hk).imp id fun h => h.1)
  exact ⟨by rw [← Ev.out]; rfl, _, _, hend.1, hend.2⟩
end Go.Proofs.Ytagcohpghgnalaa.S
