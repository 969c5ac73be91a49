/-
  The walk of Remove (V: uint64).
-/
import Derived.Test.YtagcohpghgnalaaCW5U
import Derived.Test.YtagcohpghgnalaaCGB
set_option linter.unusedSimpArgs false
set_option linter.unusedVariables false
namespace Go.Proofs.Ytagcohpghgnalaa.U
open Go.RowKit Go.RG Go.Hp Go.Pg Go.Proofs.Ytagcohpghgnalaa





set_option maxRecDepth 100000 in
theorem remove_nil (s : St) (bx size : Nat) (S : Nat → Prop) (vr : Value) (pvs : List Value) (w : World) (hM : MemV w bx size [] S vr pvs) :
    Calls Try.prog 26 #[.pointer (some ⟨bx, 0, none⟩), s.v] w fun e w' => e = .returned (.tuple #[.int .u64 0, .bool false]) ∧ Below w.heap.size w w' := by
  have hPl := Lib.hid (place_none s bx size S vr pvs)
  have HM := Lib.hid hM; clear hM
  unfold St.v at hPl ⊢
  have hB0 := below_trans (below_box w (.cells #[.pointer (some ⟨bx, 0, none⟩)] 29)) (below_box (w.alloc (.cells #[.pointer (some ⟨bx, 0, none⟩)] 29)) (.cells #[.int .u64 s.t, .int .u64 s.s] 38))
  go_enter Try.func26, Try.ntmps26
  go_wp2_with fail
  refine (hPl.out _ (HM.out.below hB0)).mono ?_
  rintro e w1 ⟨rfl, hB1⟩
  have hB2 := below_trans hB0 hB1
  go_wp2_with fail
  go_ret2
  exact ⟨rfl, hB2⟩

set_option maxRecDepth 100000 in
theorem remove_no (s : St) (bx size : Nat) (R : List (List Ent)) (hR : 0 < R.length) (hF : Fits size R) (hO : Ordered R) (ht : there R s = false)
    (S : Nat → Prop) (vr : Value) (pvs : List Value) (w : World) (hM : MemV w bx size R S vr pvs) :
    Calls Try.prog 26 #[.pointer (some ⟨bx, 0, none⟩), s.v] w fun e w' => e = .returned (.tuple #[.int .u64 0, .bool false]) ∧ Below w.heap.size w w' := by
  have hp := pageOf_lt (s := s) hR
  have hsz : (size : Int) ≠ 0 := by have := hF.lo; omega
  have hsz' : ((size : Int) == 0) = false := by simpa using hsz
  obtain ⟨m0, m1, m2⟩ := hM.cells
  obtain ⟨g, cap, rfl, hg, hc, hcm, hrow, hfr⟩ := hM.row hR
  obtain ⟨g2, cap2, hv2, hg2, hc2, hcm2, hpage, hone, -⟩ := (hM.pages _ hp).parts (hO.full _ hp)
  have hrp := hrow _ hp
  rw [hv2] at hrp
  have hB0 := below_box w (.cells #[.int .u64 s.t, .int .u64 s.s] 38)
  have hbx := block_lt_of_heap hM.str
  have hgx := hM.sr g rfl
  have hlp := hF.page _ hp
  have hsize := hF.hi
  have hPl := Lib.hid (place_some s bx size hsz R hR (by have := hF.rows; omega) hO (fun i hi => by have := hF.page i hi; omega) S (.slice (some ⟨g, 0, none⟩) R.length cap) pvs)
  have hel := entOf_le R s
  have HM := Lib.hid hM; clear hM
  have HF := Lib.hid hF; clear hF
  have HO := Lib.hid hO; clear hO
  have Hone := Lib.hid hone; clear hone
  have Hpage := Lib.hid hpage; clear hpage
  have Hrow := Lib.hid hrow; clear hrow
  have Hfr := Lib.hid hfr; clear hfr
  have hmz := HF.out.tot
  have hbb : ¬ bx = w.heap.size := by omega
  unfold St.v at hPl ⊢
  have hBb := below_trans (below_box w (.cells #[.pointer (some ⟨bx, 0, none⟩)] 29)) (below_box (w.alloc (.cells #[.pointer (some ⟨bx, 0, none⟩)] 29)) (.cells #[.int .u64 s.t, .int .u64 s.s] 38))
  go_enter Try.func26, Try.ntmps26
  go_wp2_with fail
  refine (hPl.out _ (HM.out.below hBb)).mono ?_
  rintro e w1 ⟨rfl, hB1⟩
  rw [ht]
  have hB2 := below_trans hBb hB1
  go_wp2_with fail
  go_ret2
  exact ⟨rfl, hB2⟩

def RemPost (w : World) (bx size : Nat) (R R' : List (List Ent)) (S : Nat → Prop) (v : Value) (e : Ending) (w' : World) : Prop :=
  e = .returned (.tuple #[v, .bool true]) ∧ ∃ vr' pvs', MemV w' bx size R' (fun k => S k ∨ w.heap.size ≤ k) vr' pvs' ∧ Ext S w w'

set_option maxRecDepth 100000 in
/-- the page's only entry -/
theorem remove_empty (s : St) (bx size : Nat) (R : List (List Ent)) (hR : 0 < R.length) (hF : Fits size R) (hO : Ordered R) (ht : there R s = true) (h1 : (pageAt R (pageOf R s)).length = 1)
    (S : Nat → Prop) (vr : Value) (pvs : List Value) (w : World) (hM : MemV w bx size R S vr pvs) :
    Calls Try.prog 26 #[.pointer (some ⟨bx, 0, none⟩), s.v] w (RemPost w bx size R (removeR size R s) S (ent (pageAt R (pageOf R s)) (entOf R s)).v) := by
  have H1 := Lib.hid h1; clear h1
  have hp := pageOf_lt (s := s) hR
  have hsz : (size : Int) ≠ 0 := by have := hF.lo; omega
  have hsz' : ((size : Int) == 0) = false := by simpa using hsz
  obtain ⟨m0, m1, m2⟩ := hM.cells
  obtain ⟨g, cap, rfl, hg, hc, hcm, hrow, hfr⟩ := hM.row hR
  obtain ⟨g2, cap2, hv2, hg2, hc2, hcm2, hpage, hone, -⟩ := (hM.pages _ hp).parts (hO.full _ hp)
  have hrp := hrow _ hp
  rw [hv2] at hrp
  have hB0 := below_box w (.cells #[.int .u64 s.t, .int .u64 s.s] 38)
  have hbx := block_lt_of_heap hM.str
  have hgx := hM.sr g rfl
  have hlp := hF.page _ hp
  have hsize := hF.hi
  have hPl := Lib.hid (place_some s bx size hsz R hR (by have := hF.rows; omega) hO (fun i hi => by have := hF.page i hi; omega) S (.slice (some ⟨g, 0, none⟩) R.length cap) pvs)
  have hel := entOf_le R s
  have HM := Lib.hid hM; clear hM
  have HF := Lib.hid hF; clear hF
  have HO := Lib.hid hO; clear hO
  have Hone := Lib.hid hone; clear hone
  have Hpage := Lib.hid hpage; clear hpage
  have Hrow := Lib.hid hrow; clear hrow
  have Hfr := Lib.hid hfr; clear hfr
  have hmz := HF.out.tot
  have hbb : ¬ bx = w.heap.size := by omega
  unfold St.v at hPl ⊢
  have hBb := below_trans (below_box w (.cells #[.pointer (some ⟨bx, 0, none⟩)] 29)) (below_box (w.alloc (.cells #[.pointer (some ⟨bx, 0, none⟩)] 29)) (.cells #[.int .u64 s.t, .int .u64 s.s] 38))
  go_enter Try.func26, Try.ntmps26
  go_wp2_with fail
  refine (hPl.out _ (HM.out.below hBb)).mono ?_
  rintro e w1 ⟨rfl, hB1⟩
  rw [ht]
  have hB2 := below_trans hBb hB1
  have el : entOf R s < (pageAt R (pageOf R s)).length := by
    have := (isIn_iff.1 ht).1
    rwa [length_keys] at this
  have eli : (entOf R s : Int) < ((pageAt R (pageOf R s)).length : Int) := by omega
  have hv := (Hpage.out _ el).2.2
  have h1v := Hone.out _ el
  obtain ⟨v, ev⟩ : ∃ v, v = (ent (pageAt R (pageOf R s)) (entOf R s)).v := ⟨_, rfl⟩
  rw [← ev] at hv h1v
  have Ev := Lib.hid ev; clear ev
  have n0 := below_cell hB2 m0
  have n1 := below_cell hB2 m1
  have n2 := below_cell hB2 m2
  have n3 := below_cell hB2 hrp
  have n4 := below_cell hB2 hv
  have HM1 := Lib.hid (HM.out.below hB2)
  have f1 := HM1.out.frozen 1
  have d0 : w1.cell? ⟨w.heap.size, 0, none⟩ = some (.pointer (some ⟨bx, 0, none⟩)) := below_cell hB1 (by simp)
  have hpos : (0 : Int) < (total R : Int) := by
    have := total_split R hp
    omega
  have hne1 : ¬ bx = w.heap.size := by omega
  have hne2 : ¬ w.heap.size = bx := by omega
  have hs1 : w.heap.size + 1 < w1.heap.size := by have := hB1.size; simp at this; omega
  have hne3 : ¬ bx = w1.heap.size := by omega
  have hne5 : ¬ bx = g := fun h => hgx.2 h.symm
  have hne6 : ¬ g = bx := hgx.2
  have hne7 : ¬ g2 = bx := (HM.out.sp _ hp g2 (by rw [hv2]; rfl)).2.1
  go_wp2_with fail
  obtain ⟨x1, x2, x4⟩ := HM.out.count0 hB2 (.int .i64 ((total R : Int) - 1))
  have x3 : (w1.setCell ⟨bx, 1, none⟩ (.int .i64 ((total R : Int) - 1))).cell? ⟨w.heap.size, 0, none⟩ = some (.pointer (some ⟨bx, 0, none⟩)) := (Ext.setCell (S := (· = bx)) rfl _).cell_some d0 hne2
  generalize World.setCell w1 _ _ = X at x1 x2 x3 x4 ⊢
  have hxs : w.heap.size + 1 < X.heap.size := by omega
  have y0 : X.cell? ⟨bx, 0, none⟩ = some (.int .i64 size) := by simp [World.cell?, x2]
  have y2 : X.cell? ⟨bx, 2, none⟩ = some (.slice (some ⟨g, 0, none⟩) R.length cap) := by simp [World.cell?, x2]
  have hpx := (HM.out.pages _ hp).ext x1 (fun k hk => ((HM.out.sp _ hp k hk).2.1))
  rw [hv2] at hpx
  refine (clone_page (w.heap.size + 2) _ g2 _ cap2 rfl (HO.out.full _ hp) (by omega) X (by omega) hpx).mono ?_
  clear hpx n0 n1 n2 n3 n4
  rintro e w2 ⟨v', rfl, hB3, g', cap', rfl, hg', hown⟩
  have Hown := Lib.hid hown; clear hown
  go_wp2_with fail
  refine (EU.delete_any (w.heap.size + 2) g' _ cap' (entOf R s) _ w2 Hown.out (by omega) el (cellsOf_one (HM.out.pages _ hp).one)).mono ?_
  rintro e w3 ⟨rfl, hl3, hx3⟩
  have hg'3 : g' < w3.heap.size := owns_lt hl3 rfl
  have e3 : Ext (· = bx) w w3 := (x1.trans (Ext.of_below (S := (· = bx)) hB3) fun k _ hk => hk).trans hx3 (fun k (hk : k < w.heap.size) (h : k = g') => by exfalso; omega)
  have X3 : Ext (· = g') X w3 := (Ext.of_below (S := (· = g')) hB3).trans hx3 fun k _ hk => hk
  obtain ⟨l, el'⟩ : ∃ l, l = (pageAt R (pageOf R s)).take (entOf R s) ++ (pageAt R (pageOf R s)).drop (entOf R s + 1) := ⟨_, rfl⟩
  obtain ⟨N, eN⟩ : ∃ N, N = (pageAt R (pageOf R s)).length - 1 := ⟨_, rfl⟩
  have hlen : l.length = N := by
    rw [el', eN]
    simp only [List.length_append, List.length_take, List.length_drop]; omega
  have hN : N + 1 = (pageAt R (pageOf R s)).length := by omega
  have ecl : (cellsOf (pageAt R (pageOf R s))).take (entOf R s * 3) ++ (cellsOf (pageAt R (pageOf R s))).drop ((entOf R s + 1) * 3) = cellsOf l := by
    rw [el', cellsOf_append, ← cellsOf_take, ← cellsOf_drop]
  have hone3 : ∀ e ∈ l, e.v.oneCell' = true := fun e he => by
    rw [el'] at he
    rcases List.mem_append.1 he with h | h
    · exact (HM.out.pages _ hp).one e (List.mem_of_mem_take h)
    · exact (HM.out.pages _ hp).one e (List.mem_of_mem_drop h)
  rw [ecl] at hl3
  rw [← eN] at hl3 ⊢
  have hNc : N ≤ cap' := by
    obtain ⟨_, _, hs, h1, _⟩ := owns_shape hl3
    injection hs with _ _ hs
    omega
  have hN63 : N ≤ 64 := by omega
  have Hone3 := Lib.hid hone3; clear hone3
  have El := Lib.hid el'; clear el'
  have Hlen := Lib.hid hlen; clear hlen
  have Hol := Lib.hid hl3; clear hl3
  have EN := Lib.hid eN; clear eN
  have HN := Lib.hid hN; clear hN
  clear ecl
  have hbg : ¬ bx = g' := by omega
  have hgg : ¬ g = g' := by omega
  have hbb' : ¬ w.heap.size = g' := by omega
  have hbb3 : ¬ w.heap.size = g := by omega
  have q2 : w3.heap[bx]? = _ := X3.heap x2 hbg
  have q0 : w3.cell? ⟨bx, 0, none⟩ = some (.int .i64 size) := X3.cell_some y0 hbg
  have q1 : w3.cell? ⟨bx, 2, none⟩ = some (.slice (some ⟨g, 0, none⟩) R.length cap) := X3.cell_some y2 hbg
  have q3 : w3.cell? ⟨w.heap.size, 0, none⟩ = some (.pointer (some ⟨bx, 0, none⟩)) := X3.cell_some x3 hbb'
  obtain rfl : N = 0 := by have := HN.out; have := H1.out; omega
  go_wp2_with fail
  have hBx := below_box w3 (.cells #[.slice (some ⟨g', 0, none⟩) 0 cap'] 89)
  have hbl : (w3.alloc (.cells #[.slice (some ⟨g', 0, none⟩) 0 cap'] 89)).cell? ⟨w3.heap.size, 0, none⟩ = some (.slice (some ⟨g', 0, none⟩) 0 cap') := by simp
  have hY2 : (w3.alloc (.cells #[.slice (some ⟨g', 0, none⟩) 0 cap'] 89)).heap.size = w3.heap.size + 1 := by simp
  generalize World.alloc w3 (.cells #[.slice (some ⟨g', 0, none⟩) 0 cap'] 89) = Y at hBx hbl hY2 ⊢
  have e4 : Ext (· = bx) w Y := e3.trans (Ext.of_below (S := (· = bx)) hBx) fun k _ hk => hk
  have p2 : Y.heap[bx]? = _ := below_heap hBx q2
  have p0 := below_cell hBx q0
  have p1 := below_cell hBx q1
  have p3 := below_cell hBx q3
  have Hol4 := Lib.hid (owns_below Hol.out hBx)
  have Hrows := Lib.hid (owns_ext HM.out.rows e4 (fun k hk => (HM.out.sr k hk).2))
  clear q0 q1 q2 q3
  refine wp_region_late 9 [0] (fun _ => none) (fun w' => w'.cell? ⟨w.heap.size, 0, none⟩ = some (.pointer (some ⟨bx, 0, none⟩)))
    (fun u w' => u = .slice (some ⟨g, 0, none⟩) (R.length - 1) cap ∧ w'.ownsRow 0 89 1 u (R.length - 1) (pvs.take (pageOf R s) ++ pvs.drop (pageOf R s + 1)) ∧ Ext (· = g) Y w') fol (by kernel_rfl)
    (fun b _ hb w' h => below_cell (below_trans hb h) p3) (fun W hW hh => ?_)
  clear hh
  have c1 : ∀ w1, Below W.heap.size W w1 → w1.cell? ⟨bx, 2, none⟩ = some (.slice (some ⟨g, 0, none⟩) R.length cap) := fun w1 h => below_cell (below_trans hW h) p1
  have c3 : ∀ w1, Below W.heap.size W w1 → w1.cell? ⟨w.heap.size, 0, none⟩ = some (.pointer (some ⟨bx, 0, none⟩)) := fun w1 h => below_cell (below_trans hW h) p3
  simp only [List.take_succ_cons, List.take_zero, List.drop_succ_cons, List.drop_zero]
  repeat (first
    | (refine rl_move _ (by first | exact Or.inl rfl | exact Or.inr rfl) (by first | exact Or.inl rfl | exact Or.inr rfl) rfl ?_
       simp only [Act.put, Act.eval, Array.getD_eq_getD_getElem?, List.getElem?_toArray, List.getElem?_cons_zero, List.getElem?_cons_succ, Option.getD_some, List.setIfInBounds_toArray, List.set_cons_succ, List.set_cons_zero]
      )
    | (refine rl_small ?_ rfl rfl (fun w1 hb1 hf1 => ?_) ?_
       rotate_left
       (go_simp; (try simp (disch := omega) only [IntWalk.i64_quo, IntWalk.rem_in, IntWalk.i64_in, IntWalk.u64_in, IntWalk.u32_in, IntWalk.u8_in, IntWalk.toNatUp, IntWalk.iteOmega]); (try go_simp); rfl)
       simp only [Act.put, Act.eval, Array.getD_eq_getD_getElem?, List.getElem?_toArray, List.getElem?_cons_zero, List.getElem?_cons_succ, Option.getD_some, List.setIfInBounds_toArray, List.set_cons_succ, List.set_cons_zero]
      )
    | (refine rl_big ?_ rfl rfl (fun w1 hcb1 => ?_) ?_
       rotate_left
       ((try dsimp only at hcb1); go_simp; (try simp (disch := omega) only [IntWalk.i64_quo, IntWalk.rem_in, IntWalk.i64_in, IntWalk.u64_in, IntWalk.u32_in, IntWalk.u8_in, IntWalk.toNatUp, IntWalk.iteOmega]); (try go_simp); rfl)
       simp only [Act.put, Act.eval, Array.getD_eq_getD_getElem?, List.getElem?_toArray, List.getElem?_cons_zero, List.getElem?_cons_succ, Option.getD_some, List.setIfInBounds_toArray, List.set_cons_succ, List.set_cons_zero]
      ))
  refine rl_late _ rfl rfl ?_ ?_
  · (unfold makes; go_simp; simp only [makesUpon])
    have hrs := HF.out.rows
    rw [IntWalk.i64_in _ (by omega)]
    refine (RU.delete_any 0 g R.length cap (pageOf R s) pvs W (owns_below Hrows.out hW) (by omega) hp HM.out.rows_one).mono ?_
    rintro e w7 ⟨rfl, ho, hx⟩
    refine ⟨_, rfl, hx.cell_some (below_cell hW p3) hbb3, rfl, ?_, (Ext.of_below (S := (· = g)) hW).trans hx fun k _ h => h⟩
    simpa only [Nat.mul_one] using ho
  rintro u7 w7 hcb7 ⟨rfl, hrow7, hx7⟩
  have Hrow7 := Lib.hid hrow7; clear hrow7
  simp only [Act.put, Act.eval, Array.getD_eq_getD_getElem?, List.getElem?_toArray, List.getElem?_cons_zero, List.getElem?_cons_succ, Option.getD_some, List.setIfInBounds_toArray, List.set_cons_succ, List.set_cons_zero]
  refine rl_nil ?_
  have r2 : w7.heap[bx]? = _ := hx7.heap p2 hne5
  have r1 : w7.cell? ⟨bx, 2, none⟩ = some (.slice (some ⟨g, 0, none⟩) R.length cap) := by simp [World.cell?, r2]
  have r4 : w7.frozen? ⟨bx, 2, none⟩ = false := by simp [World.frozen?, r2]
  go_wp2_with fail
  go_ret2
  have hrem : removeR size R s = R.take (pageOf R s) ++ ([] ++ R.drop (pageOf R s + 1)) := by
    unfold removeR
    rw [if_pos ht]
    simp only [← El.out]
    rw [if_pos Hlen.out]
    rfl
  have htp := total_remove (size := size) s hR ht
  rw [hrem] at htp ⊢
  have hend := HM.out.rows_end (ms := []) (vs := []) (i := pageOf R s) (j := pageOf R s + 1) hR (by omega) (by omega) rfl e4 hx7 r2 (by congr 1; omega) (by simp only [List.length_nil]; omega) Hrow7.out (fun q hq => by cases hq) (fun q hq => by cases hq) (fun k hk => .inl (Option.some.inj hk).symm)
  exact ⟨by rw [← Ev.out]; rfl, _, _, hend.1, hend.2⟩
end Go.Proofs.Ytagcohpghgnalaa.U
