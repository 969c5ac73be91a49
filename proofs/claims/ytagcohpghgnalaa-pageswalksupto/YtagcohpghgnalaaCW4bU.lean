/-
  The walk of Put where the page is split (V: uint64).
-/
import Derived.Test.YtagcohpghgnalaaCW4U
set_option linter.unusedSimpArgs false
set_option linter.unusedVariables false
namespace Go.Proofs.Ytagcohpghgnalaa.U
open Go.RowKit Go.RG Go.Hp Go.Pg Go.Proofs.Ytagcohpghgnalaa


/-- the halves in their row, each with its own block -/
def Pair (B : Nat) (m n : Nat) (p q : List Ent) : RG.Spec := fun u w' => ∃ gv va vb, u = .slice (some ⟨gv, 0, none⟩) 2 2 ∧ B ≤ gv ∧ Row w' gv 89 [va, vb] ∧ CP B m p va w' ∧ CP B n q vb w'
theorem Pair.st (B m n : Nat) (p q : List Ent) : RG.Spec.stable (Pair B m n p q) := fun u a b h hb => by
  obtain ⟨gv, va, vb, h1, h2, h3, h4, h5⟩ := h
  exact ⟨gv, va, vb, h1, h2, h3.below hb, CP.st _ _ _ _ _ _ h4 hb, CP.st _ _ _ _ _ _ h5 hb⟩
set_option maxRecDepth 100000 in
theorem put_split (s : St) (v : Value) (h1v : v.oneCell' = true) (bx size : Nat) (R : List (List Ent)) (hR : 0 < R.length) (hF : Fits size R) (hO : Ordered R) (ht : there R s = false)
    (hfit : size < (pageAt R (pageOf R s)).length + 1)
    (S : Nat → Prop) (vr : Value) (pvs : List Value) (w : World) (hM : MemV w bx size R S vr pvs) :
    Calls Try.prog 24 #[.pointer (some ⟨bx, 0, none⟩), s.v, v] w (PutPost w bx size R (putR size R s v) S true) := by
  have hp := pageOf_lt (s := s) hR
  have hsz : (size : Int) ≠ 0 := by have := hF.lo; omega
  have hsz' : ((size : Int) == 0) = false := by simpa using hsz
  obtain ⟨m0, m1, m2⟩ := hM.cells
  obtain ⟨g, cap, rfl, hg, hc, hcm, hrow, hfr⟩ := hM.row hR
  obtain ⟨g2, cap2, hv2, hg2, hc2, hcm2, hpage, hone, -⟩ := (hM.pages _ hp).parts (hO.full _ hp)
  have hrp := hrow _ hp
  rw [hv2] at hrp
  have hB0 := below_box w (.cells #[.int .u64 s.t, .int .u64 s.s] 38)
  have hbx := block_lt_of_heap hM.str
  have hgx := hM.sr g rfl
  have hlp := hF.page _ hp
  have hsize := hF.hi
  have hPl := Lib.hid (place_some s bx size hsz R hR (by have := hF.rows; omega) hO (fun i hi => by have := hF.page i hi; omega) S (.slice (some ⟨g, 0, none⟩) R.length cap) pvs)
  have hel := entOf_le R s
  have HM := Lib.hid hM; clear hM
  have HF := Lib.hid hF; clear hF
  have HO := Lib.hid hO; clear hO
  have Hone := Lib.hid hone; clear hone
  have Hpage := Lib.hid hpage; clear hpage
  have Hrow := Lib.hid hrow; clear hrow
  have Hfr := Lib.hid hfr; clear hfr
  have hvc := one_cells h1v
  unfold Value.cells at hvc
  have hst := fun w1 a => run_store Try.prog w1 a v .plain h1v
  have hRz : ((R.length : Int) == 0) = false := by rw [beq_eq_false_iff_ne]; omega
  have htot := HF.out.tot
  unfold St.v at hPl ⊢
  go_enter Try.func24, Try.ntmps24
  go_wp2_with fail
  refine (bare_any bx size _ (below_cell hB0 m0)).mono ?_
  rintro e w' ⟨rfl, rfl⟩
  go_wp2_with fail
  refine (hPl.out _ (HM.out.below hB0)).mono ?_
  rintro e w1 ⟨rfl, hB1⟩
  rw [ht]
  have hB2 := below_trans hB0 hB1
  have n1 := below_cell hB2 m1
  have n2 := below_cell hB2 m2
  have HM1 := Lib.hid (HM.out.below hB2)
  have n3 := HM1.out.frozen 1
  have n4 := HM1.out.frozen 2
  have d0 : w1.cell? ⟨w.heap.size, 0, none⟩ = some (.int .u64 s.t) := below_cell hB1 (by simp)
  have d1 : w1.cell? ⟨w.heap.size, 1, none⟩ = some (.int .u64 s.s) := below_cell hB1 (by simp)
  have hne1 : ¬ bx = w.heap.size := by omega
  have hne2 : ¬ w.heap.size = bx := by omega
  have hs1 : w.heap.size < w1.heap.size := by have := hB1.size; simp at this; omega
  have hs2 : bx < w1.heap.size := by omega
  have hne3 : ¬ bx = w1.heap.size := by omega
  have hne4 : ¬ w1.heap.size = bx := by omega
  go_wp2_with fail
  obtain ⟨x1, x2, x3, x4⟩ := HM.out.count hB2 (.int .i64 ((total R : Int) + 1)) (.cells #[.int .u64 s.t, .int .u64 s.s, v] 92)
  generalize World.alloc (World.setCell w1 _ _) _ = X at x1 x2 x3 x4 ⊢
  have y0 : X.cell? ⟨bx, 0, none⟩ = some (.int .i64 size) := by simp [World.cell?, x2]
  have y2 : X.cell? ⟨bx, 2, none⟩ = some (.slice (some ⟨g, 0, none⟩) R.length cap) := by simp [World.cell?, x2]
  have y3 : X.cell? ⟨g, pageOf R s, none⟩ = some (.slice (some ⟨g2, 0, none⟩) (pageAt R (pageOf R s)).length cap2) := x1.cell_some hrp hgx.2
  have z0 : X.cell? ⟨w1.heap.size, 0, none⟩ = some (.int .u64 s.t) := by simp [World.cell?, x3]
  have z1 : X.cell? ⟨w1.heap.size, 1, none⟩ = some (.int .u64 s.s) := by simp [World.cell?, x3]
  have z2 : X.cell? ⟨w1.heap.size, 2, none⟩ = some v := by simp [World.cell?, x3]
  have hpx := (HM.out.pages _ hp).ext x1 (fun k hk => ((HM.out.sp _ hp k hk).2.1))
  have hxs : w.heap.size ≤ X.heap.size := x1.size
  have HPx := Lib.hid hpx; clear hpx
  clear n1 n2 n3 n4 d0 d1
  refine wp_region_rg_tail 11 (fun i => if i = 7 then some (CP w.heap.size (pageAt R (pageOf R s)).length (pageAt R (pageOf R s))) else if i = 10 then some (fun u w' => ∃ gv, u = .slice (some ⟨gv, 0, none⟩) 1 1 ∧ w.heap.size ≤ gv ∧ Row w' gv 92 (Ent.cells ⟨s, v⟩)) else none) fol (by kernel_rfl) (fun W hW hh => ?_)
  clear hh
  have c2 : ∀ w1, Below W.heap.size W w1 → w1.cell? ⟨bx, 2, none⟩ = some (.slice (some ⟨g, 0, none⟩) R.length cap) := fun w1 h => below_cell (below_trans hW h) y2
  have c3 : ∀ w1, Below W.heap.size W w1 → w1.cell? ⟨g, pageOf R s, none⟩ = some (.slice (some ⟨g2, 0, none⟩) (pageAt R (pageOf R s)).length cap2) := fun w1 h => below_cell (below_trans hW h) y3
  have c4 : ∀ w2, Below W.heap.size W w2 → w2.cell? ⟨w1.heap.size, 0, none⟩ = some (.int .u64 s.t) := fun w1 h => below_cell (below_trans hW h) z0
  have c5 : ∀ w2, Below W.heap.size W w2 → w2.cell? ⟨w1.heap.size, 1, none⟩ = some (.int .u64 s.s) := fun w1 h => below_cell (below_trans hW h) z1
  have c6 : ∀ w2, Below W.heap.size W w2 → w2.cell? ⟨w1.heap.size, 2, none⟩ = some v := fun w1 h => below_cell (below_trans hW h) z2
  simp only [List.take_succ_cons, List.take_zero, List.drop_succ_cons, List.drop_zero]
  repeat (first
    | (refine lex_move _ (by first | exact Or.inl rfl | exact Or.inr rfl) rfl rfl ?_
       simp only [Act.put, Act.eval, Array.getD_eq_getD_getElem?, List.getElem?_toArray, List.getElem?_cons_zero, List.getElem?_cons_succ, Option.getD_some, List.setIfInBounds_toArray, List.set_cons_succ, List.set_cons_zero]
      )
    | (refine lex_float ?_ rfl rfl (fun w1 hb1 hf1 => ?_) ?_
       rotate_left
       (go_simp; (try simp (disch := omega) only [IntWalk.i64_quo, IntWalk.rem_in, IntWalk.i64_in, IntWalk.u64_in, IntWalk.u32_in, IntWalk.u8_in, IntWalk.toNatUp, IntWalk.iteOmega]); (try go_simp); rfl)
       simp only [Act.put, Act.eval, Array.getD_eq_getD_getElem?, List.getElem?_toArray, List.getElem?_cons_zero, List.getElem?_cons_succ, Option.getD_some, List.setIfInBounds_toArray, List.set_cons_succ, List.set_cons_zero]
      )
    | (refine lex_skip rfl ?_
       simp only [Act.put, Act.eval, Array.getD_eq_getD_getElem?, List.getElem?_toArray, List.getElem?_cons_zero, List.getElem?_cons_succ, Option.getD_some, List.setIfInBounds_toArray, List.set_cons_succ, List.set_cons_zero]
      ))
  refine lex_make _ rfl (by exact CP.st _ _ _) rfl (fun w1 hb1 hf1 => ?_) ?_
  · have hb1' := hb1
    (unfold makes; go_simp; simp only [makesUpon])
    have hBw := below_trans hW hb1'
    have hpg := HPx.out.below hBw
    rw [hv2] at hpg
    refine clone_page w.heap.size _ g2 _ cap2 rfl ?_ (by omega) _ (by have := hBw.size; omega) hpg
    exact HO.out.full _ hp
  rintro v' w' hB3 ⟨g', cap', rfl, hg', hown⟩
  have Hown := Lib.hid hown; clear hown
  simp only [Act.put, Act.eval, Array.getD_eq_getD_getElem?, List.getElem?_toArray, List.getElem?_cons_zero, List.getElem?_cons_succ, Option.getD_some, List.setIfInBounds_toArray, List.set_cons_succ, List.set_cons_zero]
  repeat (first
    | (refine lex_move _ (by first | exact Or.inl rfl | exact Or.inr rfl) rfl rfl ?_
       simp only [Act.put, Act.eval, Array.getD_eq_getD_getElem?, List.getElem?_toArray, List.getElem?_cons_zero, List.getElem?_cons_succ, Option.getD_some, List.setIfInBounds_toArray, List.set_cons_succ, List.set_cons_zero]
      )
    | (refine lex_float ?_ rfl rfl (fun w1 hb1 hf1 => ?_) ?_
       rotate_left
       (go_simp; (try simp (disch := omega) only [IntWalk.i64_quo, IntWalk.rem_in, IntWalk.i64_in, IntWalk.u64_in, IntWalk.u32_in, IntWalk.u8_in, IntWalk.toNatUp, IntWalk.iteOmega]); (try go_simp); rfl)
       simp only [Act.put, Act.eval, Array.getD_eq_getD_getElem?, List.getElem?_toArray, List.getElem?_cons_zero, List.getElem?_cons_succ, Option.getD_some, List.setIfInBounds_toArray, List.set_cons_succ, List.set_cons_zero]
      )
    | (refine lex_skip rfl ?_
       simp only [Act.put, Act.eval, Array.getD_eq_getD_getElem?, List.getElem?_toArray, List.getElem?_cons_zero, List.getElem?_cons_succ, Option.getD_some, List.setIfInBounds_toArray, List.set_cons_succ, List.set_cons_zero]
      ))
  refine lex_make _ rfl (by exact fun u a b h hb => by obtain ⟨gv, h1, h2, h3⟩ := h; exact ⟨gv, h1, h2, h3.below hb⟩) rfl (fun w1 hb1 hf1 => ?_) ?_
  · have hb1' := hb1
    (unfold makes; go_simp; simp only [makesUpon])
    have hs5 := hb1'.size
    have hs6 := hW.size
    exact ⟨below_box _ _, _, rfl, by omega, row_new _ _ _⟩
  rintro u w2 hB4 ⟨gv, rfl, hgv, hrv⟩
  have Hown2 := Lib.hid (owns_below Hown.out hB4)
  have hap := apart_new Hown2.out rfl (HO.out.full _ hp) hrv ht
  have hB5 := below_trans hB3 hB4
  have hB6 := below_trans hW hB5
  simp only [Act.put, Act.eval, Array.getD_eq_getD_getElem?, List.getElem?_toArray, List.getElem?_cons_zero, List.getElem?_cons_succ, Option.getD_some, List.setIfInBounds_toArray, List.set_cons_succ, List.set_cons_zero]
  refine lex_nil ?_
  go_wp2_with fail
  refine (EU.insert_any w.heap.size g' _ cap' (entOf R s) gv _ _ w2 Hown2.out (by have := hB6.size; omega) (by omega) hel hrv hap rfl (ent_one s h1v) (cellsOf_one (HM.out.pages _ hp).one)).mono ?_
  rintro e w3 ⟨l, rfl, hl3, hx3⟩
  have hll := owns_length hl3
  obtain ⟨g3, cap3, rfl, hg3, hg3l, hn3, hc3, -, -⟩ := owns_parts hl3 (Nat.succ_pos _)
  have e3 : Ext (· = bx) w w3 := (x1.trans (Ext.of_below (S := (· = bx)) hB6) fun k _ hk => hk).trans hx3 (fun k (hk : k < w.heap.size) (h : k = g') => by exfalso; omega)
  have X3 : Ext (· = g') X w3 := (Ext.of_below (S := (· = g')) hB6).trans hx3 fun k _ hk => hk
  have hbg : ¬ bx = g' := by omega
  have hgg : ¬ g = g' := by omega
  have q2 : w3.heap[bx]? = _ := X3.heap x2 hbg
  have q0 : w3.cell? ⟨bx, 0, none⟩ = some (.int .i64 size) := X3.cell_some y0 hbg
  have q1 : w3.cell? ⟨bx, 2, none⟩ = some (.slice (some ⟨g, 0, none⟩) R.length cap) := X3.cell_some y2 hbg
  have q3 : w3.cell? ⟨g, pageOf R s, none⟩ = some (.slice (some ⟨g2, 0, none⟩) (pageAt R (pageOf R s)).length cap2) := X3.cell_some y3 hgg
  have q4 : w3.frozen? ⟨bx, 2, none⟩ = false := by simp [World.frozen?, q2]
  have q5 : w3.frozen? ⟨g, pageOf R s, none⟩ = false := by
    have h := Hfr.out (pageOf R s)
    have hh : w3.heap[g]? = w.heap[g]? := e3.block g hg hgx.2
    simp only [World.frozen?] at h ⊢
    rw [hh]
    exact h
  have Hl3 := Lib.hid hl3; clear hl3
  clear c2 c3 c4 c5 c6
  have hif : ¬ ((pageAt R (pageOf R s)).length : Int) + 1 ≤ (size : Int) := by omega
  have hne5 : ¬ bx = g := fun h => hgx.2 h.symm
  have hne6 : ¬ g = bx := hgx.2
  go_wp2_with fail
  obtain ⟨h, eh⟩ : ∃ h, h = ((pageAt R (pageOf R s)).length + 1) / 2 := ⟨_, rfl⟩
  have hk2 : (((pageAt R (pageOf R s)).length : Int) + 1) / 2 = (h : Int) := by omega
  rw [hk2]
  have hlo := HF.out.lo
  have hh0 : 0 < h := by omega
  have hh1 : h < (pageAt R (pageOf R s)).length + 1 := by omega
  obtain ⟨l, el⟩ : ∃ l, l = (pageAt R (pageOf R s)).take (entOf R s) ++ (⟨s, v⟩ :: (pageAt R (pageOf R s)).drop (entOf R s)) := ⟨_, rfl⟩
  have hlen : l.length = (pageAt R (pageOf R s)).length + 1 := by
    rw [el]
    simp only [List.length_append, List.length_take, List.length_cons, List.length_drop]; omega
  have ecl : (cellsOf (pageAt R (pageOf R s))).take (entOf R s * 3) ++ (Ent.cells ⟨s, v⟩ ++ (cellsOf (pageAt R (pageOf R s))).drop (entOf R s * 3)) = cellsOf l := by
    rw [el, cellsOf_append, cellsOf_cons, ← cellsOf_take, ← cellsOf_drop]
  have hol := Hl3.out
  rw [ecl] at hol
  have hone3 : ∀ e ∈ l, e.v.oneCell' = true := fun e he => by
    rw [el] at he
    rcases List.mem_append.1 he with h | h
    · exact (HM.out.pages _ hp).one e (List.mem_of_mem_take h)
    · rcases List.mem_cons.1 h with rfl | h
      · exact h1v
      · exact (HM.out.pages _ hp).one e (List.mem_of_mem_drop h)
  have Hone3 := Lib.hid hone3; clear hone3
  have El := Lib.hid el; clear el
  have Eh := Lib.hid eh; clear eh
  have Hlen := Lib.hid hlen; clear hlen
  have Hol := Lib.hid hol; clear hol
  clear ecl Hl3 hk2
  obtain ⟨N, eN⟩ : ∃ N, N = (pageAt R (pageOf R s)).length + 1 := ⟨_, rfl⟩
  rw [← eN] at hh1 hn3 ⊢
  have hci : ¬ cap3 = h := by omega
  have hg3x : ¬ g3 = g := by omega
  have hrow := HM.out.rows
  have Hrows := Lib.hid (owns_ext hrow e3 (fun k hk => (HM.out.sr k hk).2)); clear hrow
  have EN := Lib.hid eN; clear eN
  refine wp_region_late 18 [0] (fun i => if i = 11 then some (CP w.heap.size h (l.take h)) else if i = 15 then some (CP w.heap.size (N - h) (l.drop h)) else if i = 16 then some (Pair w.heap.size h (N - h) (l.take h) (l.drop h)) else none) (fun _ => True)
    (fun u w' => ∃ va vb a cap', w'.ownsRow 0 89 1 u (R.length + 1) (pvs.take (pageOf R s) ++ ([va, vb] ++ pvs.drop (pageOf R s + 1))) ∧ CP w.heap.size h (l.take h) va w' ∧ CP w.heap.size (N - h) (l.drop h) vb w' ∧ Ext (· = g) w3 w' ∧
      (∀ k, u.ownBlock = some k → k = g ∨ (w3.heap.size ≤ k ∧ va.ownBlock ≠ some k ∧ vb.ownBlock ≠ some k)) ∧ u = .slice a (R.length + 1) cap') fol (by kernel_rfl) (fun _ _ _ _ _ => trivial) (fun W hW hh => ?_)
  clear hh
  have c2 : ∀ w1, Below W.heap.size W w1 → w1.cell? ⟨bx, 2, none⟩ = some (.slice (some ⟨g, 0, none⟩) R.length cap) := fun w1 h => below_cell (below_trans hW h) q1
  have Hol1 := fun w1 h => Lib.hid (owns_below (w' := w1) Hol.out (below_trans hW h))
  have Hrw1 := fun w1 h => Lib.hid (owns_below (w' := w1) Hrows.out (below_trans hW h))
  simp only [List.take_succ_cons, List.take_zero, List.drop_succ_cons, List.drop_zero]
  repeat (first
    | (refine rl_move _ (by first | exact Or.inl rfl | exact Or.inr rfl) (by first | exact Or.inl rfl | exact Or.inr rfl) rfl ?_
       simp only [Act.put, Act.eval, Array.getD_eq_getD_getElem?, List.getElem?_toArray, List.getElem?_cons_zero, List.getElem?_cons_succ, Option.getD_some, List.setIfInBounds_toArray, List.set_cons_succ, List.set_cons_zero]
      )
    | (refine rl_small ?_ rfl rfl (fun w1 hb1 hf1 => ?_) ?_
       rotate_left
       (go_simp; (try simp (disch := omega) only [IntWalk.i64_quo, IntWalk.rem_in, IntWalk.i64_in, IntWalk.u64_in, IntWalk.u32_in, IntWalk.u8_in, IntWalk.toNatUp, IntWalk.iteOmega]); (try go_simp); rfl)
       simp only [Act.put, Act.eval, Array.getD_eq_getD_getElem?, List.getElem?_toArray, List.getElem?_cons_zero, List.getElem?_cons_succ, Option.getD_some, List.setIfInBounds_toArray, List.set_cons_succ, List.set_cons_zero]
      )
    | (refine rl_big ?_ rfl rfl (fun w1 hcb1 => ?_) ?_
       rotate_left
       ((try dsimp only at hcb1); go_simp; (try simp (disch := omega) only [IntWalk.i64_quo, IntWalk.rem_in, IntWalk.i64_in, IntWalk.u64_in, IntWalk.u32_in, IntWalk.u8_in, IntWalk.toNatUp, IntWalk.iteOmega]); (try go_simp); rfl)
       simp only [Act.put, Act.eval, Array.getD_eq_getD_getElem?, List.getElem?_toArray, List.getElem?_cons_zero, List.getElem?_cons_succ, Option.getD_some, List.setIfInBounds_toArray, List.set_cons_succ, List.set_cons_zero]
      ))
  refine rl_make _ rfl (by exact CP.st _ _ _) rfl (fun w1 hb1 hf1 => ?_) ?_
  · have hb1' := hb1
    (unfold makes; go_simp; simp only [makesUpon])
    refine clone_src w.heap.size (l.take h) ⟨g3, 0, none⟩ h cap3 (by rw [List.length_take, Hlen.out]; have := EN.out; omega) hh0 (by have := EN.out; omega) (fun e he => Hone3.out e (List.mem_of_mem_take he)) w1 ?_ ?_
    · have h1 := e3.size; have h2 := hW.size; have h3 := hb1'.size; omega
    · intro j u hj
      rw [← cellsOf_take, List.getElem?_take] at hj
      split at hj
      · exact owns_src (Hol1 _ hb1').out j u hj
      · cases hj
  rintro u4 w4 hB7 ⟨g4, cap4, rfl, hg4, hown4⟩
  have Hown4 := Lib.hid hown4; clear hown4
  simp only [Act.put, Act.eval, Array.getD_eq_getD_getElem?, List.getElem?_toArray, List.getElem?_cons_zero, List.getElem?_cons_succ, Option.getD_some, List.setIfInBounds_toArray, List.set_cons_succ, List.set_cons_zero]
  repeat (first
    | (refine rl_move _ (by first | exact Or.inl rfl | exact Or.inr rfl) (by first | exact Or.inl rfl | exact Or.inr rfl) rfl ?_
       simp only [Act.put, Act.eval, Array.getD_eq_getD_getElem?, List.getElem?_toArray, List.getElem?_cons_zero, List.getElem?_cons_succ, Option.getD_some, List.setIfInBounds_toArray, List.set_cons_succ, List.set_cons_zero]
      )
    | (refine rl_small ?_ rfl rfl (fun w1 hb1 hf1 => ?_) ?_
       rotate_left
       (go_simp; (try simp (disch := omega) only [IntWalk.i64_quo, IntWalk.rem_in, IntWalk.i64_in, IntWalk.u64_in, IntWalk.u32_in, IntWalk.u8_in, IntWalk.toNatUp, IntWalk.iteOmega]); (try go_simp); rfl)
       simp only [Act.put, Act.eval, Array.getD_eq_getD_getElem?, List.getElem?_toArray, List.getElem?_cons_zero, List.getElem?_cons_succ, Option.getD_some, List.setIfInBounds_toArray, List.set_cons_succ, List.set_cons_zero]
      )
    | (refine rl_big ?_ rfl rfl (fun w1 hcb1 => ?_) ?_
       rotate_left
       ((try dsimp only at hcb1); go_simp; (try simp (disch := omega) only [IntWalk.i64_quo, IntWalk.rem_in, IntWalk.i64_in, IntWalk.u64_in, IntWalk.u32_in, IntWalk.u8_in, IntWalk.toNatUp, IntWalk.iteOmega]); (try go_simp); rfl)
       simp only [Act.put, Act.eval, Array.getD_eq_getD_getElem?, List.getElem?_toArray, List.getElem?_cons_zero, List.getElem?_cons_succ, Option.getD_some, List.setIfInBounds_toArray, List.set_cons_succ, List.set_cons_zero]
      ))
  refine rl_make _ rfl (by exact CP.st _ _ _) rfl (fun w1 hb1 hf1 => ?_) ?_
  · have hb1' := hb1
    (unfold makes; go_simp; simp only [makesUpon])
    refine clone_src w.heap.size (l.drop h) ⟨g3, h * 3, none⟩ (N - h) (cap3 - h) (by rw [List.length_drop, Hlen.out]; have := EN.out; omega) (by omega) (by have := EN.out; omega) (fun e he => Hone3.out e (List.mem_of_mem_drop he)) w1 ?_ ?_
    · have h1 := e3.size; have h2 := hW.size; have h3 := hb1'.size; omega
    · intro j u hj
      rw [← cellsOf_drop, List.getElem?_drop] at hj
      have := owns_src (Hol1 _ hb1').out _ u hj
      rw [Addr.add_lit] at this ⊢
      simpa using this
  rintro u5 w5 hB8 ⟨g5, cap5, rfl, hg5, hown5⟩
  have Hown5 := Lib.hid hown5; clear hown5
  simp only [Act.put, Act.eval, Array.getD_eq_getD_getElem?, List.getElem?_toArray, List.getElem?_cons_zero, List.getElem?_cons_succ, Option.getD_some, List.setIfInBounds_toArray, List.set_cons_succ, List.set_cons_zero]
  repeat (first
    | (refine rl_move _ (by first | exact Or.inl rfl | exact Or.inr rfl) (by first | exact Or.inl rfl | exact Or.inr rfl) rfl ?_
       simp only [Act.put, Act.eval, Array.getD_eq_getD_getElem?, List.getElem?_toArray, List.getElem?_cons_zero, List.getElem?_cons_succ, Option.getD_some, List.setIfInBounds_toArray, List.set_cons_succ, List.set_cons_zero]
      )
    | (refine rl_small ?_ rfl rfl (fun w1 hb1 hf1 => ?_) ?_
       rotate_left
       (go_simp; (try simp (disch := omega) only [IntWalk.i64_quo, IntWalk.rem_in, IntWalk.i64_in, IntWalk.u64_in, IntWalk.u32_in, IntWalk.u8_in, IntWalk.toNatUp, IntWalk.iteOmega]); (try go_simp); rfl)
       simp only [Act.put, Act.eval, Array.getD_eq_getD_getElem?, List.getElem?_toArray, List.getElem?_cons_zero, List.getElem?_cons_succ, Option.getD_some, List.setIfInBounds_toArray, List.set_cons_succ, List.set_cons_zero]
      )
    | (refine rl_big ?_ rfl rfl (fun w1 hcb1 => ?_) ?_
       rotate_left
       ((try dsimp only at hcb1); go_simp; (try simp (disch := omega) only [IntWalk.i64_quo, IntWalk.rem_in, IntWalk.i64_in, IntWalk.u64_in, IntWalk.u32_in, IntWalk.u8_in, IntWalk.toNatUp, IntWalk.iteOmega]); (try go_simp); rfl)
       simp only [Act.put, Act.eval, Array.getD_eq_getD_getElem?, List.getElem?_toArray, List.getElem?_cons_zero, List.getElem?_cons_succ, Option.getD_some, List.setIfInBounds_toArray, List.set_cons_succ, List.set_cons_zero]
      ))
  refine rl_make _ rfl (by exact Pair.st _ _ _ _ _) rfl (fun w1 hb1 hf1 => ?_) ?_
  · have hb1' := hb1
    have f4 : CP w.heap.size h (l.take h) (.slice (some ⟨g4, 0, none⟩) h cap4) w1 := hf1 110 (by decide) (by simp)
    have f5 : CP w.heap.size (N - h) (l.drop h) (.slice (some ⟨g5, 0, none⟩) (N - h) cap5) w1 := hf1 114 (by decide) (by simp)
    clear hf1
    (unfold makes; go_simp; simp only [makesUpon])
    have hb2 := below_box w1 (.cells #[.slice (some ⟨g4, 0, none⟩) h cap4, .slice (some ⟨g5, 0, none⟩) (N - h) cap5] 89)
    refine ⟨hb2, w1.heap.size, _, _, rfl, ?_, row_new _ _ _, CP.st _ _ _ _ _ _ f4 hb2, CP.st _ _ _ _ _ _ f5 hb2⟩
    have h1 := e3.size; have h2 := hW.size; have h3 := hb1'.size; omega
  rintro u6 w6 hB9 ⟨gv6, va, vb, rfl, hg6, hrow6, hva, hvb⟩
  have hB10 := below_trans (below_trans hB7 hB8) hB9
  have hrw := (Hrw1 _ hB10).out
  have Hrow6 := Lib.hid hrow6; clear hrow6
  have Hrw := Lib.hid hrw; clear hrw
  have Hva := Lib.hid hva; clear hva
  have Hvb := Lib.hid hvb; clear hvb
  simp only [Act.put, Act.eval, Array.getD_eq_getD_getElem?, List.getElem?_toArray, List.getElem?_cons_zero, List.getElem?_cons_succ, Option.getD_some, List.setIfInBounds_toArray, List.set_cons_succ, List.set_cons_zero]
  refine rl_late _ rfl rfl ?_ ?_
  · (unfold makes; go_simp; simp only [makesUpon])
    have hb6 := hB10.size
    have hw3 := hW.size
    have hrs := HF.out.rows
    rw [IntWalk.i64_in _ (by omega)]
    have one6 : ∀ x ∈ [va, vb], x.oneCell' = true := by
      obtain ⟨_, _, h1, -⟩ := Hva.out
      obtain ⟨_, _, h2, -⟩ := Hvb.out
      intro x hx
      rcases List.mem_cons.1 hx with rfl | hx
      · rw [h1]; rfl
      · obtain rfl := List.mem_singleton.1 hx
        rw [h2]; rfl
    have hwx := e3.size
    refine (RU.rep12 0 g R.length cap (pageOf R s) gv6 pvs [va, vb] w6 Hrw.out (Nat.zero_le _) (by omega) hp Hrow6.out (by omega) rfl one6 HM.out.rows_one).mono ?_
    rintro e w7 ⟨u, rfl, hu1, hu2, hu3⟩
    obtain ⟨a7, cap7, hs7, -⟩ := owns_shape hu1
    obtain ⟨ga, ca, ea, hga, hoa⟩ := Hva.out
    obtain ⟨gb, cb, eb, hgb, hob⟩ := Hvb.out
    have hga6 : ga < w6.heap.size := owns_lt hoa (by rw [ea]; rfl)
    have hgb6 : gb < w6.heap.size := owns_lt hob (by rw [eb]; rfl)
    refine ⟨u, rfl, va, vb, hu1, ⟨ga, ca, ea, hga, owns_ext hoa hu2 ?_⟩, ⟨gb, cb, eb, hgb, owns_ext hob hu2 ?_⟩, ?_, fun k hk => ?_, _, _, hs7⟩
    · rw [ea]; intro k hk hh
      have hk : ga = k := Option.some.inj hk
      have hh : k = g := hh
      omega
    · rw [eb]; intro k hk hh
      have hk : gb = k := Option.some.inj hk
      have hh : k = g := hh
      omega
    · exact (Ext.of_below (S := (· = g)) (below_trans hW hB10)).trans hu2 fun k _ h => h
    · rcases hu3 k hk with h | h
      · exact .inl h
      · refine .inr ⟨by omega, ?_, ?_⟩
        · rw [ea]; intro hk; have hk : ga = k := Option.some.inj hk; omega
        · rw [eb]; intro hk; have hk : gb = k := Option.some.inj hk; omega
  rintro u7 w7 - ⟨va7, vb7, a7, cap7, hrow7, hva7, hvb7, hx7, hbk7, rfl⟩
  have Hrow7 := Lib.hid hrow7; clear hrow7
  have Hva7 := Lib.hid hva7; clear hva7
  have Hvb7 := Lib.hid hvb7; clear hvb7
  have Hbk7 := Lib.hid hbk7; clear hbk7
  simp only [Act.put, Act.eval, Array.getD_eq_getD_getElem?, List.getElem?_toArray, List.getElem?_cons_zero, List.getElem?_cons_succ, Option.getD_some, List.setIfInBounds_toArray, List.set_cons_succ, List.set_cons_zero]
  refine rl_nil ?_
  have r2 : w7.heap[bx]? = _ := hx7.heap q2 hne5
  have r1 : w7.cell? ⟨bx, 2, none⟩ = some (.slice (some ⟨g, 0, none⟩) R.length cap) := by simp [World.cell?, r2]
  have r4 : w7.frozen? ⟨bx, 2, none⟩ = false := by simp [World.frozen?, r2]
  go_wp2_with fail
  go_ret
  have hput : putR size R s v = R.take (pageOf R s) ++ ([l.take h, l.drop h] ++ R.drop (pageOf R s + 1)) := by
    unfold putR
    rw [if_neg (by omega), if_neg (by rw [ht]; decide)]
    simp only [← El.out]
    rw [if_neg (by rw [Hlen.out]; omega), Hlen.out, ← Eh.out]
    rfl
  have htp := total_put (size := size) s v hR
  rw [hput, ht] at htp
  obtain ⟨ga, ca, rfl, hga, hoa⟩ := Hva7.out
  obtain ⟨gb, cb, rfl, hgb, hob⟩ := Hvb7.out
  rw [hput]
  have hend := HM.out.put_split hp (Hlen.out.trans EN.out.symm) hh1 Hone3.out e3 hx7 r2 (by rw [htp]; rfl) rfl Hrow7.out hga hgb hoa hob (fun k hk => (Hbk7.out k hk).imp id fun h => ⟨h.1, fun e => h.2.1 (congrArg some e), fun e => h.2.2 (congrArg some e)⟩)
  exact ⟨rfl, _, _, hend.1, hend.2⟩

/-- Put, whatever there is -/
theorem put_fine (s : St) (v : Value) (h1v : v.oneCell' = true) (bx size : Nat) (R : List (List Ent)) (hF : Fits size R) (hO : Ordered R)
    (S : Nat → Prop) (vr : Value) (pvs : List Value) (w : World) (hM : MemV w bx size R S vr pvs) :
    Calls Try.prog 24 #[.pointer (some ⟨bx, 0, none⟩), s.v, v] w (PutPost w bx size R (putR size R s v) S (!(decide (0 < R.length) && there R s))) := by
  rcases Nat.eq_zero_or_pos R.length with h0 | h0
  · obtain rfl := List.eq_nil_of_length_eq_zero h0
    exact put_nil s v h1v bx size (by have := hF.lo; omega) S vr pvs w hM
  · rw [decide_eq_true h0]
    cases ht : there R s
    · rcases Nat.lt_or_ge size ((pageAt R (pageOf R s)).length + 1) with h | h
      · exact put_split s v h1v bx size R h0 hF hO ht h S vr pvs w hM
      · exact put_fits s v h1v bx size R h0 hF hO ht h S vr pvs w hM
    · exact put_there s v h1v bx size R h0 hF hO ht S vr pvs w hM
theorem put_any (s : St) (v : Value) (h1v : v.oneCell' = true) (bx size : Nat) (R : List (List Ent)) (hF : Fits size R) (hO : Ordered R)
    (S : Nat → Prop) (vr : Value) (pvs : List Value) (w : World) (hM : MemV w bx size R S vr pvs) :
    Calls Try.prog 24 #[.pointer (some ⟨bx, 0, none⟩), s.v, v] w fun e w' => e = .returned (.bool (!(decide (0 < R.length) && there R s))) ∧ ∃ vr' pvs', MemV w' bx size (putR size R s v) (fun k => S k ∨ w.heap.size ≤ k) vr' pvs' ∧ Ext S w w' :=
  (put_fine s v h1v bx size R hF hO S vr pvs w hM).mono fun e w' ⟨h1, vr', pvs', h2, h3⟩ => ⟨h1, vr', pvs', h2, h3.ext.mono fun k _ hk => hM.wr k hk⟩
end Go.Proofs.Ytagcohpghgnalaa.U
