/-
  The walk of Put (V: uint64).
-/
import Derived.Test.YtagcohpghgnalaaCW2U
import Derived.Test.YtagcohpghgnalaaCGB
import Derived.Test.YtagcohpghgnalaaCGC
import Derived.Test.YtagcohpghgnalaaCGEU
import Derived.Test.YtagcohpghgnalaaCGRU
set_option linter.unusedSimpArgs false
set_option linter.unusedVariables false
namespace Go.Proofs.Ytagcohpghgnalaa.U
open Go.RowKit Go.RG Go.Hp Go.Pg Go.Proofs.Ytagcohpghgnalaa



/-- sizes that a walk can bear -/
structure Fits (size : Nat) (R : List (List Ent)) : Prop where
  lo : 4 ≤ size
  hi : size ≤ 64
  rows : R.length ≤ 274877906944
  tot : total R ≤ 274877906944
  page : ∀ i, i < R.length → (pageAt R i).length ≤ size

def PutPost (w : World) (bx size : Nat) (R R' : List (List Ent)) (S : Nat → Prop) (b : Bool) (e : Ending) (w' : World) : Prop :=
  e = .returned (.bool b) ∧ ∃ vr' pvs', MemV w' bx size R' (fun k => S k ∨ w.heap.size ≤ k) vr' pvs' ∧ Wrote w bx vr' w'

/-- a copy of a page, in a block of its own -/
def CP (B n : Nat) (p : List Ent) : RG.Spec := fun v w' => ∃ g' cap', v = .slice (some ⟨g', 0, none⟩) n cap' ∧ B ≤ g' ∧ w'.ownsRow B 92 3 v n (cellsOf p)
theorem CP.st (B n : Nat) (p : List Ent) : RG.Spec.stable (CP B n p) := fun v a b h hb => by
  obtain ⟨g', cap', h1, h2, h3⟩ := h
  exact ⟨g', cap', h1, h2, owns_below h3 hb⟩
theorem clone_src (B : Nat) (p : List Ent) (ad : Addr) (n c : Nat) (hn : p.length = n) (h0 : 0 < n) (hm : n ≤ 1099511627776) (h1 : ∀ e ∈ p, e.v.oneCell' = true) (w : World) (hB : B ≤ w.heap.size)
    (hsrc : ∀ j u, (cellsOf p)[j]? = some u → w.cell? (ad.add j) = some u) :
    Calls Try.prog 51 #[.slice (some ad) n c] w fun e w' => ∃ v, e = .returned v ∧ Below w.heap.size w w' ∧ CP B n p v w' := by
  refine (EU.clone_any ad n c (cellsOf p) (by rw [length_cellsOf, hn]) (cellsOf_one h1) hm w hsrc).mono ?_
  rintro e w' ⟨v, rfl, hown, -, hb⟩
  have hown := owns_base hown (base' := B) fun k hk => Nat.le_trans hB (hown.lt k hk).1
  obtain ⟨g', cap', rfl, hg, -⟩ := owns_parts hown h0
  exact ⟨_, rfl, hb, g', cap', rfl, hg, hown⟩
theorem clone_page (B : Nat) (p : List Ent) (g n c : Nat) (hn : p.length = n) (h0 : 0 < n) (hm : n ≤ 1099511627776) (w : World) (hB : B ≤ w.heap.size) (h : PageIs 92 w (.slice (some ⟨g, 0, none⟩) n c) p) :
    Calls Try.prog 51 #[.slice (some ⟨g, 0, none⟩) n c] w fun e w' => ∃ v, e = .returned v ∧ Below w.heap.size w w' ∧ CP B n p v w' := by
  subst hn
  exact clone_src B p ⟨g, 0, none⟩ _ c rfl h0 hm h.one w hB (owns_src h.row)

theorem ent_one (s : St) {v : Value} (h : v.oneCell' = true) : ∀ u ∈ Ent.cells ⟨s, v⟩, u.oneCell' = true := by
  intro u hu
  simp only [Ent.cells, List.mem_cons, List.not_mem_nil, or_false] at hu
  rcases hu with rfl | rfl | rfl
  · rfl
  · rfl
  · exact h
theorem one_cells {v : Value} (h : v.oneCell' = true) : v.cells = #[v] := by cases v <;> first | rfl | cases h

set_option maxRecDepth 100000 in
theorem put_there (s : St) (v : Value) (h1v : v.oneCell' = true) (bx size : Nat) (R : List (List Ent)) (hR : 0 < R.length) (hF : Fits size R) (hO : Ordered R) (ht : there R s = true)
    (S : Nat → Prop) (vr : Value) (pvs : List Value) (w : World) (hM : MemV w bx size R S vr pvs) :
    Calls Try.prog 24 #[.pointer (some ⟨bx, 0, none⟩), s.v, v] w (PutPost w bx size R (putR size R s v) S false) := by
  have hp := pageOf_lt (s := s) hR
  have hsz : (size : Int) ≠ 0 := by have := hF.lo; omega
  have hsz' : ((size : Int) == 0) = false := by simpa using hsz
  obtain ⟨m0, m1, m2⟩ := hM.cells
  obtain ⟨g, cap, rfl, hg, hc, hcm, hrow, hfr⟩ := hM.row hR
  obtain ⟨g2, cap2, hv2, hg2, hc2, hcm2, hpage, hone, -⟩ := (hM.pages _ hp).parts (hO.full _ hp)
  have hrp := hrow _ hp
  rw [hv2] at hrp
  have hB0 := below_box w (.cells #[.int .u64 s.t, .int .u64 s.s] 38)
  have hbx := block_lt_of_heap hM.str
  have hgx := hM.sr g rfl
  have hlp := hF.page _ hp
  have hsize := hF.hi
  have hPl := Lib.hid (place_some s bx size hsz R hR (by have := hF.rows; omega) hO (fun i hi => by have := hF.page i hi; omega) S (.slice (some ⟨g, 0, none⟩) R.length cap) pvs)
  have hel := entOf_le R s
  have HM := Lib.hid hM; clear hM
  have HF := Lib.hid hF; clear hF
  have HO := Lib.hid hO; clear hO
  have Hone := Lib.hid hone; clear hone
  have Hpage := Lib.hid hpage; clear hpage
  have Hrow := Lib.hid hrow; clear hrow
  have Hfr := Lib.hid hfr; clear hfr
  unfold St.v at hPl ⊢
  go_enter Try.func24, Try.ntmps24
  go_wp2_with fail
  refine (bare_any bx size _ (below_cell hB0 m0)).mono ?_
  rintro e w' ⟨rfl, rfl⟩
  go_wp2_with fail
  refine (hPl.out _ (HM.out.below hB0)).mono ?_
  rintro e w1 ⟨rfl, hB1⟩
  rw [ht]
  have hB2 := below_trans hB0 hB1
  have n2 := below_cell hB2 m2
  have nrp := below_cell hB2 hrp
  go_wp2_with fail
  clear hPl hrp hB1
  -- the page's own copy
  refine wp_region_rg_tail 13 (fun i => if i = 12 then some (CP w.heap.size (pageAt R (pageOf R s)).length (pageAt R (pageOf R s))) else none) fol (by kernel_rfl) (fun W hW hh => ?_)
  clear hh
  have hBW := below_trans hB2 hW
  have c2 : ∀ w1, Below W.heap.size W w1 → w1.cell? ⟨bx, 2, none⟩ = some (.slice (some ⟨g, 0, none⟩) R.length cap) := fun w1 h => below_cell (below_trans hW h) n2
  have c3 : ∀ w1, Below W.heap.size W w1 → w1.cell? ⟨g, pageOf R s, none⟩ = some (.slice (some ⟨g2, 0, none⟩) (pageAt R (pageOf R s)).length cap2) := fun w1 h => below_cell (below_trans hW h) nrp
  simp only [List.take_succ_cons, List.take_zero, List.drop_succ_cons, List.drop_zero]
  repeat (first
    | (refine lex_move _ (by first | exact Or.inl rfl | exact Or.inr rfl) rfl rfl ?_
       simp only [Act.put, Act.eval, Array.getD_eq_getD_getElem?, List.getElem?_toArray, List.getElem?_cons_zero, List.getElem?_cons_succ, Option.getD_some, List.setIfInBounds_toArray, List.set_cons_succ, List.set_cons_zero]
      )
    | (refine lex_float ?_ rfl rfl (fun w1 hb1 hf1 => ?_) ?_
       rotate_left
       (go_simp; (try simp (disch := omega) only [IntWalk.i64_quo, IntWalk.rem_in, IntWalk.i64_in, IntWalk.u64_in, IntWalk.u32_in, IntWalk.u8_in, IntWalk.toNatUp, IntWalk.iteOmega]); (try go_simp); rfl)
       simp only [Act.put, Act.eval, Array.getD_eq_getD_getElem?, List.getElem?_toArray, List.getElem?_cons_zero, List.getElem?_cons_succ, Option.getD_some, List.setIfInBounds_toArray, List.set_cons_succ, List.set_cons_zero]
      )
    | (refine lex_skip rfl ?_
       simp only [Act.put, Act.eval, Array.getD_eq_getD_getElem?, List.getElem?_toArray, List.getElem?_cons_zero, List.getElem?_cons_succ, Option.getD_some, List.setIfInBounds_toArray, List.set_cons_succ, List.set_cons_zero]
      ))
  refine lex_make _ rfl (by exact CP.st _ _ _) rfl (fun w1 hb1 hf1 => ?_) ?_
  · have hb1' := hb1
    (unfold makes; go_simp; simp only [makesUpon])
    have hBw := below_trans hBW hb1'
    have hpg := ((HM.out.below hBw).pages _ hp)
    rw [hv2] at hpg
    refine clone_page w.heap.size _ g2 _ cap2 rfl ?_ (by omega) w1 hBw.size hpg
    exact HO.out.full _ hp
  rintro v' w' hB3 ⟨g', cap', rfl, hg', hown⟩
  have hB4 := below_trans hBW hB3
  clear c2 c3
  have HM4 := Lib.hid (HM.out.below hB4)
  obtain ⟨g0, cap0, hv0, -, -, -, hrow4, hfr4⟩ := HM4.out.row hR
  injection hv0 with h1 _ h3
  injection h1 with h1
  injection h1 with h1 _ _
  subst h1 h3
  have n4 := hfr4 (pageOf R s)
  have n5 := hrow4 _ hp
  have n6 := HM4.out.cells.2.2
  have el : entOf R s < (pageAt R (pageOf R s)).length := by
    have := (isIn_iff.1 ht).1
    rwa [length_keys] at this
  have eli : (entOf R s : Int) < ((pageAt R (pageOf R s)).length : Int) := by omega
  have n7 := hown.frozenAt (entOf R s * 3 + 2)
  have n8 := hown.cellAt (entOf R s * 3 + 2) (by omega)
  rw [(cellsOf_get _ _ el).2.2] at n8
  have hne1 : ¬ g' = g := by omega
  have hne2 : ¬ g = g' := by omega
  have hne3 : ¬ g' = bx := by omega
  have hne4 : ¬ bx = g := fun h => hgx.2 h.symm
  have hne5 : ¬ g = bx := hgx.2
  have hst := fun w1 a => run_store Try.prog w1 a v .plain h1v
  have Hown := Lib.hid hown; clear hown
  have Hrow4 := Lib.hid hrow4; clear hrow4
  have Hfr4 := Lib.hid hfr4; clear hfr4
  simp only [Act.put, Act.eval, Array.getD_eq_getD_getElem?, List.getElem?_toArray, List.getElem?_cons_zero, List.getElem?_cons_succ, Option.getD_some, List.setIfInBounds_toArray, List.set_cons_succ, List.set_cons_zero]
  refine lex_nil ?_
  go_wp2_with fail
  go_ret
  have hput : putR size R s v = R.set (pageOf R s) ((pageAt R (pageOf R s)).set (entOf R s) ⟨(ent (pageAt R (pageOf R s)) (entOf R s)).k, v⟩) := by
    unfold putR
    rw [if_neg (by omega), if_pos ht]
  have hend := HM.out.put_there hB4 hp el hg' Hown.out h1v
  rw [← hput] at hend
  exact ⟨rfl, _, _, hend.1, hend.2⟩

set_option maxRecDepth 100000 in
theorem put_nil (s : St) (v : Value) (h1v : v.oneCell' = true) (bx size : Nat) (h0 : 0 < size)
    (S : Nat → Prop) (vr : Value) (pvs : List Value) (w : World) (hM : MemV w bx size [] S vr pvs) :
    Calls Try.prog 24 #[.pointer (some ⟨bx, 0, none⟩), s.v, v] w (PutPost w bx size [] (putR size [] s v) S true) := by
  have hsz' : ((size : Int) == 0) = false := by rw [beq_eq_false_iff_ne]; omega
  obtain ⟨m0, m1, m2⟩ := hM.cells
  obtain ⟨a, cap, rfl, _, _⟩ := owns_shape hM.rows
  have hB0 := below_box w (.cells #[.int .u64 s.t, .int .u64 s.s] 38)
  have hbx := block_lt_of_heap hM.str
  have hfz := hM.frozen
  have hPl := Lib.hid (place_none s bx size S (.slice a 0 cap) pvs)
  have HM := Lib.hid hM; clear hM
  have e1 : total [] = 0 := rfl
  rw [e1] at m1
  have hst := fun w1 a => run_store Try.prog w1 a v .plain h1v
  unfold St.v at hPl ⊢
  go_enter Try.func24, Try.ntmps24
  go_wp2_with fail
  refine (bare_any bx size _ (below_cell hB0 m0)).mono ?_
  rintro e w' ⟨rfl, rfl⟩
  go_wp2_with fail
  refine (hPl.out _ (HM.out.below hB0)).mono ?_
  rintro e w1 ⟨rfl, hB1⟩
  have hB2 := below_trans hB0 hB1
  have n1 := below_cell hB2 m1
  have n2 := below_cell hB2 m2
  have HM1 := Lib.hid (HM.out.below hB2)
  have n3 := HM1.out.frozen 1
  have n4 := HM1.out.frozen 2
  have d0 : w1.cell? ⟨w.heap.size, 0, none⟩ = some (.int .u64 s.t) := below_cell hB1 (by simp)
  have d1 : w1.cell? ⟨w.heap.size, 1, none⟩ = some (.int .u64 s.s) := below_cell hB1 (by simp)
  have hne1 : ¬ bx = w.heap.size := by omega
  have hne2 : ¬ w.heap.size = bx := by omega
  have hs1 : w.heap.size < w1.heap.size := by have := hB1.size; simp at this; omega
  have hs2 : bx < w1.heap.size := by omega
  have hne3 : ¬ bx = w1.heap.size := by omega
  have hne4 : ¬ w1.heap.size = bx := by omega
  have hne5 : ¬ bx = w1.heap.size + 1 := by omega
  have hne6 : ¬ bx = w1.heap.size + 1 + 1 := by omega
  have hs3 : bx < w1.heap.size + 1 := by omega
  have hs4 : bx < w1.heap.size + 1 + 1 := by omega
  have hvc := one_cells h1v
  unfold Value.cells at hvc
  have hfa := fun w o i => frozen_alloc_ne w o bx i
  go_wp2_with fail
  go_ret
  have hend := HM.out.put_nil (s := s) (v := v) hB2 h1v _ rfl
  exact ⟨rfl, _, _, hend.1, hend.2⟩

set_option maxRecDepth 100000 in
theorem put_fits (s : St) (v : Value) (h1v : v.oneCell' = true) (bx size : Nat) (R : List (List Ent)) (hR : 0 < R.length) (hF : Fits size R) (hO : Ordered R) (ht : there R s = false)
    (hfit : (pageAt R (pageOf R s)).length + 1 ≤ size)
    (S : Nat → Prop) (vr : Value) (pvs : List Value) (w : World) (hM : MemV w bx size R S vr pvs) :
    Calls Try.prog 24 #[.pointer (some ⟨bx, 0, none⟩), s.v, v] w (PutPost w bx size R (putR size R s v) S true) := by
  have hp := pageOf_lt (s := s) hR
  have hsz : (size : Int) ≠ 0 := by have := hF.lo; omega
  have hsz' : ((size : Int) == 0) = false := by simpa using hsz
  obtain ⟨m0, m1, m2⟩ := hM.cells
  obtain ⟨g, cap, rfl, hg, hc, hcm, hrow, hfr⟩ := hM.row hR
  obtain ⟨g2, cap2, hv2, hg2, hc2, hcm2, hpage, hone, -⟩ := (hM.pages _ hp).parts (hO.full _ hp)
  have hrp := hrow _ hp
  rw [hv2] at hrp
  have hB0 := below_box w (.cells #[.int .u64 s.t, .int .u64 s.s] 38)
  have hbx := block_lt_of_heap hM.str
  have hgx := hM.sr g rfl
  have hlp := hF.page _ hp
  have hsize := hF.hi
  have hPl := Lib.hid (place_some s bx size hsz R hR (by have := hF.rows; omega) hO (fun i hi => by have := hF.page i hi; omega) S (.slice (some ⟨g, 0, none⟩) R.length cap) pvs)
  have hel := entOf_le R s
  have HM := Lib.hid hM; clear hM
  have HF := Lib.hid hF; clear hF
  have HO := Lib.hid hO; clear hO
  have Hone := Lib.hid hone; clear hone
  have Hpage := Lib.hid hpage; clear hpage
  have Hrow := Lib.hid hrow; clear hrow
  have Hfr := Lib.hid hfr; clear hfr
  have hvc := one_cells h1v
  unfold Value.cells at hvc
  have hst := fun w1 a => run_store Try.prog w1 a v .plain h1v
  have hRz : ((R.length : Int) == 0) = false := by rw [beq_eq_false_iff_ne]; omega
  have htot := HF.out.tot
  unfold St.v at hPl ⊢
  go_enter Try.func24, Try.ntmps24
  go_wp2_with fail
  refine (bare_any bx size _ (below_cell hB0 m0)).mono ?_
  rintro e w' ⟨rfl, rfl⟩
  go_wp2_with fail
  refine (hPl.out _ (HM.out.below hB0)).mono ?_
  rintro e w1 ⟨rfl, hB1⟩
  rw [ht]
  have hB2 := below_trans hB0 hB1
  have n1 := below_cell hB2 m1
  have n2 := below_cell hB2 m2
  have HM1 := Lib.hid (HM.out.below hB2)
  have n3 := HM1.out.frozen 1
  have n4 := HM1.out.frozen 2
  have d0 : w1.cell? ⟨w.heap.size, 0, none⟩ = some (.int .u64 s.t) := below_cell hB1 (by simp)
  have d1 : w1.cell? ⟨w.heap.size, 1, none⟩ = some (.int .u64 s.s) := below_cell hB1 (by simp)
  have hne1 : ¬ bx = w.heap.size := by omega
  have hne2 : ¬ w.heap.size = bx := by omega
  have hs1 : w.heap.size < w1.heap.size := by have := hB1.size; simp at this; omega
  have hs2 : bx < w1.heap.size := by omega
  have hne3 : ¬ bx = w1.heap.size := by omega
  have hne4 : ¬ w1.heap.size = bx := by omega
  go_wp2_with fail
  obtain ⟨x1, x2, x3, x4⟩ := HM.out.count hB2 (.int .i64 ((total R : Int) + 1)) (.cells #[.int .u64 s.t, .int .u64 s.s, v] 92)
  generalize World.alloc (World.setCell w1 _ _) _ = X at x1 x2 x3 x4 ⊢
  have y0 : X.cell? ⟨bx, 0, none⟩ = some (.int .i64 size) := by simp [World.cell?, x2]
  have y2 : X.cell? ⟨bx, 2, none⟩ = some (.slice (some ⟨g, 0, none⟩) R.length cap) := by simp [World.cell?, x2]
  have y3 : X.cell? ⟨g, pageOf R s, none⟩ = some (.slice (some ⟨g2, 0, none⟩) (pageAt R (pageOf R s)).length cap2) := x1.cell_some hrp hgx.2
  have z0 : X.cell? ⟨w1.heap.size, 0, none⟩ = some (.int .u64 s.t) := by simp [World.cell?, x3]
  have z1 : X.cell? ⟨w1.heap.size, 1, none⟩ = some (.int .u64 s.s) := by simp [World.cell?, x3]
  have z2 : X.cell? ⟨w1.heap.size, 2, none⟩ = some v := by simp [World.cell?, x3]
  have hpx := (HM.out.pages _ hp).ext x1 (fun k hk => ((HM.out.sp _ hp k hk).2.1))
  have hxs : w.heap.size ≤ X.heap.size := x1.size
  have HPx := Lib.hid hpx; clear hpx
  clear n1 n2 n3 n4 d0 d1
  refine wp_region_rg_tail 11 (fun i => if i = 7 then some (CP w.heap.size (pageAt R (pageOf R s)).length (pageAt R (pageOf R s))) else if i = 10 then some (fun u w' => ∃ gv, u = .slice (some ⟨gv, 0, none⟩) 1 1 ∧ w.heap.size ≤ gv ∧ Row w' gv 92 (Ent.cells ⟨s, v⟩)) else none) fol (by kernel_rfl) (fun W hW hh => ?_)
  clear hh
  have c2 : ∀ w1, Below W.heap.size W w1 → w1.cell? ⟨bx, 2, none⟩ = some (.slice (some ⟨g, 0, none⟩) R.length cap) := fun w1 h => below_cell (below_trans hW h) y2
  have c3 : ∀ w1, Below W.heap.size W w1 → w1.cell? ⟨g, pageOf R s, none⟩ = some (.slice (some ⟨g2, 0, none⟩) (pageAt R (pageOf R s)).length cap2) := fun w1 h => below_cell (below_trans hW h) y3
  have c4 : ∀ w2, Below W.heap.size W w2 → w2.cell? ⟨w1.heap.size, 0, none⟩ = some (.int .u64 s.t) := fun w1 h => below_cell (below_trans hW h) z0
  have c5 : ∀ w2, Below W.heap.size W w2 → w2.cell? ⟨w1.heap.size, 1, none⟩ = some (.int .u64 s.s) := fun w1 h => below_cell (below_trans hW h) z1
  have c6 : ∀ w2, Below W.heap.size W w2 → w2.cell? ⟨w1.heap.size, 2, none⟩ = some v := fun w1 h => below_cell (below_trans hW h) z2
  simp only [List.take_succ_cons, List.take_zero, List.drop_succ_cons, List.drop_zero]
  repeat (first
    | (refine lex_move _ (by first | exact Or.inl rfl | exact Or.inr rfl) rfl rfl ?_
       simp only [Act.put, Act.eval, Array.getD_eq_getD_getElem?, List.getElem?_toArray, List.getElem?_cons_zero, List.getElem?_cons_succ, Option.getD_some, List.setIfInBounds_toArray, List.set_cons_succ, List.set_cons_zero]
      )
    | (refine lex_float ?_ rfl rfl (fun w1 hb1 hf1 => ?_) ?_
       rotate_left
       (go_simp; (try simp (disch := omega) only [IntWalk.i64_quo, IntWalk.rem_in, IntWalk.i64_in, IntWalk.u64_in, IntWalk.u32_in, IntWalk.u8_in, IntWalk.toNatUp, IntWalk.iteOmega]); (try go_simp); rfl)
       simp only [Act.put, Act.eval, Array.getD_eq_getD_getElem?, List.getElem?_toArray, List.getElem?_cons_zero, List.getElem?_cons_succ, Option.getD_some, List.setIfInBounds_toArray, List.set_cons_succ, List.set_cons_zero]
      )
    | (refine lex_skip rfl ?_
       simp only [Act.put, Act.eval, Array.getD_eq_getD_getElem?, List.getElem?_toArray, List.getElem?_cons_zero, List.getElem?_cons_succ, Option.getD_some, List.setIfInBounds_toArray, List.set_cons_succ, List.set_cons_zero]
      ))
  refine lex_make _ rfl (by exact CP.st _ _ _) rfl (fun w1 hb1 hf1 => ?_) ?_
  · have hb1' := hb1
    (unfold makes; go_simp; simp only [makesUpon])
    have hBw := below_trans hW hb1'
    have hpg := HPx.out.below hBw
    rw [hv2] at hpg
    refine clone_page w.heap.size _ g2 _ cap2 rfl ?_ (by omega) _ (by have := hBw.size; omega) hpg
    exact HO.out.full _ hp
  rintro v' w' hB3 ⟨g', cap', rfl, hg', hown⟩
  have Hown := Lib.hid hown; clear hown
  simp only [Act.put, Act.eval, Array.getD_eq_getD_getElem?, List.getElem?_toArray, List.getElem?_cons_zero, List.getElem?_cons_succ, Option.getD_some, List.setIfInBounds_toArray, List.set_cons_succ, List.set_cons_zero]
  repeat (first
    | (refine lex_move _ (by first | exact Or.inl rfl | exact Or.inr rfl) rfl rfl ?_
       simp only [Act.put, Act.eval, Array.getD_eq_getD_getElem?, List.getElem?_toArray, List.getElem?_cons_zero, List.getElem?_cons_succ, Option.getD_some, List.setIfInBounds_toArray, List.set_cons_succ, List.set_cons_zero]
      )
    | (refine lex_float ?_ rfl rfl (fun w1 hb1 hf1 => ?_) ?_
       rotate_left
       (go_simp; (try simp (disch := omega) only [IntWalk.i64_quo, IntWalk.rem_in, IntWalk.i64_in, IntWalk.u64_in, IntWalk.u32_in, IntWalk.u8_in, IntWalk.toNatUp, IntWalk.iteOmega]); (try go_simp); rfl)
       simp only [Act.put, Act.eval, Array.getD_eq_getD_getElem?, List.getElem?_toArray, List.getElem?_cons_zero, List.getElem?_cons_succ, Option.getD_some, List.setIfInBounds_toArray, List.set_cons_succ, List.set_cons_zero]
      )
    | (refine lex_skip rfl ?_
       simp only [Act.put, Act.eval, Array.getD_eq_getD_getElem?, List.getElem?_toArray, List.getElem?_cons_zero, List.getElem?_cons_succ, Option.getD_some, List.setIfInBounds_toArray, List.set_cons_succ, List.set_cons_zero]
      ))
  refine lex_make _ rfl (by exact fun u a b h hb => by obtain ⟨gv, h1, h2, h3⟩ := h; exact ⟨gv, h1, h2, h3.below hb⟩) rfl (fun w1 hb1 hf1 => ?_) ?_
  · have hb1' := hb1
    (unfold makes; go_simp; simp only [makesUpon])
    have hs5 := hb1'.size
    have hs6 := hW.size
    exact ⟨below_box _ _, _, rfl, by omega, row_new _ _ _⟩
  rintro u w2 hB4 ⟨gv, rfl, hgv, hrv⟩
  have Hown2 := Lib.hid (owns_below Hown.out hB4)
  have hap := apart_new Hown2.out rfl (HO.out.full _ hp) hrv ht
  have hB5 := below_trans hB3 hB4
  have hB6 := below_trans hW hB5
  simp only [Act.put, Act.eval, Array.getD_eq_getD_getElem?, List.getElem?_toArray, List.getElem?_cons_zero, List.getElem?_cons_succ, Option.getD_some, List.setIfInBounds_toArray, List.set_cons_succ, List.set_cons_zero]
  refine lex_nil ?_
  go_wp2_with fail
  refine (EU.insert_any w.heap.size g' _ cap' (entOf R s) gv _ _ w2 Hown2.out (by have := hB6.size; omega) (by omega) hel hrv hap rfl (ent_one s h1v) (cellsOf_one (HM.out.pages _ hp).one)).mono ?_
  rintro e w3 ⟨l, rfl, hl3, hx3⟩
  have hll := owns_length hl3
  obtain ⟨g3, cap3, rfl, hg3, hg3l, hn3, hc3, -, -⟩ := owns_parts hl3 (Nat.succ_pos _)
  have e3 : Ext (· = bx) w w3 := (x1.trans (Ext.of_below (S := (· = bx)) hB6) fun k _ hk => hk).trans hx3 (fun k (hk : k < w.heap.size) (h : k = g') => by exfalso; omega)
  have X3 : Ext (· = g') X w3 := (Ext.of_below (S := (· = g')) hB6).trans hx3 fun k _ hk => hk
  have hbg : ¬ bx = g' := by omega
  have hgg : ¬ g = g' := by omega
  have q2 : w3.heap[bx]? = _ := X3.heap x2 hbg
  have q0 : w3.cell? ⟨bx, 0, none⟩ = some (.int .i64 size) := X3.cell_some y0 hbg
  have q1 : w3.cell? ⟨bx, 2, none⟩ = some (.slice (some ⟨g, 0, none⟩) R.length cap) := X3.cell_some y2 hbg
  have q3 : w3.cell? ⟨g, pageOf R s, none⟩ = some (.slice (some ⟨g2, 0, none⟩) (pageAt R (pageOf R s)).length cap2) := X3.cell_some y3 hgg
  have q4 : w3.frozen? ⟨bx, 2, none⟩ = false := by simp [World.frozen?, q2]
  have q5 : w3.frozen? ⟨g, pageOf R s, none⟩ = false := by
    have h := Hfr.out (pageOf R s)
    have hh : w3.heap[g]? = w.heap[g]? := e3.block g hg hgx.2
    simp only [World.frozen?] at h ⊢
    rw [hh]
    exact h
  have Hl3 := Lib.hid hl3; clear hl3
  clear c2 c3 c4 c5 c6
  have hif : ((pageAt R (pageOf R s)).length : Int) + 1 ≤ (size : Int) := by omega
  have hne5 : ¬ bx = g := fun h => hgx.2 h.symm
  have hne6 : ¬ g = bx := hgx.2
  go_wp2_with fail
  go_ret
  have hlen : ((pageAt R (pageOf R s)).take (entOf R s) ++ (⟨s, v⟩ :: (pageAt R (pageOf R s)).drop (entOf R s)) : List Ent).length = (pageAt R (pageOf R s)).length + 1 := by
    simp only [List.length_append, List.length_take, List.length_cons, List.length_drop]; omega
  have hput : putR size R s v = R.set (pageOf R s) ((pageAt R (pageOf R s)).take (entOf R s) ++ (⟨s, v⟩ :: (pageAt R (pageOf R s)).drop (entOf R s))) := by
    unfold putR
    rw [if_neg (by omega), if_neg (by rw [ht]; decide)]
    simp only [hlen]
    rw [if_pos hfit]
  have htp := total_put (size := size) s v hR
  rw [hput, ht] at htp
  have hpg3 : PageIs 92 w3 (.slice (some ⟨g3, 0, none⟩) ((pageAt R (pageOf R s)).length + 1) cap3) ((pageAt R (pageOf R s)).take (entOf R s) ++ (⟨s, v⟩ :: (pageAt R (pageOf R s)).drop (entOf R s))) := by
    refine ⟨?_, fun e he => ?_⟩
    · rw [hlen, cellsOf_append, cellsOf_cons, ← cellsOf_take, ← cellsOf_drop]
      exact owns_base Hl3.out fun k _ => Nat.zero_le _
    · rcases List.mem_append.1 he with h | h
      · exact (HM.out.pages _ hp).one e (List.mem_of_mem_take h)
      · rcases List.mem_cons.1 h with rfl | h
        · exact h1v
        · exact (HM.out.pages _ hp).one e (List.mem_of_mem_drop h)
  rw [hput]
  refine ⟨rfl, _, _, HM.out.swap (W := w3.setCell ⟨g, pageOf R s, none⟩ (.slice (some ⟨g3, 0, none⟩) ((pageAt R (pageOf R s)).length + 1) cap3)) (u := .slice (some ⟨g3, 0, none⟩) ((pageAt R (pageOf R s)).length + 1) cap3) hp ?_ ?_ (fun k k1 k2 k3 k4 => ?_) ?_ (fun k hk => by have hk : g3 = k := Option.some.inj hk; omega), ?_⟩
  · rw [htp, heap_setCell_ne _ _ _ _ hne5]
    exact q2
  · exact heap_setCell_eq _ (e3.block g hg hgx.2)
  · rw [heap_setCell_ne _ _ _ _ k4]
    exact e3.block k k2 k3
  · exact ⟨owns_of_block hpg3.row fun k hk => heap_setCell_ne _ _ _ _ (by have hk : g3 = k := Option.some.inj hk; show k ≠ g; omega), hpg3.one⟩
  · exact ⟨(e3.mono (S' := WrW w bx) fun k _ hk => .inl hk).trans (Ext.setCell (S := (· = g)) rfl _) fun k _ hk => (by obtain rfl : k = g := hk; exact HM.out.wg rfl), fun k hk => .inl (HM.out.wg hk)⟩

end Go.Proofs.Ytagcohpghgnalaa.U
