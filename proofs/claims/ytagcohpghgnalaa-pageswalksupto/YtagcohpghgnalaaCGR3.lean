/-
  The document's index: Remove, where the page goes.
-/
import Derived.Test.YtagcohpghgnalaaCR8
set_option linter.unusedSimpArgs false
set_option linter.unusedVariables false
namespace Go.Proofs.Ytagcohpghgnalaa.RF
open Go.RowKit Go.RG Go.Hp Go.Pg Go.Proofs.Ytagcohpghgnalaa



set_option maxHeartbeats 2000000 in
set_option maxRecDepth 100000 in
theorem rem_rgone (s : St) (bx size : Nat) (h64 : size ≤ 64) (R : List (List Ent)) (hR : 0 < R.length) (hm : R.length ≤ 274877906942) (hO : Ordered R) (hl : ∀ i, i < R.length → (pageAt R i).length ≤ 64) (hN : ∀ e ∈ R.flatten, U.NumV e.v)
    (ht : there R s = true) (h1 : (pageAt R (pageOf R s)).length = 1)
    (S : Nat → Prop) (vr : Value) (pvs : List Value) (w : World) (hM : RMemV w bx size R S vr pvs) :
    Calls Try.prog 85 #[.pointer (some ⟨bx, 0, none⟩), s.v] w (RRemPost w bx size (removeR size R s) S (ent (pageAt R (pageOf R s)) (entOf R s)).v) := by
  have h1a : (pageAt R (pageOf R s)).length ≤ 1 := by omega
  have h1b : 1 ≤ (pageAt R (pageOf R s)).length := by omega
  clear h1
  have hB0 := below_box w (.cells #[.int .u64 s.t, .int .u64 s.s] 38)
  have HP := Lib.hid (place_rsome s bx size R hR (by omega) hO (fun i hi => by have := hl i hi; omega) S vr pvs _ (hM.below hB0))
  have hpl := pageOf_lt (s := s) hR
  have hlp := hl _ hpl
  have hf0 := hO.full _ hpl
  obtain ⟨m0, m1⟩ := hM.cells
  obtain ⟨g, cap, rfl, hg, hc, hcm, hrow, hfr⟩ := hM.row hR
  obtain ⟨g2, cap2, hv2, hg2, hc2, hcm2, hpage, hone, -⟩ := (hM.pages _ hpl).parts hf0
  have hen : entOf R s < (pageAt R (pageOf R s)).length := by
    have ht := ht
    unfold there at ht
    have := (isIn_iff.1 ht).1
    rwa [length_keys] at this
  obtain ⟨-, -, z2⟩ := hpage _ hen
  obtain ⟨num, hnum⟩ := ent_num hN hpl hen
  have hrp := hrow _ hpl
  rw [hv2] at hrp
  rw [hnum] at z2 ⊢
  have hbx := block_lt_of_heap hM.str
  have hpi := hM.pages _ hpl
  rw [hv2] at hpi
  have Hpi := Lib.hid hpi; clear hpi
  have HM := Lib.hid (And.intro hM (And.intro hO (And.intro hv2 hnum))); clear hM hO
  rw [ht] at HP
  have e1 : (pageOf R s : Int) < (R.length : Int) := by omega
  have e2 : (entOf R s : Int) < ((pageAt R (pageOf R s)).length : Int) := by omega
  have e3 : (entOf R s : Int) ≤ ((pageAt R (pageOf R s)).length : Int) := by omega
  have e4 : (entOf R s : Int) + 1 ≤ ((pageAt R (pageOf R s)).length : Int) := by omega
  have hfr := hfr (pageOf R s)
  clear hpage hone hv2 hnum hN
  have Hrow0 := Lib.hid hrow; clear hrow
  obtain ⟨i0, hi, hz0, hz1, hz2⟩ := info_parts BK.info_Entry
  unfold St.v at HP ⊢
  go_enter Try.func85, Try.ntmps85
  go_wp2_with fail
  generalize w.alloc (.cells #[.int .u64 s.t, .int .u64 s.s] 38) = w0 at hB0 HP ⊢
  refine HP.out.mono ?_
  rintro e w1 ⟨rfl, hB⟩
  have hB2 := hB0.trans (hB.mono hB0.size)
  clear hB0 hB HP
  have n0 := below_cell hB2 m0
  have n1 := below_cell hB2 m1
  have nrp := below_cell hB2 hrp
  have nz2 := below_cell hB2 z2
  clear m0 m1 z2
  have hel : entOf R s ≤ (pageAt R (pageOf R s)).length := by omega
  have hn4 : entOf R s + ((pageAt R (pageOf R s)).length - (entOf R s + 1)) = (pageAt R (pageOf R s)).length - 1 := by omega
  have Hown0 := Lib.hid (World.ownsRow_nil w1 w1.heap.size 60 3)
  have q1 : 0 + entOf R s ≤ maxLen := by unfold maxLen; omega
  have q2 : (0 + entOf R s) * 24 ≤ 140737488355328 := by omega
  have q3 := Nat.le_refl w1.heap.size
  have Hsrc := Lib.hid (fun j u hj => (src_take Hpi.out hB2 hel j u hj))
  have Hone1 := Lib.hid (cellsOf_one (p := (pageAt R (pageOf R s)).take (entOf R s)) fun e he => Hpi.out.one e (List.mem_of_mem_take he))
  have Hlen1 := Lib.hid (show (cellsOf ((pageAt R (pageOf R s)).take (entOf R s))).length = entOf R s * 3 by rw [length_cellsOf, List.length_take, Nat.min_eq_left hel])
  have k0 : ((((pageAt R (pageOf R s)).length - 1 : Nat) : Int) == 0) = true := by rw [beq_iff_eq]; omega
  have hsl : ∀ q, q < R.length → ∃ a m c, val pvs q = .slice a m c := fun q hq => by
    obtain ⟨a, c, h, -⟩ := owns_shape (HM.out.1.pages q hq).row
    exact ⟨_, _, _, h⟩
  have Hrow := Lib.hid (fun (f : Value) (fs : List Value) (i j : Nat) (hij : i ≤ j) (hj : j ≤ R.length) (h1 : R.length + fs.length ≤ 274877906944) (h2 : ∀ u ∈ fs, u.oneCell' = true) (w' : World) (hb : Below w.heap.size w w') (hf : NewsAt w' f fs) => row_ref 0 (.slice (some ⟨g, 0, none⟩) R.length cap) f R.length i j pvs fs hij hj h1 hsl h2 w' (owns_below HM.out.1.rows hb) hf)
  clear hsl
  by_cases hci : cap2 = entOf R s + 1
  · have Hoff := Lib.hid (show ∀ W, Below w.heap.size w W → ∀ (j : Nat) (u : Value), (cellsOf ((pageAt R (pageOf R s)).drop (entOf R s + 1)))[j]? = some u → W.cell? ((⟨g2, 0, none⟩ : Addr).add j) = some u from fun W _ j u hj => by
      rw [List.drop_eq_nil_of_le (by omega)] at hj
      cases hj)
    have hci2 : (cap2 : Int) - ((entOf R s : Int) + 1) = 0 := by omega
    go_wp2_with (at_builtin; first | (refine wpList_append_own _ rfl _ _ 34 rfl w1.heap.size 60 i0 (.agg #[.int .u64 0, .int .u64 0, .int .u64 0]) 3 24 und_page hi hz0 hz1 hz2 rfl (by decide) _ _ _ rfl Hown0.out ⟨g2, 0, none⟩ _ _ (cellsOf ((pageAt R (pageOf R s)).take (entOf R s))) rfl Hlen1.out Hsrc.out Hone1.out q1 q2 q3 ?_; intro v' w2 hown' hgrow hnil; clear hnil; rw [Nat.zero_add] at hown'; have Hb2 := Lib.hid ((Below.refl _ _).grown hgrow q3 (fun k hk => by cases hk)); clear hgrow q1 q2 q3 Hsrc Hone1 Hlen1 Hown0; obtain ⟨a2, cap3, rfl, hx1, hx2⟩ := owns_shape hown'; have o0 := below_cell Hb2.out n0; have o1 := below_cell Hb2.out n1; have orp := below_cell Hb2.out nrp; have Hown2 := Lib.hid hown'; clear hown'; have Hsrc3 := Lib.hid (fun j u hj => Hoff.out w2 (hB2.trans (Hb2.out.mono hB2.size)) j u hj); have Hone3 := Lib.hid (cellsOf_one (p := (pageAt R (pageOf R s)).drop (entOf R s + 1)) fun e he => Hpi.out.one e (List.mem_of_mem_drop he)); have Hlen3 := Lib.hid (show (cellsOf ((pageAt R (pageOf R s)).drop (entOf R s + 1))).length = ((pageAt R (pageOf R s)).length - (entOf R s + 1)) * 3 by rw [length_cellsOf, List.length_drop]); have q1 : entOf R s + ((pageAt R (pageOf R s)).length - (entOf R s + 1)) ≤ maxLen := (by unfold maxLen; omega); have q2 : (entOf R s + ((pageAt R (pageOf R s)).length - (entOf R s + 1))) * 24 ≤ 140737488355328 := (by omega); have q3 : w1.heap.size ≤ w2.heap.size := Hb2.out.size) | (refine wpList_append_own _ rfl _ _ 34 rfl w1.heap.size 60 i0 (.agg #[.int .u64 0, .int .u64 0, .int .u64 0]) 3 24 und_page hi hz0 hz1 hz2 rfl (by decide) _ _ _ rfl Hown2.out ⟨g2, 0, none⟩ _ _ (cellsOf ((pageAt R (pageOf R s)).drop (entOf R s + 1))) rfl Hlen3.out Hsrc3.out Hone3.out q1 q2 q3 ?_; intro v' w3 hown' hgrow hnil; clear hnil; have Hb3 := Lib.hid (Hb2.out.grown hgrow q3 (fun k hk => (Hown2.out.lt k hk).1)); clear hgrow q1 q2 q3 Hsrc3 Hone3 Hlen3 Hown2; clear o0 o1 orp; rw [hn4] at hown'; obtain ⟨a3, cap4, rfl, hx3, hx4⟩ := owns_shape hown'; have o0 := below_cell Hb3.out n0; have o1 := below_cell Hb3.out n1; have orp := below_cell Hb3.out nrp; have Hown3 := Lib.hid hown'; clear hown'; have hB5 := hB2.trans (Hb3.out.mono hB2.size); skip) | (fail))
    refine (Hrow.out (.slice none 0 0) [] (pageOf R s) (pageOf R s + 1) (by omega) (by omega) (by simp only [List.length_nil]; omega) (fun u hu => by cases hu) w3 hB5 (Or.inl ⟨rfl, rfl⟩)).mono ?_
    rintro e w4 ⟨v, rfl, hown, hb⟩
    have en : R.length - (pageOf R s + 1 - pageOf R s) + ([] : List Value).length = R.length - 1 := by simp only [List.length_nil]; omega
    rw [en] at hown
    obtain ⟨av, cv, rfl, -⟩ := owns_shape hown
    have hBx := hB5.trans (hb.mono hB5.size)
    have k2 := below_cell hb o1
    have k3 := (HM.out.1.below hBx).frozen 1
    have Hown := Lib.hid hown; clear hown
    go_wp2_with fail
    go_ret2
    have hrem : removeR size R s = R.take (pageOf R s) ++ ([] ++ R.drop (pageOf R s + 1)) := by
      unfold removeR
      rw [if_pos ht]
      have hlen := cut_len (pageAt R (pageOf R s)) hen
      simp only [hlen]
      rw [if_pos (by omega)]
      rfl
    have hend := HM.out.1.rows_end (ms := []) (vs := []) (vr' := .slice av (R.length - 1) cv) (i := pageOf R s) (j := pageOf R s + 1) (n' := R.length - 1) hBx (by omega) (by omega) rfl (by simp only [List.length_nil]; omega)
      (owns_base Hown.out fun k hk => Nat.le_trans hB5.size (Hown.out.lt k hk).1) (fun q hq => by cases hq) (fun q hq => by cases hq)
    rw [hrem]
    exact ⟨rfl, _, _, hend.1, hend.2⟩
  · have Hoff := Lib.hid (fun W hW => src_drop (i := entOf R s + 1) Hpi.out (w' := W) hW)
    go_wp2_with (at_builtin; first | (refine wpList_append_own _ rfl _ _ 34 rfl w1.heap.size 60 i0 (.agg #[.int .u64 0, .int .u64 0, .int .u64 0]) 3 24 und_page hi hz0 hz1 hz2 rfl (by decide) _ _ _ rfl Hown0.out ⟨g2, 0, none⟩ _ _ (cellsOf ((pageAt R (pageOf R s)).take (entOf R s))) rfl Hlen1.out Hsrc.out Hone1.out q1 q2 q3 ?_; intro v' w2 hown' hgrow hnil; clear hnil; rw [Nat.zero_add] at hown'; have Hb2 := Lib.hid ((Below.refl _ _).grown hgrow q3 (fun k hk => by cases hk)); clear hgrow q1 q2 q3 Hsrc Hone1 Hlen1 Hown0; obtain ⟨a2, cap3, rfl, hx1, hx2⟩ := owns_shape hown'; have o0 := below_cell Hb2.out n0; have o1 := below_cell Hb2.out n1; have orp := below_cell Hb2.out nrp; have Hown2 := Lib.hid hown'; clear hown'; have Hsrc3 := Lib.hid (fun j u hj => Hoff.out w2 (hB2.trans (Hb2.out.mono hB2.size)) j u hj); have Hone3 := Lib.hid (cellsOf_one (p := (pageAt R (pageOf R s)).drop (entOf R s + 1)) fun e he => Hpi.out.one e (List.mem_of_mem_drop he)); have Hlen3 := Lib.hid (show (cellsOf ((pageAt R (pageOf R s)).drop (entOf R s + 1))).length = ((pageAt R (pageOf R s)).length - (entOf R s + 1)) * 3 by rw [length_cellsOf, List.length_drop]); have q1 : entOf R s + ((pageAt R (pageOf R s)).length - (entOf R s + 1)) ≤ maxLen := (by unfold maxLen; omega); have q2 : (entOf R s + ((pageAt R (pageOf R s)).length - (entOf R s + 1))) * 24 ≤ 140737488355328 := (by omega); have q3 : w1.heap.size ≤ w2.heap.size := Hb2.out.size) | (refine wpList_append_own _ rfl _ _ 34 rfl w1.heap.size 60 i0 (.agg #[.int .u64 0, .int .u64 0, .int .u64 0]) 3 24 und_page hi hz0 hz1 hz2 rfl (by decide) _ _ _ rfl Hown2.out ⟨g2, (entOf R s + 1) * 3, none⟩ _ _ (cellsOf ((pageAt R (pageOf R s)).drop (entOf R s + 1))) rfl Hlen3.out Hsrc3.out Hone3.out q1 q2 q3 ?_; intro v' w3 hown' hgrow hnil; clear hnil; have Hb3 := Lib.hid (Hb2.out.grown hgrow q3 (fun k hk => (Hown2.out.lt k hk).1)); clear hgrow q1 q2 q3 Hsrc3 Hone3 Hlen3 Hown2; clear o0 o1 orp; rw [hn4] at hown'; obtain ⟨a3, cap4, rfl, hx3, hx4⟩ := owns_shape hown'; have o0 := below_cell Hb3.out n0; have o1 := below_cell Hb3.out n1; have orp := below_cell Hb3.out nrp; have Hown3 := Lib.hid hown'; clear hown'; have hB5 := hB2.trans (Hb3.out.mono hB2.size); skip) | (fail))
    refine (Hrow.out (.slice none 0 0) [] (pageOf R s) (pageOf R s + 1) (by omega) (by omega) (by simp only [List.length_nil]; omega) (fun u hu => by cases hu) w3 hB5 (Or.inl ⟨rfl, rfl⟩)).mono ?_
    rintro e w4 ⟨v, rfl, hown, hb⟩
    have en : R.length - (pageOf R s + 1 - pageOf R s) + ([] : List Value).length = R.length - 1 := by simp only [List.length_nil]; omega
    rw [en] at hown
    obtain ⟨av, cv, rfl, -⟩ := owns_shape hown
    have hBx := hB5.trans (hb.mono hB5.size)
    have k2 := below_cell hb o1
    have k3 := (HM.out.1.below hBx).frozen 1
    have Hown := Lib.hid hown; clear hown
    go_wp2_with fail
    go_ret2
    have hrem : removeR size R s = R.take (pageOf R s) ++ ([] ++ R.drop (pageOf R s + 1)) := by
      unfold removeR
      rw [if_pos ht]
      have hlen := cut_len (pageAt R (pageOf R s)) hen
      simp only [hlen]
      rw [if_pos (by omega)]
      rfl
    have hend := HM.out.1.rows_end (ms := []) (vs := []) (vr' := .slice av (R.length - 1) cv) (i := pageOf R s) (j := pageOf R s + 1) (n' := R.length - 1) hBx (by omega) (by omega) rfl (by simp only [List.length_nil]; omega)
      (owns_base Hown.out fun k hk => Nat.le_trans hB5.size (Hown.out.lt k hk).1) (fun q hq => by cases hq) (fun q hq => by cases hq)
    rw [hrem]
    exact ⟨rfl, _, _, hend.1, hend.2⟩

theorem slice_news (W : World) (v : Value) (T : TypeId) : NewsAt (W.alloc (.cells #[v] T)) (.slice (some ⟨W.heap.size, 0, none⟩) 1 1) [v] :=
  Or.inr ⟨_, 1, rfl, fun j u hu => by
    have hr : Row (W.alloc (.cells #[v] T)) W.heap.size T [v] := row_new W [v] T
    rw [Addr.add_lit, Nat.zero_add, hr.cell]; exact hu⟩


set_option maxHeartbeats 2000000 in
set_option maxRecDepth 100000 in
theorem rem_rnext (s : St) (bx size : Nat) (h64 : size ≤ 64) (R : List (List Ent)) (hR : 0 < R.length) (hm : R.length ≤ 274877906942) (hO : Ordered R) (hl : ∀ i, i < R.length → (pageAt R i).length ≤ 64) (hN : ∀ e ∈ R.flatten, U.NumV e.v)
    (ht : there R s = true) (h1 : 1 < (pageAt R (pageOf R s)).length) (f0 : pageOf R s + 1 < R.length) (f1 : (pageAt R (pageOf R s + 1)).length + ((pageAt R (pageOf R s)).length - 1) ≤ size / 2)
    (S : Nat → Prop) (vr : Value) (pvs : List Value) (w : World) (hM : RMemV w bx size R S vr pvs) :
    Calls Try.prog 85 #[.pointer (some ⟨bx, 0, none⟩), s.v] w (RRemPost w bx size (removeR size R s) S (ent (pageAt R (pageOf R s)) (entOf R s)).v) := by
  have hfn := hO.full _ f0
  have hB0 := below_box w (.cells #[.int .u64 s.t, .int .u64 s.s] 38)
  have HP := Lib.hid (place_rsome s bx size R hR (by omega) hO (fun i hi => by have := hl i hi; omega) S vr pvs _ (hM.below hB0))
  have hpl := pageOf_lt (s := s) hR
  have hlp := hl _ hpl
  have hf0 := hO.full _ hpl
  obtain ⟨m0, m1⟩ := hM.cells
  obtain ⟨g, cap, rfl, hg, hc, hcm, hrow, hfr⟩ := hM.row hR
  obtain ⟨g2, cap2, hv2, hg2, hc2, hcm2, hpage, hone, -⟩ := (hM.pages _ hpl).parts hf0
  have hen : entOf R s < (pageAt R (pageOf R s)).length := by
    have ht := ht
    unfold there at ht
    have := (isIn_iff.1 ht).1
    rwa [length_keys] at this
  obtain ⟨-, -, z2⟩ := hpage _ hen
  obtain ⟨num, hnum⟩ := ent_num hN hpl hen
  have hrp := hrow _ hpl
  rw [hv2] at hrp
  rw [hnum] at z2 ⊢
  have hbx := block_lt_of_heap hM.str
  have hpi := hM.pages _ hpl
  rw [hv2] at hpi
  have Hpi := Lib.hid hpi; clear hpi
  have HM := Lib.hid (And.intro hM (And.intro hO (And.intro hv2 hnum))); clear hM hO
  rw [ht] at HP
  have e1 : (pageOf R s : Int) < (R.length : Int) := by omega
  have e2 : (entOf R s : Int) < ((pageAt R (pageOf R s)).length : Int) := by omega
  have e3 : (entOf R s : Int) ≤ ((pageAt R (pageOf R s)).length : Int) := by omega
  have e4 : (entOf R s : Int) + 1 ≤ ((pageAt R (pageOf R s)).length : Int) := by omega
  have hfr := hfr (pageOf R s)
  clear hpage hone hv2 hnum hN
  have Hrow0 := Lib.hid hrow; clear hrow
  obtain ⟨i0, hi, hz0, hz1, hz2⟩ := info_parts BK.info_Entry
  unfold St.v at HP ⊢
  go_enter Try.func85, Try.ntmps85
  go_wp2_with fail
  generalize w.alloc (.cells #[.int .u64 s.t, .int .u64 s.s] 38) = w0 at hB0 HP ⊢
  refine HP.out.mono ?_
  rintro e w1 ⟨rfl, hB⟩
  have hB2 := hB0.trans (hB.mono hB0.size)
  clear hB0 hB HP
  have n0 := below_cell hB2 m0
  have n1 := below_cell hB2 m1
  have nrp := below_cell hB2 hrp
  have nz2 := below_cell hB2 z2
  clear m0 m1 z2
  have hel : entOf R s ≤ (pageAt R (pageOf R s)).length := by omega
  have hn4 : entOf R s + ((pageAt R (pageOf R s)).length - (entOf R s + 1)) = (pageAt R (pageOf R s)).length - 1 := by omega
  have Hown0 := Lib.hid (World.ownsRow_nil w1 w1.heap.size 60 3)
  have q1 : 0 + entOf R s ≤ maxLen := by unfold maxLen; omega
  have q2 : (0 + entOf R s) * 24 ≤ 140737488355328 := by omega
  have q3 := Nat.le_refl w1.heap.size
  have Hsrc := Lib.hid (fun j u hj => (src_take Hpi.out hB2 hel j u hj))
  have Hone1 := Lib.hid (cellsOf_one (p := (pageAt R (pageOf R s)).take (entOf R s)) fun e he => Hpi.out.one e (List.mem_of_mem_take he))
  have Hlen1 := Lib.hid (show (cellsOf ((pageAt R (pageOf R s)).take (entOf R s))).length = entOf R s * 3 by rw [length_cellsOf, List.length_take, Nat.min_eq_left hel])
  have k0 : ((((pageAt R (pageOf R s)).length - 1 : Nat) : Int) == 0) = false := by rw [beq_eq_false_iff_ne]; omega
  have hsl : ∀ q, q < R.length → ∃ a m c, val pvs q = .slice a m c := fun q hq => by
    obtain ⟨a, c, h, -⟩ := owns_shape (HM.out.1.pages q hq).row
    exact ⟨_, _, _, h⟩
  have Hrow := Lib.hid (fun (f : Value) (fs : List Value) (i j : Nat) (hij : i ≤ j) (hj : j ≤ R.length) (h1 : R.length + fs.length ≤ 274877906944) (h2 : ∀ u ∈ fs, u.oneCell' = true) (w' : World) (hb : Below w.heap.size w w') (hf : NewsAt w' f fs) => row_ref 0 (.slice (some ⟨g, 0, none⟩) R.length cap) f R.length i j pvs fs hij hj h1 hsl h2 w' (owns_below HM.out.1.rows hb) hf)
  clear hsl
  obtain ⟨gn, cn, hvn, -⟩ := (HM.out.1.pages (pageOf R s + 1) f0).parts hfn
  have hrn := Hrow0.out _ f0
  rw [hvn] at hrn
  have hpn := HM.out.1.pages (pageOf R s + 1) f0
  rw [hvn] at hpn
  have Hpn := Lib.hid hpn; clear hpn
  have kl := hl _ f0
  have k2 : (pageOf R s : Int) + 1 < (R.length : Int) := by omega
  have k3 : ((((pageAt R (pageOf R s)).length - 1 : Nat) : Int) + ((pageAt R (pageOf R s + 1)).length : Int) ≤ (size : Int) / 2) := by omega
  clear hvn
  by_cases hci : cap2 = entOf R s + 1
  · have Hoff := Lib.hid (show ∀ W, Below w.heap.size w W → ∀ (j : Nat) (u : Value), (cellsOf ((pageAt R (pageOf R s)).drop (entOf R s + 1)))[j]? = some u → W.cell? ((⟨g2, 0, none⟩ : Addr).add j) = some u from fun W _ j u hj => by
      rw [List.drop_eq_nil_of_le (by omega)] at hj
      cases hj)
    have hci2 : (cap2 : Int) - ((entOf R s : Int) + 1) = 0 := by omega
    go_wp2_with (at_builtin; first | (refine wpList_append_own _ rfl _ _ 34 rfl w1.heap.size 60 i0 (.agg #[.int .u64 0, .int .u64 0, .int .u64 0]) 3 24 und_page hi hz0 hz1 hz2 rfl (by decide) _ _ _ rfl Hown0.out ⟨g2, 0, none⟩ _ _ (cellsOf ((pageAt R (pageOf R s)).take (entOf R s))) rfl Hlen1.out Hsrc.out Hone1.out q1 q2 q3 ?_; intro v' w2 hown' hgrow hnil; clear hnil; rw [Nat.zero_add] at hown'; have Hb2 := Lib.hid ((Below.refl _ _).grown hgrow q3 (fun k hk => by cases hk)); clear hgrow q1 q2 q3 Hsrc Hone1 Hlen1 Hown0; obtain ⟨a2, cap3, rfl, hx1, hx2⟩ := owns_shape hown'; have o0 := below_cell Hb2.out n0; have o1 := below_cell Hb2.out n1; have orp := below_cell Hb2.out nrp; have Hown2 := Lib.hid hown'; clear hown'; have Hsrc3 := Lib.hid (fun j u hj => Hoff.out w2 (hB2.trans (Hb2.out.mono hB2.size)) j u hj); have Hone3 := Lib.hid (cellsOf_one (p := (pageAt R (pageOf R s)).drop (entOf R s + 1)) fun e he => Hpi.out.one e (List.mem_of_mem_drop he)); have Hlen3 := Lib.hid (show (cellsOf ((pageAt R (pageOf R s)).drop (entOf R s + 1))).length = ((pageAt R (pageOf R s)).length - (entOf R s + 1)) * 3 by rw [length_cellsOf, List.length_drop]); have q1 : entOf R s + ((pageAt R (pageOf R s)).length - (entOf R s + 1)) ≤ maxLen := (by unfold maxLen; omega); have q2 : (entOf R s + ((pageAt R (pageOf R s)).length - (entOf R s + 1))) * 24 ≤ 140737488355328 := (by omega); have q3 : w1.heap.size ≤ w2.heap.size := Hb2.out.size) | (refine wpList_append_own _ rfl _ _ 34 rfl w1.heap.size 60 i0 (.agg #[.int .u64 0, .int .u64 0, .int .u64 0]) 3 24 und_page hi hz0 hz1 hz2 rfl (by decide) _ _ _ rfl Hown2.out ⟨g2, 0, none⟩ _ _ (cellsOf ((pageAt R (pageOf R s)).drop (entOf R s + 1))) rfl Hlen3.out Hsrc3.out Hone3.out q1 q2 q3 ?_; intro v' w3 hown' hgrow hnil; clear hnil; have Hb3 := Lib.hid (Hb2.out.grown hgrow q3 (fun k hk => (Hown2.out.lt k hk).1)); clear hgrow q1 q2 q3 Hsrc3 Hone3 Hlen3 Hown2; clear o0 o1 orp; rw [hn4] at hown'; obtain ⟨a3, cap4, rfl, hx3, hx4⟩ := owns_shape hown'; have o0 := below_cell Hb3.out n0; have o1 := below_cell Hb3.out n1; have orp := below_cell Hb3.out nrp; have Hown3 := Lib.hid hown'; clear hown'; have hB5 := hB2.trans (Hb3.out.mono hB2.size); (have orn := below_cell hB5 hrn; have q1 : (pageAt R (pageOf R s)).length - 1 + (pageAt R (pageOf R s + 1)).length ≤ maxLen := (by unfold maxLen; omega); have q2 : ((pageAt R (pageOf R s)).length - 1 + (pageAt R (pageOf R s + 1)).length) * 24 ≤ 140737488355328 := (by omega); have q3 : w1.heap.size ≤ w3.heap.size := Hb3.out.size; have Hsrcn := Lib.hid (owns_src (owns_below Hpn.out.row hB5)); have Honen := Lib.hid (cellsOf_one Hpn.out.one))) | (go_loud (refine wpList_append_own _ rfl _ _ 34 rfl w1.heap.size 60 i0 (.agg #[.int .u64 0, .int .u64 0, .int .u64 0]) 3 24 und_page hi hz0 hz1 hz2 rfl (by decide) _ _ _ rfl Hown3.out ⟨gn, 0, none⟩ _ _ (cellsOf (pageAt R (pageOf R s + 1))) rfl (length_cellsOf _) Hsrcn.out Honen.out q1 q2 q3 ?_; intro v' w4 hown' hgrow hnil; clear hnil; have Hb4 := Lib.hid (Hb3.out.grown hgrow q3 (fun k hk => (Hown3.out.lt k hk).1)); clear hgrow q1 q2 q3 Hsrcn Honen; clear o0 o1 orn; obtain ⟨a4, cap5, rfl, hx5, hx6⟩ := owns_shape hown'; have o1 := below_cell Hb4.out n1; have Hown4 := Lib.hid hown'; clear hown'; have hB6 := hB2.trans (Hb4.out.mono hB2.size))))
    have hb7 := below_box w4 (.cells #[.slice a4 ((pageAt R (pageOf R s)).length - 1 + (pageAt R (pageOf R s + 1)).length) cap5] 34)
    have hB7 := hB6.trans (hb7.mono hB6.size)
    refine (Hrow.out _ [.slice a4 ((pageAt R (pageOf R s)).length - 1 + (pageAt R (pageOf R s + 1)).length) cap5] (pageOf R s) (pageOf R s + 2) (by omega) (by omega) (by simp only [List.length_cons, List.length_nil]; omega) (fun u hu => by obtain rfl := List.mem_singleton.1 hu; rfl) _ hB7 (slice_news _ _ _)).mono ?_
    rintro e w5 ⟨v, rfl, hown, hb⟩
    have en : R.length - (pageOf R s + 2 - pageOf R s) + [Value.slice a4 ((pageAt R (pageOf R s)).length - 1 + (pageAt R (pageOf R s + 1)).length) cap5].length = R.length - 1 := by simp only [List.length_cons, List.length_nil]; omega
    rw [en] at hown
    obtain ⟨av, cv, rfl, -⟩ := owns_shape hown
    have hBx := hB7.trans (hb.mono hB7.size)
    have k2 := below_cell (hb7.trans (hb.mono hb7.size)) o1
    have k3 := (HM.out.1.below hBx).frozen 1
    have Hown := Lib.hid hown; clear hown
    go_wp2_with fail
    go_ret2
    have hlen := cut_len (pageAt R (pageOf R s)) hen
    have hrem : removeR size R s = R.take (pageOf R s) ++ ([((pageAt R (pageOf R s)).take (entOf R s) ++ (pageAt R (pageOf R s)).drop (entOf R s + 1)) ++ pageAt R (pageOf R s + 1)] ++ R.drop (pageOf R s + 2)) := by
      unfold removeR
      rw [if_pos ht]
      simp only [hlen]
      rw [if_neg (by omega), if_pos ⟨f0, f1⟩]
      rfl
    have hown4 := Hown4.out
    rw [cut_cells, ← cellsOf_append] at hown4
    have hend := HM.out.1.rows_end (ms := [((pageAt R (pageOf R s)).take (entOf R s) ++ (pageAt R (pageOf R s)).drop (entOf R s + 1)) ++ pageAt R (pageOf R s + 1)]) (vs := [.slice a4 ((pageAt R (pageOf R s)).length - 1 + (pageAt R (pageOf R s + 1)).length) cap5]) (vr' := .slice av (R.length - 1) cv) (i := pageOf R s) (j := pageOf R s + 2) (n' := R.length - 1) hBx (by omega) (by omega) rfl (by simp only [List.length_cons, List.length_nil]; omega)
      (owns_base Hown.out fun k hk => Nat.le_trans hB7.size (Hown.out.lt k hk).1) ?_ ?_
    · rw [hrem]
      exact ⟨rfl, _, _, hend.1, hend.2⟩
    · intro q hq
      obtain rfl : q = 0 := by simpa using hq
      refine ⟨?_, fun e he => ?_⟩
      · have : (pageAt [((pageAt R (pageOf R s)).take (entOf R s) ++ (pageAt R (pageOf R s)).drop (entOf R s + 1)) ++ pageAt R (pageOf R s + 1)] 0).length = (pageAt R (pageOf R s)).length - 1 + (pageAt R (pageOf R s + 1)).length := by
          show (((pageAt R (pageOf R s)).take (entOf R s) ++ (pageAt R (pageOf R s)).drop (entOf R s + 1)) ++ pageAt R (pageOf R s + 1)).length = _
          rw [List.length_append, hlen]
        rw [this]
        exact owns_base (owns_below (owns_below hown4 hb7) hb) fun k _ => Nat.zero_le _
      · rcases List.mem_append.1 he with h | h
        · exact cut_one Hpi.out.one e h
        · exact Hpn.out.one e h
    · intro q hq k hk
      obtain rfl : q = 0 := by simpa using hq
      have hk : (Value.slice a4 ((pageAt R (pageOf R s)).length - 1 + (pageAt R (pageOf R s + 1)).length) cap5).ownBlock = some k := hk
      have h1 := hown4.lt k hk
      refine ⟨Nat.le_trans hB2.size h1.1, fun e => ?_⟩
      have h2 := (Hown.out.lt k e).1
      simp at h2
      omega
  · have Hoff := Lib.hid (fun W hW => src_drop (i := entOf R s + 1) Hpi.out (w' := W) hW)
    go_wp2_with (at_builtin; first | (refine wpList_append_own _ rfl _ _ 34 rfl w1.heap.size 60 i0 (.agg #[.int .u64 0, .int .u64 0, .int .u64 0]) 3 24 und_page hi hz0 hz1 hz2 rfl (by decide) _ _ _ rfl Hown0.out ⟨g2, 0, none⟩ _ _ (cellsOf ((pageAt R (pageOf R s)).take (entOf R s))) rfl Hlen1.out Hsrc.out Hone1.out q1 q2 q3 ?_; intro v' w2 hown' hgrow hnil; clear hnil; rw [Nat.zero_add] at hown'; have Hb2 := Lib.hid ((Below.refl _ _).grown hgrow q3 (fun k hk => by cases hk)); clear hgrow q1 q2 q3 Hsrc Hone1 Hlen1 Hown0; obtain ⟨a2, cap3, rfl, hx1, hx2⟩ := owns_shape hown'; have o0 := below_cell Hb2.out n0; have o1 := below_cell Hb2.out n1; have orp := below_cell Hb2.out nrp; have Hown2 := Lib.hid hown'; clear hown'; have Hsrc3 := Lib.hid (fun j u hj => Hoff.out w2 (hB2.trans (Hb2.out.mono hB2.size)) j u hj); have Hone3 := Lib.hid (cellsOf_one (p := (pageAt R (pageOf R s)).drop (entOf R s + 1)) fun e he => Hpi.out.one e (List.mem_of_mem_drop he)); have Hlen3 := Lib.hid (show (cellsOf ((pageAt R (pageOf R s)).drop (entOf R s + 1))).length = ((pageAt R (pageOf R s)).length - (entOf R s + 1)) * 3 by rw [length_cellsOf, List.length_drop]); have q1 : entOf R s + ((pageAt R (pageOf R s)).length - (entOf R s + 1)) ≤ maxLen := (by unfold maxLen; omega); have q2 : (entOf R s + ((pageAt R (pageOf R s)).length - (entOf R s + 1))) * 24 ≤ 140737488355328 := (by omega); have q3 : w1.heap.size ≤ w2.heap.size := Hb2.out.size) | (refine wpList_append_own _ rfl _ _ 34 rfl w1.heap.size 60 i0 (.agg #[.int .u64 0, .int .u64 0, .int .u64 0]) 3 24 und_page hi hz0 hz1 hz2 rfl (by decide) _ _ _ rfl Hown2.out ⟨g2, (entOf R s + 1) * 3, none⟩ _ _ (cellsOf ((pageAt R (pageOf R s)).drop (entOf R s + 1))) rfl Hlen3.out Hsrc3.out Hone3.out q1 q2 q3 ?_; intro v' w3 hown' hgrow hnil; clear hnil; have Hb3 := Lib.hid (Hb2.out.grown hgrow q3 (fun k hk => (Hown2.out.lt k hk).1)); clear hgrow q1 q2 q3 Hsrc3 Hone3 Hlen3 Hown2; clear o0 o1 orp; rw [hn4] at hown'; obtain ⟨a3, cap4, rfl, hx3, hx4⟩ := owns_shape hown'; have o0 := below_cell Hb3.out n0; have o1 := below_cell Hb3.out n1; have orp := below_cell Hb3.out nrp; have Hown3 := Lib.hid hown'; clear hown'; have hB5 := hB2.trans (Hb3.out.mono hB2.size); (have orn := below_cell hB5 hrn; have q1 : (pageAt R (pageOf R s)).length - 1 + (pageAt R (pageOf R s + 1)).length ≤ maxLen := (by unfold maxLen; omega); have q2 : ((pageAt R (pageOf R s)).length - 1 + (pageAt R (pageOf R s + 1)).length) * 24 ≤ 140737488355328 := (by omega); have q3 : w1.heap.size ≤ w3.heap.size := Hb3.out.size; have Hsrcn := Lib.hid (owns_src (owns_below Hpn.out.row hB5)); have Honen := Lib.hid (cellsOf_one Hpn.out.one))) | (go_loud (refine wpList_append_own _ rfl _ _ 34 rfl w1.heap.size 60 i0 (.agg #[.int .u64 0, .int .u64 0, .int .u64 0]) 3 24 und_page hi hz0 hz1 hz2 rfl (by decide) _ _ _ rfl Hown3.out ⟨gn, 0, none⟩ _ _ (cellsOf (pageAt R (pageOf R s + 1))) rfl (length_cellsOf _) Hsrcn.out Honen.out q1 q2 q3 ?_; intro v' w4 hown' hgrow hnil; clear hnil; have Hb4 := Lib.hid (Hb3.out.grown hgrow q3 (fun k hk => (Hown3.out.lt k hk).1)); clear hgrow q1 q2 q3 Hsrcn Honen; clear o0 o1 orn; obtain ⟨a4, cap5, rfl, hx5, hx6⟩ := owns_shape hown'; have o1 := below_cell Hb4.out n1; have Hown4 := Lib.hid hown'; clear hown'; have hB6 := hB2.trans (Hb4.out.mono hB2.size))))
    have hb7 := below_box w4 (.cells #[.slice a4 ((pageAt R (pageOf R s)).length - 1 + (pageAt R (pageOf R s + 1)).length) cap5] 34)
    have hB7 := hB6.trans (hb7.mono hB6.size)
    refine (Hrow.out _ [.slice a4 ((pageAt R (pageOf R s)).length - 1 + (pageAt R (pageOf R s + 1)).length) cap5] (pageOf R s) (pageOf R s + 2) (by omega) (by omega) (by simp only [List.length_cons, List.length_nil]; omega) (fun u hu => by obtain rfl := List.mem_singleton.1 hu; rfl) _ hB7 (slice_news _ _ _)).mono ?_
    rintro e w5 ⟨v, rfl, hown, hb⟩
    have en : R.length - (pageOf R s + 2 - pageOf R s) + [Value.slice a4 ((pageAt R (pageOf R s)).length - 1 + (pageAt R (pageOf R s + 1)).length) cap5].length = R.length - 1 := by simp only [List.length_cons, List.length_nil]; omega
    rw [en] at hown
    obtain ⟨av, cv, rfl, -⟩ := owns_shape hown
    have hBx := hB7.trans (hb.mono hB7.size)
    have k2 := below_cell (hb7.trans (hb.mono hb7.size)) o1
    have k3 := (HM.out.1.below hBx).frozen 1
    have Hown := Lib.hid hown; clear hown
    go_wp2_with fail
    go_ret2
    have hlen := cut_len (pageAt R (pageOf R s)) hen
    have hrem : removeR size R s = R.take (pageOf R s) ++ ([((pageAt R (pageOf R s)).take (entOf R s) ++ (pageAt R (pageOf R s)).drop (entOf R s + 1)) ++ pageAt R (pageOf R s + 1)] ++ R.drop (pageOf R s + 2)) := by
      unfold removeR
      rw [if_pos ht]
      simp only [hlen]
      rw [if_neg (by omega), if_pos ⟨f0, f1⟩]
      rfl
    have hown4 := Hown4.out
    rw [cut_cells, ← cellsOf_append] at hown4
    have hend := HM.out.1.rows_end (ms := [((pageAt R (pageOf R s)).take (entOf R s) ++ (pageAt R (pageOf R s)).drop (entOf R s + 1)) ++ pageAt R (pageOf R s + 1)]) (vs := [.slice a4 ((pageAt R (pageOf R s)).length - 1 + (pageAt R (pageOf R s + 1)).length) cap5]) (vr' := .slice av (R.length - 1) cv) (i := pageOf R s) (j := pageOf R s + 2) (n' := R.length - 1) hBx (by omega) (by omega) rfl (by simp only [List.length_cons, List.length_nil]; omega)
      (owns_base Hown.out fun k hk => Nat.le_trans hB7.size (Hown.out.lt k hk).1) ?_ ?_
    · rw [hrem]
      exact ⟨rfl, _, _, hend.1, hend.2⟩
    · intro q hq
      obtain rfl : q = 0 := by simpa using hq
      refine ⟨?_, fun e he => ?_⟩
      · have : (pageAt [((pageAt R (pageOf R s)).take (entOf R s) ++ (pageAt R (pageOf R s)).drop (entOf R s + 1)) ++ pageAt R (pageOf R s + 1)] 0).length = (pageAt R (pageOf R s)).length - 1 + (pageAt R (pageOf R s + 1)).length := by
          show (((pageAt R (pageOf R s)).take (entOf R s) ++ (pageAt R (pageOf R s)).drop (entOf R s + 1)) ++ pageAt R (pageOf R s + 1)).length = _
          rw [List.length_append, hlen]
        rw [this]
        exact owns_base (owns_below (owns_below hown4 hb7) hb) fun k _ => Nat.zero_le _
      · rcases List.mem_append.1 he with h | h
        · exact cut_one Hpi.out.one e h
        · exact Hpn.out.one e h
    · intro q hq k hk
      obtain rfl : q = 0 := by simpa using hq
      have hk : (Value.slice a4 ((pageAt R (pageOf R s)).length - 1 + (pageAt R (pageOf R s + 1)).length) cap5).ownBlock = some k := hk
      have h1 := hown4.lt k hk
      refine ⟨Nat.le_trans hB2.size h1.1, fun e => ?_⟩
      have h2 := (Hown.out.lt k e).1
      simp at h2
      omega
end Go.Proofs.Ytagcohpghgnalaa.RF
namespace Go.Proofs.Ytagcohpghgnalaa.RF
open Go.RowKit Go.RG Go.Hp Go.Pg Go.Proofs.Ytagcohpghgnalaa



set_option maxHeartbeats 2000000 in
set_option maxRecDepth 100000 in
theorem rem_rprev (s : St) (bx size : Nat) (h64 : size ≤ 64) (R : List (List Ent)) (hR : 0 < R.length) (hm : R.length ≤ 274877906942) (hO : Ordered R) (hl : ∀ i, i < R.length → (pageAt R i).length ≤ 64) (hN : ∀ e ∈ R.flatten, U.NumV e.v)
    (ht : there R s = true) (h1 : 1 < (pageAt R (pageOf R s)).length) (f1 : pageOf R s + 1 < R.length → size / 2 < (pageAt R (pageOf R s + 1)).length + ((pageAt R (pageOf R s)).length - 1)) (f0 : 0 < pageOf R s) (f2 : (pageAt R (pageOf R s - 1)).length + ((pageAt R (pageOf R s)).length - 1) ≤ size / 2)
    (S : Nat → Prop) (vr : Value) (pvs : List Value) (w : World) (hM : RMemV w bx size R S vr pvs) :
    Calls Try.prog 85 #[.pointer (some ⟨bx, 0, none⟩), s.v] w (RRemPost w bx size (removeR size R s) S (ent (pageAt R (pageOf R s)) (entOf R s)).v) := by
  have hfq := hO.full (pageOf R s - 1) (by have := pageOf_lt (s := s) hR; omega)
  have hB0 := below_box w (.cells #[.int .u64 s.t, .int .u64 s.s] 38)
  have HP := Lib.hid (place_rsome s bx size R hR (by omega) hO (fun i hi => by have := hl i hi; omega) S vr pvs _ (hM.below hB0))
  have hpl := pageOf_lt (s := s) hR
  have hlp := hl _ hpl
  have hf0 := hO.full _ hpl
  obtain ⟨m0, m1⟩ := hM.cells
  obtain ⟨g, cap, rfl, hg, hc, hcm, hrow, hfr⟩ := hM.row hR
  obtain ⟨g2, cap2, hv2, hg2, hc2, hcm2, hpage, hone, -⟩ := (hM.pages _ hpl).parts hf0
  have hen : entOf R s < (pageAt R (pageOf R s)).length := by
    have ht := ht
    unfold there at ht
    have := (isIn_iff.1 ht).1
    rwa [length_keys] at this
  obtain ⟨-, -, z2⟩ := hpage _ hen
  obtain ⟨num, hnum⟩ := ent_num hN hpl hen
  have hrp := hrow _ hpl
  rw [hv2] at hrp
  rw [hnum] at z2 ⊢
  have hbx := block_lt_of_heap hM.str
  have hpi := hM.pages _ hpl
  rw [hv2] at hpi
  have Hpi := Lib.hid hpi; clear hpi
  have HM := Lib.hid (And.intro hM (And.intro hO (And.intro hv2 hnum))); clear hM hO
  rw [ht] at HP
  have e1 : (pageOf R s : Int) < (R.length : Int) := by omega
  have e2 : (entOf R s : Int) < ((pageAt R (pageOf R s)).length : Int) := by omega
  have e3 : (entOf R s : Int) ≤ ((pageAt R (pageOf R s)).length : Int) := by omega
  have e4 : (entOf R s : Int) + 1 ≤ ((pageAt R (pageOf R s)).length : Int) := by omega
  have hfr := hfr (pageOf R s)
  clear hpage hone hv2 hnum hN
  have Hrow0 := Lib.hid hrow; clear hrow
  obtain ⟨i0, hi, hz0, hz1, hz2⟩ := info_parts BK.info_Entry
  unfold St.v at HP ⊢
  go_enter Try.func85, Try.ntmps85
  go_wp2_with fail
  generalize w.alloc (.cells #[.int .u64 s.t, .int .u64 s.s] 38) = w0 at hB0 HP ⊢
  refine HP.out.mono ?_
  rintro e w1 ⟨rfl, hB⟩
  have hB2 := hB0.trans (hB.mono hB0.size)
  clear hB0 hB HP
  have n0 := below_cell hB2 m0
  have n1 := below_cell hB2 m1
  have nrp := below_cell hB2 hrp
  have nz2 := below_cell hB2 z2
  clear m0 m1 z2
  have hel : entOf R s ≤ (pageAt R (pageOf R s)).length := by omega
  have hn4 : entOf R s + ((pageAt R (pageOf R s)).length - (entOf R s + 1)) = (pageAt R (pageOf R s)).length - 1 := by omega
  have Hown0 := Lib.hid (World.ownsRow_nil w1 w1.heap.size 60 3)
  have q1 : 0 + entOf R s ≤ maxLen := by unfold maxLen; omega
  have q2 : (0 + entOf R s) * 24 ≤ 140737488355328 := by omega
  have q3 := Nat.le_refl w1.heap.size
  have Hsrc := Lib.hid (fun j u hj => (src_take Hpi.out hB2 hel j u hj))
  have Hone1 := Lib.hid (cellsOf_one (p := (pageAt R (pageOf R s)).take (entOf R s)) fun e he => Hpi.out.one e (List.mem_of_mem_take he))
  have Hlen1 := Lib.hid (show (cellsOf ((pageAt R (pageOf R s)).take (entOf R s))).length = entOf R s * 3 by rw [length_cellsOf, List.length_take, Nat.min_eq_left hel])
  have k0 : ((((pageAt R (pageOf R s)).length - 1 : Nat) : Int) == 0) = false := by rw [beq_eq_false_iff_ne]; omega
  have hsl : ∀ q, q < R.length → ∃ a m c, val pvs q = .slice a m c := fun q hq => by
    obtain ⟨a, c, h, -⟩ := owns_shape (HM.out.1.pages q hq).row
    exact ⟨_, _, _, h⟩
  have Hrow := Lib.hid (fun (f : Value) (fs : List Value) (i j : Nat) (hij : i ≤ j) (hj : j ≤ R.length) (h1 : R.length + fs.length ≤ 274877906944) (h2 : ∀ u ∈ fs, u.oneCell' = true) (w' : World) (hb : Below w.heap.size w w') (hf : NewsAt w' f fs) => row_ref 0 (.slice (some ⟨g, 0, none⟩) R.length cap) f R.length i j pvs fs hij hj h1 hsl h2 w' (owns_below HM.out.1.rows hb) hf)
  clear hsl
  have hq1 : pageOf R s - 1 < R.length := by omega
  obtain ⟨gq, cq, hvq, -⟩ := (HM.out.1.pages (pageOf R s - 1) hq1).parts hfq
  have hrq := Hrow0.out _ hq1
  rw [hvq] at hrq
  have hpq := HM.out.1.pages (pageOf R s - 1) hq1
  rw [hvq] at hpq
  have Hpq := Lib.hid hpq; clear hpq
  have km := hl _ hq1
  have k5 : (0 : Int) < (pageOf R s : Int) := by omega
  have k6 : (((pageAt R (pageOf R s - 1)).length : Int) + (((pageAt R (pageOf R s)).length - 1 : Nat) : Int) ≤ (size : Int) / 2) := by omega
  clear hvq
  have Hlen5 := Lib.hid (show (cellsOf ((pageAt R (pageOf R s)).take (entOf R s) ++ (pageAt R (pageOf R s)).drop (entOf R s + 1))).length = ((pageAt R (pageOf R s)).length - 1) * 3 by rw [length_cellsOf, cut_len _ hen])
  have Hone5 := Lib.hid (cellsOf_one (cut_one (i := entOf R s) Hpi.out.one))
  by_cases hn1 : pageOf R s + 1 < R.length
  · obtain ⟨an, cn, hvn, -⟩ := owns_shape (HM.out.1.pages (pageOf R s + 1) hn1).row
    have hrn := Hrow0.out _ hn1
    rw [hvn] at hrn
    have k1 := f1 hn1
    have kl := hl _ hn1
    have k2 : (pageOf R s : Int) + 1 < (R.length : Int) := by omega
    have k3 : ¬ ((((pageAt R (pageOf R s)).length - 1 : Nat) : Int) + ((pageAt R (pageOf R s + 1)).length : Int) ≤ (size : Int) / 2) := by omega
    clear hvn
    by_cases hci : cap2 = entOf R s + 1
    · have Hoff := Lib.hid (show ∀ W, Below w.heap.size w W → ∀ (j : Nat) (u : Value), (cellsOf ((pageAt R (pageOf R s)).drop (entOf R s + 1)))[j]? = some u → W.cell? ((⟨g2, 0, none⟩ : Addr).add j) = some u from fun W _ j u hj => by
        rw [List.drop_eq_nil_of_le (by omega)] at hj
        cases hj)
      have hci2 : (cap2 : Int) - ((entOf R s : Int) + 1) = 0 := by omega
      go_wp2_with (at_builtin; first | (refine wpList_append_own _ rfl _ _ 34 rfl w1.heap.size 60 i0 (.agg #[.int .u64 0, .int .u64 0, .int .u64 0]) 3 24 und_page hi hz0 hz1 hz2 rfl (by decide) _ _ _ rfl Hown0.out ⟨g2, 0, none⟩ _ _ (cellsOf ((pageAt R (pageOf R s)).take (entOf R s))) rfl Hlen1.out Hsrc.out Hone1.out q1 q2 q3 ?_; intro v' w2 hown' hgrow hnil; clear hnil; rw [Nat.zero_add] at hown'; have Hb2 := Lib.hid ((Below.refl _ _).grown hgrow q3 (fun k hk => by cases hk)); clear hgrow q1 q2 q3 Hsrc Hone1 Hlen1 Hown0; obtain ⟨a2, cap3, rfl, hx1, hx2⟩ := owns_shape hown'; have o0 := below_cell Hb2.out n0; have o1 := below_cell Hb2.out n1; have orp := below_cell Hb2.out nrp; have Hown2 := Lib.hid hown'; clear hown'; have Hsrc3 := Lib.hid (fun j u hj => Hoff.out w2 (hB2.trans (Hb2.out.mono hB2.size)) j u hj); have Hone3 := Lib.hid (cellsOf_one (p := (pageAt R (pageOf R s)).drop (entOf R s + 1)) fun e he => Hpi.out.one e (List.mem_of_mem_drop he)); have Hlen3 := Lib.hid (show (cellsOf ((pageAt R (pageOf R s)).drop (entOf R s + 1))).length = ((pageAt R (pageOf R s)).length - (entOf R s + 1)) * 3 by rw [length_cellsOf, List.length_drop]); have q1 : entOf R s + ((pageAt R (pageOf R s)).length - (entOf R s + 1)) ≤ maxLen := (by unfold maxLen; omega); have q2 : (entOf R s + ((pageAt R (pageOf R s)).length - (entOf R s + 1))) * 24 ≤ 140737488355328 := (by omega); have q3 : w1.heap.size ≤ w2.heap.size := Hb2.out.size) | (refine wpList_append_own _ rfl _ _ 34 rfl w1.heap.size 60 i0 (.agg #[.int .u64 0, .int .u64 0, .int .u64 0]) 3 24 und_page hi hz0 hz1 hz2 rfl (by decide) _ _ _ rfl Hown2.out ⟨g2, 0, none⟩ _ _ (cellsOf ((pageAt R (pageOf R s)).drop (entOf R s + 1))) rfl Hlen3.out Hsrc3.out Hone3.out q1 q2 q3 ?_; intro v' w3 hown' hgrow hnil; clear hnil; have Hb3 := Lib.hid (Hb2.out.grown hgrow q3 (fun k hk => (Hown2.out.lt k hk).1)); clear hgrow q1 q2 q3 Hsrc3 Hone3 Hlen3 Hown2; clear o0 o1 orp; rw [hn4] at hown'; obtain ⟨a3, cap4, rfl, hx3, hx4⟩ := owns_shape hown'; have o0 := below_cell Hb3.out n0; have o1 := below_cell Hb3.out n1; have orp := below_cell Hb3.out nrp; have Hown3 := Lib.hid hown'; clear hown'; have hB5 := hB2.trans (Hb3.out.mono hB2.size); (have orn := below_cell hB5 hrn; have orq := below_cell hB5 hrq; have hbz : bx < w3.heap.size := (by have := hB5.size; omega); have hgz : g < w3.heap.size := (by have := hB5.size; omega); have hown3 := Hown3.out; rw [cut_cells] at hown3; clear Hown3; have Hown3 := Lib.hid hown3; clear hown3; have hp3 := owns_parts Hown3.out (by omega); obtain ⟨g3, c3, e3', -, hg3, hc3, -⟩ := hp3; injection e3' with e3' _ e5; subst e3' e5; have q1 : 0 + (pageAt R (pageOf R s - 1)).length ≤ maxLen := (by unfold maxLen; omega); have q2 : (0 + (pageAt R (pageOf R s - 1)).length) * 24 ≤ 140737488355328 := (by omega); have q3 : w1.heap.size ≤ (w3.alloc (.cells #[] 60)).heap.size := (by have := Hb3.out.size; simp; omega); have Hown5 := Lib.hid (owns_of_row (base := w1.heap.size) (size := 3) (n := 0) (cap := 0) (xs := []) (row_new w3 [] 60) rfl (Nat.le_refl _) (by decide) rfl Hb3.out.size); have Hsrcq := Lib.hid (owns_src (owns_below Hpq.out.row (hB5.trans ((below_box w3 (.cells #[] 60)).mono hB5.size)))); have Honeq := Lib.hid (cellsOf_one Hpq.out.one))) | first | (refine wpList_append_own _ rfl _ _ 34 rfl w1.heap.size 60 i0 (.agg #[.int .u64 0, .int .u64 0, .int .u64 0]) 3 24 und_page hi hz0 hz1 hz2 rfl (by decide) _ _ _ rfl Hown5.out ⟨gq, 0, none⟩ _ _ (cellsOf (pageAt R (pageOf R s - 1))) rfl (length_cellsOf _) Hsrcq.out Honeq.out q1 q2 q3 ?_; intro v' w4 hown' hgrow hnil; clear hnil; rw [Nat.zero_add] at hown'; have hb3 := Hb3.out.trans ((below_box w3 (.cells #[] 60)).mono Hb3.out.size); have Hb4 := Lib.hid (hb3.grown hgrow q3 (fun k hk => (Hown5.out.lt k hk).1)); have Hg4 := Lib.hid ((below_box w3 (.cells #[] 60)).grown hgrow (below_box w3 (.cells #[] 60)).size (fun k hk => by have hk : w3.heap.size = k := Option.some.inj hk; omega)); clear hgrow q1 q2 q3 Hsrcq Honeq Hown5 hb3; clear o0 o1 orp orq; obtain ⟨a4, cap5, rfl, hx5, hx6⟩ := owns_shape hown'; have o1 := below_cell Hb4.out n1; have Hown4 := Lib.hid hown'; clear hown'; have hB6 := hB2.trans (Hb4.out.mono hB2.size); have Hown3' := Lib.hid (owns_below Hown3.out Hg4.out); have Hsrc5 := Lib.hid (owns_src Hown3'.out); have q1 : (pageAt R (pageOf R s - 1)).length + ((pageAt R (pageOf R s)).length - 1) ≤ maxLen := (by unfold maxLen; omega); have q2 : ((pageAt R (pageOf R s - 1)).length + ((pageAt R (pageOf R s)).length - 1)) * 24 ≤ 140737488355328 := (by omega); have q3 : w1.heap.size ≤ w4.heap.size := Hb4.out.size) | (go_loud (refine wpList_append_own _ rfl _ _ 34 rfl w1.heap.size 60 i0 (.agg #[.int .u64 0, .int .u64 0, .int .u64 0]) 3 24 und_page hi hz0 hz1 hz2 rfl (by decide) _ _ _ rfl Hown4.out ⟨g3, 0, none⟩ _ _ _ rfl Hlen5.out Hsrc5.out Hone5.out q1 q2 q3 ?_; intro v' w5 hown' hgrow hnil; clear hnil; have Hb5 := Lib.hid (Hb4.out.grown hgrow q3 (fun k hk => (Hown4.out.lt k hk).1)); clear hgrow q1 q2 q3 Hsrc5 Hone5 Hlen5; clear o1; obtain ⟨a5, cap6, rfl, hx7, hx8⟩ := owns_shape hown'; have o1 := below_cell Hb5.out n1; have Hown6 := Lib.hid hown'; clear hown'; have hB8 := hB2.trans (Hb5.out.mono hB2.size))))
      have hz : (pageOf R s : Int) - 1 = ((pageOf R s - 1 : Nat) : Int) := by omega
      rw [hz]
      have hb7 := below_box w5 (.cells #[.slice a5 ((pageAt R (pageOf R s - 1)).length + ((pageAt R (pageOf R s)).length - 1)) cap6] 34)
      have hB7 := hB8.trans (hb7.mono hB8.size)
      refine (Hrow.out _ [.slice a5 ((pageAt R (pageOf R s - 1)).length + ((pageAt R (pageOf R s)).length - 1)) cap6] (pageOf R s - 1) (pageOf R s + 1) (by omega) (by omega) (by simp only [List.length_cons, List.length_nil]; omega) (fun u hu => by obtain rfl := List.mem_singleton.1 hu; rfl) _ hB7 (slice_news _ _ _)).mono ?_
      rintro e w6 ⟨v, rfl, hown, hb⟩
      have en : R.length - (pageOf R s + 1 - (pageOf R s - 1)) + [Value.slice a5 ((pageAt R (pageOf R s - 1)).length + ((pageAt R (pageOf R s)).length - 1)) cap6].length = R.length - 1 := by simp only [List.length_cons, List.length_nil]; omega
      rw [en] at hown
      obtain ⟨av, cv, rfl, -⟩ := owns_shape hown
      have hBx := hB7.trans (hb.mono hB7.size)
      have k2 := below_cell (hb7.trans (hb.mono hb7.size)) o1
      have k3 := (HM.out.1.below hBx).frozen 1
      have Hown := Lib.hid hown; clear hown
      go_wp2_with fail
      go_ret2
      have hlen := cut_len (pageAt R (pageOf R s)) hen
      have hrem : removeR size R s = R.take (pageOf R s - 1) ++ ([pageAt R (pageOf R s - 1) ++ ((pageAt R (pageOf R s)).take (entOf R s) ++ (pageAt R (pageOf R s)).drop (entOf R s + 1))] ++ R.drop (pageOf R s + 1)) := by
        unfold removeR
        rw [if_pos ht]
        simp only [hlen]
        rw [if_neg (by omega), if_neg (by rintro ⟨h, h'⟩; have := f1 h; omega), if_pos ⟨f0, f2⟩]
        rfl
      have hown4 := Hown6.out
      rw [List.nil_append, ← cellsOf_append] at hown4
      have hend := HM.out.1.rows_end (ms := [pageAt R (pageOf R s - 1) ++ ((pageAt R (pageOf R s)).take (entOf R s) ++ (pageAt R (pageOf R s)).drop (entOf R s + 1))]) (vs := [.slice a5 ((pageAt R (pageOf R s - 1)).length + ((pageAt R (pageOf R s)).length - 1)) cap6]) (vr' := .slice av (R.length - 1) cv) (i := pageOf R s - 1) (j := pageOf R s + 1) (n' := R.length - 1) hBx (by omega) (by omega) rfl (by simp only [List.length_cons, List.length_nil]; omega)
        (owns_base Hown.out fun k hk => Nat.le_trans hB7.size (Hown.out.lt k hk).1) ?_ ?_
      · rw [hrem]
        exact ⟨rfl, _, _, hend.1, hend.2⟩
      · intro q hq
        obtain rfl : q = 0 := by simpa using hq
        refine ⟨?_, fun e he => ?_⟩
        · have : (pageAt [pageAt R (pageOf R s - 1) ++ ((pageAt R (pageOf R s)).take (entOf R s) ++ (pageAt R (pageOf R s)).drop (entOf R s + 1))] 0).length = (pageAt R (pageOf R s - 1)).length + ((pageAt R (pageOf R s)).length - 1) := by
            show (pageAt R (pageOf R s - 1) ++ ((pageAt R (pageOf R s)).take (entOf R s) ++ (pageAt R (pageOf R s)).drop (entOf R s + 1))).length = _
            rw [List.length_append, hlen]
          rw [this]
          exact owns_base (owns_below (owns_below hown4 hb7) hb) fun k _ => Nat.zero_le _
        · rcases List.mem_append.1 he with h | h
          · exact Hpq.out.one e h
          · exact cut_one Hpi.out.one e h
      · intro q hq k hk
        obtain rfl : q = 0 := by simpa using hq
        have hk : (Value.slice a5 ((pageAt R (pageOf R s - 1)).length + ((pageAt R (pageOf R s)).length - 1)) cap6).ownBlock = some k := hk
        have h1 := hown4.lt k hk
        refine ⟨Nat.le_trans hB2.size h1.1, fun e => ?_⟩
        have h2 := (Hown.out.lt k e).1
        simp at h2
        omega
    · have Hoff := Lib.hid (fun W hW => src_drop (i := entOf R s + 1) Hpi.out (w' := W) hW)
      go_wp2_with (at_builtin; first | (refine wpList_append_own _ rfl _ _ 34 rfl w1.heap.size 60 i0 (.agg #[.int .u64 0, .int .u64 0, .int .u64 0]) 3 24 und_page hi hz0 hz1 hz2 rfl (by decide) _ _ _ rfl Hown0.out ⟨g2, 0, none⟩ _ _ (cellsOf ((pageAt R (pageOf R s)).take (entOf R s))) rfl Hlen1.out Hsrc.out Hone1.out q1 q2 q3 ?_; intro v' w2 hown' hgrow hnil; clear hnil; rw [Nat.zero_add] at hown'; have Hb2 := Lib.hid ((Below.refl _ _).grown hgrow q3 (fun k hk => by cases hk)); clear hgrow q1 q2 q3 Hsrc Hone1 Hlen1 Hown0; obtain ⟨a2, cap3, rfl, hx1, hx2⟩ := owns_shape hown'; have o0 := below_cell Hb2.out n0; have o1 := below_cell Hb2.out n1; have orp := below_cell Hb2.out nrp; have Hown2 := Lib.hid hown'; clear hown'; have Hsrc3 := Lib.hid (fun j u hj => Hoff.out w2 (hB2.trans (Hb2.out.mono hB2.size)) j u hj); have Hone3 := Lib.hid (cellsOf_one (p := (pageAt R (pageOf R s)).drop (entOf R s + 1)) fun e he => Hpi.out.one e (List.mem_of_mem_drop he)); have Hlen3 := Lib.hid (show (cellsOf ((pageAt R (pageOf R s)).drop (entOf R s + 1))).length = ((pageAt R (pageOf R s)).length - (entOf R s + 1)) * 3 by rw [length_cellsOf, List.length_drop]); have q1 : entOf R s + ((pageAt R (pageOf R s)).length - (entOf R s + 1)) ≤ maxLen := (by unfold maxLen; omega); have q2 : (entOf R s + ((pageAt R (pageOf R s)).length - (entOf R s + 1))) * 24 ≤ 140737488355328 := (by omega); have q3 : w1.heap.size ≤ w2.heap.size := Hb2.out.size) | (refine wpList_append_own _ rfl _ _ 34 rfl w1.heap.size 60 i0 (.agg #[.int .u64 0, .int .u64 0, .int .u64 0]) 3 24 und_page hi hz0 hz1 hz2 rfl (by decide) _ _ _ rfl Hown2.out ⟨g2, (entOf R s + 1) * 3, none⟩ _ _ (cellsOf ((pageAt R (pageOf R s)).drop (entOf R s + 1))) rfl Hlen3.out Hsrc3.out Hone3.out q1 q2 q3 ?_; intro v' w3 hown' hgrow hnil; clear hnil; have Hb3 := Lib.hid (Hb2.out.grown hgrow q3 (fun k hk => (Hown2.out.lt k hk).1)); clear hgrow q1 q2 q3 Hsrc3 Hone3 Hlen3 Hown2; clear o0 o1 orp; rw [hn4] at hown'; obtain ⟨a3, cap4, rfl, hx3, hx4⟩ := owns_shape hown'; have o0 := below_cell Hb3.out n0; have o1 := below_cell Hb3.out n1; have orp := below_cell Hb3.out nrp; have Hown3 := Lib.hid hown'; clear hown'; have hB5 := hB2.trans (Hb3.out.mono hB2.size); (have orn := below_cell hB5 hrn; have orq := below_cell hB5 hrq; have hbz : bx < w3.heap.size := (by have := hB5.size; omega); have hgz : g < w3.heap.size := (by have := hB5.size; omega); have hown3 := Hown3.out; rw [cut_cells] at hown3; clear Hown3; have Hown3 := Lib.hid hown3; clear hown3; have hp3 := owns_parts Hown3.out (by omega); obtain ⟨g3, c3, e3', -, hg3, hc3, -⟩ := hp3; injection e3' with e3' _ e5; subst e3' e5; have q1 : 0 + (pageAt R (pageOf R s - 1)).length ≤ maxLen := (by unfold maxLen; omega); have q2 : (0 + (pageAt R (pageOf R s - 1)).length) * 24 ≤ 140737488355328 := (by omega); have q3 : w1.heap.size ≤ (w3.alloc (.cells #[] 60)).heap.size := (by have := Hb3.out.size; simp; omega); have Hown5 := Lib.hid (owns_of_row (base := w1.heap.size) (size := 3) (n := 0) (cap := 0) (xs := []) (row_new w3 [] 60) rfl (Nat.le_refl _) (by decide) rfl Hb3.out.size); have Hsrcq := Lib.hid (owns_src (owns_below Hpq.out.row (hB5.trans ((below_box w3 (.cells #[] 60)).mono hB5.size)))); have Honeq := Lib.hid (cellsOf_one Hpq.out.one))) | first | (refine wpList_append_own _ rfl _ _ 34 rfl w1.heap.size 60 i0 (.agg #[.int .u64 0, .int .u64 0, .int .u64 0]) 3 24 und_page hi hz0 hz1 hz2 rfl (by decide) _ _ _ rfl Hown5.out ⟨gq, 0, none⟩ _ _ (cellsOf (pageAt R (pageOf R s - 1))) rfl (length_cellsOf _) Hsrcq.out Honeq.out q1 q2 q3 ?_; intro v' w4 hown' hgrow hnil; clear hnil; rw [Nat.zero_add] at hown'; have hb3 := Hb3.out.trans ((below_box w3 (.cells #[] 60)).mono Hb3.out.size); have Hb4 := Lib.hid (hb3.grown hgrow q3 (fun k hk => (Hown5.out.lt k hk).1)); have Hg4 := Lib.hid ((below_box w3 (.cells #[] 60)).grown hgrow (below_box w3 (.cells #[] 60)).size (fun k hk => by have hk : w3.heap.size = k := Option.some.inj hk; omega)); clear hgrow q1 q2 q3 Hsrcq Honeq Hown5 hb3; clear o0 o1 orp orq; obtain ⟨a4, cap5, rfl, hx5, hx6⟩ := owns_shape hown'; have o1 := below_cell Hb4.out n1; have Hown4 := Lib.hid hown'; clear hown'; have hB6 := hB2.trans (Hb4.out.mono hB2.size); have Hown3' := Lib.hid (owns_below Hown3.out Hg4.out); have Hsrc5 := Lib.hid (owns_src Hown3'.out); have q1 : (pageAt R (pageOf R s - 1)).length + ((pageAt R (pageOf R s)).length - 1) ≤ maxLen := (by unfold maxLen; omega); have q2 : ((pageAt R (pageOf R s - 1)).length + ((pageAt R (pageOf R s)).length - 1)) * 24 ≤ 140737488355328 := (by omega); have q3 : w1.heap.size ≤ w4.heap.size := Hb4.out.size) | (go_loud (refine wpList_append_own _ rfl _ _ 34 rfl w1.heap.size 60 i0 (.agg #[.int .u64 0, .int .u64 0, .int .u64 0]) 3 24 und_page hi hz0 hz1 hz2 rfl (by decide) _ _ _ rfl Hown4.out ⟨g3, 0, none⟩ _ _ _ rfl Hlen5.out Hsrc5.out Hone5.out q1 q2 q3 ?_; intro v' w5 hown' hgrow hnil; clear hnil; have Hb5 := Lib.hid (Hb4.out.grown hgrow q3 (fun k hk => (Hown4.out.lt k hk).1)); clear hgrow q1 q2 q3 Hsrc5 Hone5 Hlen5; clear o1; obtain ⟨a5, cap6, rfl, hx7, hx8⟩ := owns_shape hown'; have o1 := below_cell Hb5.out n1; have Hown6 := Lib.hid hown'; clear hown'; have hB8 := hB2.trans (Hb5.out.mono hB2.size))))
      have hz : (pageOf R s : Int) - 1 = ((pageOf R s - 1 : Nat) : Int) := by omega
      rw [hz]
      have hb7 := below_box w5 (.cells #[.slice a5 ((pageAt R (pageOf R s - 1)).length + ((pageAt R (pageOf R s)).length - 1)) cap6] 34)
      have hB7 := hB8.trans (hb7.mono hB8.size)
      refine (Hrow.out _ [.slice a5 ((pageAt R (pageOf R s - 1)).length + ((pageAt R (pageOf R s)).length - 1)) cap6] (pageOf R s - 1) (pageOf R s + 1) (by omega) (by omega) (by simp only [List.length_cons, List.length_nil]; omega) (fun u hu => by obtain rfl := List.mem_singleton.1 hu; rfl) _ hB7 (slice_news _ _ _)).mono ?_
      rintro e w6 ⟨v, rfl, hown, hb⟩
      have en : R.length - (pageOf R s + 1 - (pageOf R s - 1)) + [Value.slice a5 ((pageAt R (pageOf R s - 1)).length + ((pageAt R (pageOf R s)).length - 1)) cap6].length = R.length - 1 := by simp only [List.length_cons, List.length_nil]; omega
      rw [en] at hown
      obtain ⟨av, cv, rfl, -⟩ := owns_shape hown
      have hBx := hB7.trans (hb.mono hB7.size)
      have k2 := below_cell (hb7.trans (hb.mono hb7.size)) o1
      have k3 := (HM.out.1.below hBx).frozen 1
      have Hown := Lib.hid hown; clear hown
      go_wp2_with fail
      go_ret2
      have hlen := cut_len (pageAt R (pageOf R s)) hen
      have hrem : removeR size R s = R.take (pageOf R s - 1) ++ ([pageAt R (pageOf R s - 1) ++ ((pageAt R (pageOf R s)).take (entOf R s) ++ (pageAt R (pageOf R s)).drop (entOf R s + 1))] ++ R.drop (pageOf R s + 1)) := by
        unfold removeR
        rw [if_pos ht]
        simp only [hlen]
        rw [if_neg (by omega), if_neg (by rintro ⟨h, h'⟩; have := f1 h; omega), if_pos ⟨f0, f2⟩]
        rfl
      have hown4 := Hown6.out
      rw [List.nil_append, ← cellsOf_append] at hown4
      have hend := HM.out.1.rows_end (ms := [pageAt R (pageOf R s - 1) ++ ((pageAt R (pageOf R s)).take (entOf R s) ++ (pageAt R (pageOf R s)).drop (entOf R s + 1))]) (vs := [.slice a5 ((pageAt R (pageOf R s - 1)).length + ((pageAt R (pageOf R s)).length - 1)) cap6]) (vr' := .slice av (R.length - 1) cv) (i := pageOf R s - 1) (j := pageOf R s + 1) (n' := R.length - 1) hBx (by omega) (by omega) rfl (by simp only [List.length_cons, List.length_nil]; omega)
        (owns_base Hown.out fun k hk => Nat.le_trans hB7.size (Hown.out.lt k hk).1) ?_ ?_
      · rw [hrem]
        exact ⟨rfl, _, _, hend.1, hend.2⟩
      · intro q hq
        obtain rfl : q = 0 := by simpa using hq
        refine ⟨?_, fun e he => ?_⟩
        · have : (pageAt [pageAt R (pageOf R s - 1) ++ ((pageAt R (pageOf R s)).take (entOf R s) ++ (pageAt R (pageOf R s)).drop (entOf R s + 1))] 0).length = (pageAt R (pageOf R s - 1)).length + ((pageAt R (pageOf R s)).length - 1) := by
            show (pageAt R (pageOf R s - 1) ++ ((pageAt R (pageOf R s)).take (entOf R s) ++ (pageAt R (pageOf R s)).drop (entOf R s + 1))).length = _
            rw [List.length_append, hlen]
          rw [this]
          exact owns_base (owns_below (owns_below hown4 hb7) hb) fun k _ => Nat.zero_le _
        · rcases List.mem_append.1 he with h | h
          · exact Hpq.out.one e h
          · exact cut_one Hpi.out.one e h
      · intro q hq k hk
        obtain rfl : q = 0 := by simpa using hq
        have hk : (Value.slice a5 ((pageAt R (pageOf R s - 1)).length + ((pageAt R (pageOf R s)).length - 1)) cap6).ownBlock = some k := hk
        have h1 := hown4.lt k hk
        refine ⟨Nat.le_trans hB2.size h1.1, fun e => ?_⟩
        have h2 := (Hown.out.lt k e).1
        simp at h2
        omega
  · have k2 : ¬ (pageOf R s : Int) + 1 < (R.length : Int) := by omega
    by_cases hci : cap2 = entOf R s + 1
    · have Hoff := Lib.hid (show ∀ W, Below w.heap.size w W → ∀ (j : Nat) (u : Value), (cellsOf ((pageAt R (pageOf R s)).drop (entOf R s + 1)))[j]? = some u → W.cell? ((⟨g2, 0, none⟩ : Addr).add j) = some u from fun W _ j u hj => by
        rw [List.drop_eq_nil_of_le (by omega)] at hj
        cases hj)
      have hci2 : (cap2 : Int) - ((entOf R s : Int) + 1) = 0 := by omega
      go_wp2_with (at_builtin; first | (refine wpList_append_own _ rfl _ _ 34 rfl w1.heap.size 60 i0 (.agg #[.int .u64 0, .int .u64 0, .int .u64 0]) 3 24 und_page hi hz0 hz1 hz2 rfl (by decide) _ _ _ rfl Hown0.out ⟨g2, 0, none⟩ _ _ (cellsOf ((pageAt R (pageOf R s)).take (entOf R s))) rfl Hlen1.out Hsrc.out Hone1.out q1 q2 q3 ?_; intro v' w2 hown' hgrow hnil; clear hnil; rw [Nat.zero_add] at hown'; have Hb2 := Lib.hid ((Below.refl _ _).grown hgrow q3 (fun k hk => by cases hk)); clear hgrow q1 q2 q3 Hsrc Hone1 Hlen1 Hown0; obtain ⟨a2, cap3, rfl, hx1, hx2⟩ := owns_shape hown'; have o0 := below_cell Hb2.out n0; have o1 := below_cell Hb2.out n1; have orp := below_cell Hb2.out nrp; have Hown2 := Lib.hid hown'; clear hown'; have Hsrc3 := Lib.hid (fun j u hj => Hoff.out w2 (hB2.trans (Hb2.out.mono hB2.size)) j u hj); have Hone3 := Lib.hid (cellsOf_one (p := (pageAt R (pageOf R s)).drop (entOf R s + 1)) fun e he => Hpi.out.one e (List.mem_of_mem_drop he)); have Hlen3 := Lib.hid (show (cellsOf ((pageAt R (pageOf R s)).drop (entOf R s + 1))).length = ((pageAt R (pageOf R s)).length - (entOf R s + 1)) * 3 by rw [length_cellsOf, List.length_drop]); have q1 : entOf R s + ((pageAt R (pageOf R s)).length - (entOf R s + 1)) ≤ maxLen := (by unfold maxLen; omega); have q2 : (entOf R s + ((pageAt R (pageOf R s)).length - (entOf R s + 1))) * 24 ≤ 140737488355328 := (by omega); have q3 : w1.heap.size ≤ w2.heap.size := Hb2.out.size) | (refine wpList_append_own _ rfl _ _ 34 rfl w1.heap.size 60 i0 (.agg #[.int .u64 0, .int .u64 0, .int .u64 0]) 3 24 und_page hi hz0 hz1 hz2 rfl (by decide) _ _ _ rfl Hown2.out ⟨g2, 0, none⟩ _ _ (cellsOf ((pageAt R (pageOf R s)).drop (entOf R s + 1))) rfl Hlen3.out Hsrc3.out Hone3.out q1 q2 q3 ?_; intro v' w3 hown' hgrow hnil; clear hnil; have Hb3 := Lib.hid (Hb2.out.grown hgrow q3 (fun k hk => (Hown2.out.lt k hk).1)); clear hgrow q1 q2 q3 Hsrc3 Hone3 Hlen3 Hown2; clear o0 o1 orp; rw [hn4] at hown'; obtain ⟨a3, cap4, rfl, hx3, hx4⟩ := owns_shape hown'; have o0 := below_cell Hb3.out n0; have o1 := below_cell Hb3.out n1; have orp := below_cell Hb3.out nrp; have Hown3 := Lib.hid hown'; clear hown'; have hB5 := hB2.trans (Hb3.out.mono hB2.size); (have orq := below_cell hB5 hrq; have hbz : bx < w3.heap.size := (by have := hB5.size; omega); have hgz : g < w3.heap.size := (by have := hB5.size; omega); have hown3 := Hown3.out; rw [cut_cells] at hown3; clear Hown3; have Hown3 := Lib.hid hown3; clear hown3; have hp3 := owns_parts Hown3.out (by omega); obtain ⟨g3, c3, e3', -, hg3, hc3, -⟩ := hp3; injection e3' with e3' _ e5; subst e3' e5; have q1 : 0 + (pageAt R (pageOf R s - 1)).length ≤ maxLen := (by unfold maxLen; omega); have q2 : (0 + (pageAt R (pageOf R s - 1)).length) * 24 ≤ 140737488355328 := (by omega); have q3 : w1.heap.size ≤ (w3.alloc (.cells #[] 60)).heap.size := (by have := Hb3.out.size; simp; omega); have Hown5 := Lib.hid (owns_of_row (base := w1.heap.size) (size := 3) (n := 0) (cap := 0) (xs := []) (row_new w3 [] 60) rfl (Nat.le_refl _) (by decide) rfl Hb3.out.size); have Hsrcq := Lib.hid (owns_src (owns_below Hpq.out.row (hB5.trans ((below_box w3 (.cells #[] 60)).mono hB5.size)))); have Honeq := Lib.hid (cellsOf_one Hpq.out.one))) | first | (refine wpList_append_own _ rfl _ _ 34 rfl w1.heap.size 60 i0 (.agg #[.int .u64 0, .int .u64 0, .int .u64 0]) 3 24 und_page hi hz0 hz1 hz2 rfl (by decide) _ _ _ rfl Hown5.out ⟨gq, 0, none⟩ _ _ (cellsOf (pageAt R (pageOf R s - 1))) rfl (length_cellsOf _) Hsrcq.out Honeq.out q1 q2 q3 ?_; intro v' w4 hown' hgrow hnil; clear hnil; rw [Nat.zero_add] at hown'; have hb3 := Hb3.out.trans ((below_box w3 (.cells #[] 60)).mono Hb3.out.size); have Hb4 := Lib.hid (hb3.grown hgrow q3 (fun k hk => (Hown5.out.lt k hk).1)); have Hg4 := Lib.hid ((below_box w3 (.cells #[] 60)).grown hgrow (below_box w3 (.cells #[] 60)).size (fun k hk => by have hk : w3.heap.size = k := Option.some.inj hk; omega)); clear hgrow q1 q2 q3 Hsrcq Honeq Hown5 hb3; clear o0 o1 orp orq; obtain ⟨a4, cap5, rfl, hx5, hx6⟩ := owns_shape hown'; have o1 := below_cell Hb4.out n1; have Hown4 := Lib.hid hown'; clear hown'; have hB6 := hB2.trans (Hb4.out.mono hB2.size); have Hown3' := Lib.hid (owns_below Hown3.out Hg4.out); have Hsrc5 := Lib.hid (owns_src Hown3'.out); have q1 : (pageAt R (pageOf R s - 1)).length + ((pageAt R (pageOf R s)).length - 1) ≤ maxLen := (by unfold maxLen; omega); have q2 : ((pageAt R (pageOf R s - 1)).length + ((pageAt R (pageOf R s)).length - 1)) * 24 ≤ 140737488355328 := (by omega); have q3 : w1.heap.size ≤ w4.heap.size := Hb4.out.size) | (go_loud (refine wpList_append_own _ rfl _ _ 34 rfl w1.heap.size 60 i0 (.agg #[.int .u64 0, .int .u64 0, .int .u64 0]) 3 24 und_page hi hz0 hz1 hz2 rfl (by decide) _ _ _ rfl Hown4.out ⟨g3, 0, none⟩ _ _ _ rfl Hlen5.out Hsrc5.out Hone5.out q1 q2 q3 ?_; intro v' w5 hown' hgrow hnil; clear hnil; have Hb5 := Lib.hid (Hb4.out.grown hgrow q3 (fun k hk => (Hown4.out.lt k hk).1)); clear hgrow q1 q2 q3 Hsrc5 Hone5 Hlen5; clear o1; obtain ⟨a5, cap6, rfl, hx7, hx8⟩ := owns_shape hown'; have o1 := below_cell Hb5.out n1; have Hown6 := Lib.hid hown'; clear hown'; have hB8 := hB2.trans (Hb5.out.mono hB2.size))))
      have hz : (pageOf R s : Int) - 1 = ((pageOf R s - 1 : Nat) : Int) := by omega
      rw [hz]
      have hb7 := below_box w5 (.cells #[.slice a5 ((pageAt R (pageOf R s - 1)).length + ((pageAt R (pageOf R s)).length - 1)) cap6] 34)
      have hB7 := hB8.trans (hb7.mono hB8.size)
      refine (Hrow.out _ [.slice a5 ((pageAt R (pageOf R s - 1)).length + ((pageAt R (pageOf R s)).length - 1)) cap6] (pageOf R s - 1) (pageOf R s + 1) (by omega) (by omega) (by simp only [List.length_cons, List.length_nil]; omega) (fun u hu => by obtain rfl := List.mem_singleton.1 hu; rfl) _ hB7 (slice_news _ _ _)).mono ?_
      rintro e w6 ⟨v, rfl, hown, hb⟩
      have en : R.length - (pageOf R s + 1 - (pageOf R s - 1)) + [Value.slice a5 ((pageAt R (pageOf R s - 1)).length + ((pageAt R (pageOf R s)).length - 1)) cap6].length = R.length - 1 := by simp only [List.length_cons, List.length_nil]; omega
      rw [en] at hown
      obtain ⟨av, cv, rfl, -⟩ := owns_shape hown
      have hBx := hB7.trans (hb.mono hB7.size)
      have k2 := below_cell (hb7.trans (hb.mono hb7.size)) o1
      have k3 := (HM.out.1.below hBx).frozen 1
      have Hown := Lib.hid hown; clear hown
      go_wp2_with fail
      go_ret2
      have hlen := cut_len (pageAt R (pageOf R s)) hen
      have hrem : removeR size R s = R.take (pageOf R s - 1) ++ ([pageAt R (pageOf R s - 1) ++ ((pageAt R (pageOf R s)).take (entOf R s) ++ (pageAt R (pageOf R s)).drop (entOf R s + 1))] ++ R.drop (pageOf R s + 1)) := by
        unfold removeR
        rw [if_pos ht]
        simp only [hlen]
        rw [if_neg (by omega), if_neg (by rintro ⟨h, h'⟩; have := f1 h; omega), if_pos ⟨f0, f2⟩]
        rfl
      have hown4 := Hown6.out
      rw [List.nil_append, ← cellsOf_append] at hown4
      have hend := HM.out.1.rows_end (ms := [pageAt R (pageOf R s - 1) ++ ((pageAt R (pageOf R s)).take (entOf R s) ++ (pageAt R (pageOf R s)).drop (entOf R s + 1))]) (vs := [.slice a5 ((pageAt R (pageOf R s - 1)).length + ((pageAt R (pageOf R s)).length - 1)) cap6]) (vr' := .slice av (R.length - 1) cv) (i := pageOf R s - 1) (j := pageOf R s + 1) (n' := R.length - 1) hBx (by omega) (by omega) rfl (by simp only [List.length_cons, List.length_nil]; omega)
        (owns_base Hown.out fun k hk => Nat.le_trans hB7.size (Hown.out.lt k hk).1) ?_ ?_
      · rw [hrem]
        exact ⟨rfl, _, _, hend.1, hend.2⟩
      · intro q hq
        obtain rfl : q = 0 := by simpa using hq
        refine ⟨?_, fun e he => ?_⟩
        · have : (pageAt [pageAt R (pageOf R s - 1) ++ ((pageAt R (pageOf R s)).take (entOf R s) ++ (pageAt R (pageOf R s)).drop (entOf R s + 1))] 0).length = (pageAt R (pageOf R s - 1)).length + ((pageAt R (pageOf R s)).length - 1) := by
            show (pageAt R (pageOf R s - 1) ++ ((pageAt R (pageOf R s)).take (entOf R s) ++ (pageAt R (pageOf R s)).drop (entOf R s + 1))).length = _
            rw [List.length_append, hlen]
          rw [this]
          exact owns_base (owns_below (owns_below hown4 hb7) hb) fun k _ => Nat.zero_le _
        · rcases List.mem_append.1 he with h | h
          · exact Hpq.out.one e h
          · exact cut_one Hpi.out.one e h
      · intro q hq k hk
        obtain rfl : q = 0 := by simpa using hq
        have hk : (Value.slice a5 ((pageAt R (pageOf R s - 1)).length + ((pageAt R (pageOf R s)).length - 1)) cap6).ownBlock = some k := hk
        have h1 := hown4.lt k hk
        refine ⟨Nat.le_trans hB2.size h1.1, fun e => ?_⟩
        have h2 := (Hown.out.lt k e).1
        simp at h2
        omega
    · have Hoff := Lib.hid (fun W hW => src_drop (i := entOf R s + 1) Hpi.out (w' := W) hW)
      go_wp2_with (at_builtin; first | (refine wpList_append_own _ rfl _ _ 34 rfl w1.heap.size 60 i0 (.agg #[.int .u64 0, .int .u64 0, .int .u64 0]) 3 24 und_page hi hz0 hz1 hz2 rfl (by decide) _ _ _ rfl Hown0.out ⟨g2, 0, none⟩ _ _ (cellsOf ((pageAt R (pageOf R s)).take (entOf R s))) rfl Hlen1.out Hsrc.out Hone1.out q1 q2 q3 ?_; intro v' w2 hown' hgrow hnil; clear hnil; rw [Nat.zero_add] at hown'; have Hb2 := Lib.hid ((Below.refl _ _).grown hgrow q3 (fun k hk => by cases hk)); clear hgrow q1 q2 q3 Hsrc Hone1 Hlen1 Hown0; obtain ⟨a2, cap3, rfl, hx1, hx2⟩ := owns_shape hown'; have o0 := below_cell Hb2.out n0; have o1 := below_cell Hb2.out n1; have orp := below_cell Hb2.out nrp; have Hown2 := Lib.hid hown'; clear hown'; have Hsrc3 := Lib.hid (fun j u hj => Hoff.out w2 (hB2.trans (Hb2.out.mono hB2.size)) j u hj); have Hone3 := Lib.hid (cellsOf_one (p := (pageAt R (pageOf R s)).drop (entOf R s + 1)) fun e he => Hpi.out.one e (List.mem_of_mem_drop he)); have Hlen3 := Lib.hid (show (cellsOf ((pageAt R (pageOf R s)).drop (entOf R s + 1))).length = ((pageAt R (pageOf R s)).length - (entOf R s + 1)) * 3 by rw [length_cellsOf, List.length_drop]); have q1 : entOf R s + ((pageAt R (pageOf R s)).length - (entOf R s + 1)) ≤ maxLen := (by unfold maxLen; omega); have q2 : (entOf R s + ((pageAt R (pageOf R s)).length - (entOf R s + 1))) * 24 ≤ 140737488355328 := (by omega); have q3 : w1.heap.size ≤ w2.heap.size := Hb2.out.size) | (refine wpList_append_own _ rfl _ _ 34 rfl w1.heap.size 60 i0 (.agg #[.int .u64 0, .int .u64 0, .int .u64 0]) 3 24 und_page hi hz0 hz1 hz2 rfl (by decide) _ _ _ rfl Hown2.out ⟨g2, (entOf R s + 1) * 3, none⟩ _ _ (cellsOf ((pageAt R (pageOf R s)).drop (entOf R s + 1))) rfl Hlen3.out Hsrc3.out Hone3.out q1 q2 q3 ?_; intro v' w3 hown' hgrow hnil; clear hnil; have Hb3 := Lib.hid (Hb2.out.grown hgrow q3 (fun k hk => (Hown2.out.lt k hk).1)); clear hgrow q1 q2 q3 Hsrc3 Hone3 Hlen3 Hown2; clear o0 o1 orp; rw [hn4] at hown'; obtain ⟨a3, cap4, rfl, hx3, hx4⟩ := owns_shape hown'; have o0 := below_cell Hb3.out n0; have o1 := below_cell Hb3.out n1; have orp := below_cell Hb3.out nrp; have Hown3 := Lib.hid hown'; clear hown'; have hB5 := hB2.trans (Hb3.out.mono hB2.size); (have orq := below_cell hB5 hrq; have hbz : bx < w3.heap.size := (by have := hB5.size; omega); have hgz : g < w3.heap.size := (by have := hB5.size; omega); have hown3 := Hown3.out; rw [cut_cells] at hown3; clear Hown3; have Hown3 := Lib.hid hown3; clear hown3; have hp3 := owns_parts Hown3.out (by omega); obtain ⟨g3, c3, e3', -, hg3, hc3, -⟩ := hp3; injection e3' with e3' _ e5; subst e3' e5; have q1 : 0 + (pageAt R (pageOf R s - 1)).length ≤ maxLen := (by unfold maxLen; omega); have q2 : (0 + (pageAt R (pageOf R s - 1)).length) * 24 ≤ 140737488355328 := (by omega); have q3 : w1.heap.size ≤ (w3.alloc (.cells #[] 60)).heap.size := (by have := Hb3.out.size; simp; omega); have Hown5 := Lib.hid (owns_of_row (base := w1.heap.size) (size := 3) (n := 0) (cap := 0) (xs := []) (row_new w3 [] 60) rfl (Nat.le_refl _) (by decide) rfl Hb3.out.size); have Hsrcq := Lib.hid (owns_src (owns_below Hpq.out.row (hB5.trans ((below_box w3 (.cells #[] 60)).mono hB5.size)))); have Honeq := Lib.hid (cellsOf_one Hpq.out.one))) | first | (refine wpList_append_own _ rfl _ _ 34 rfl w1.heap.size 60 i0 (.agg #[.int .u64 0, .int .u64 0, .int .u64 0]) 3 24 und_page hi hz0 hz1 hz2 rfl (by decide) _ _ _ rfl Hown5.out ⟨gq, 0, none⟩ _ _ (cellsOf (pageAt R (pageOf R s - 1))) rfl (length_cellsOf _) Hsrcq.out Honeq.out q1 q2 q3 ?_; intro v' w4 hown' hgrow hnil; clear hnil; rw [Nat.zero_add] at hown'; have hb3 := Hb3.out.trans ((below_box w3 (.cells #[] 60)).mono Hb3.out.size); have Hb4 := Lib.hid (hb3.grown hgrow q3 (fun k hk => (Hown5.out.lt k hk).1)); have Hg4 := Lib.hid ((below_box w3 (.cells #[] 60)).grown hgrow (below_box w3 (.cells #[] 60)).size (fun k hk => by have hk : w3.heap.size = k := Option.some.inj hk; omega)); clear hgrow q1 q2 q3 Hsrcq Honeq Hown5 hb3; clear o0 o1 orp orq; obtain ⟨a4, cap5, rfl, hx5, hx6⟩ := owns_shape hown'; have o1 := below_cell Hb4.out n1; have Hown4 := Lib.hid hown'; clear hown'; have hB6 := hB2.trans (Hb4.out.mono hB2.size); have Hown3' := Lib.hid (owns_below Hown3.out Hg4.out); have Hsrc5 := Lib.hid (owns_src Hown3'.out); have q1 : (pageAt R (pageOf R s - 1)).length + ((pageAt R (pageOf R s)).length - 1) ≤ maxLen := (by unfold maxLen; omega); have q2 : ((pageAt R (pageOf R s - 1)).length + ((pageAt R (pageOf R s)).length - 1)) * 24 ≤ 140737488355328 := (by omega); have q3 : w1.heap.size ≤ w4.heap.size := Hb4.out.size) | (go_loud (refine wpList_append_own _ rfl _ _ 34 rfl w1.heap.size 60 i0 (.agg #[.int .u64 0, .int .u64 0, .int .u64 0]) 3 24 und_page hi hz0 hz1 hz2 rfl (by decide) _ _ _ rfl Hown4.out ⟨g3, 0, none⟩ _ _ _ rfl Hlen5.out Hsrc5.out Hone5.out q1 q2 q3 ?_; intro v' w5 hown' hgrow hnil; clear hnil; have Hb5 := Lib.hid (Hb4.out.grown hgrow q3 (fun k hk => (Hown4.out.lt k hk).1)); clear hgrow q1 q2 q3 Hsrc5 Hone5 Hlen5; clear o1; obtain ⟨a5, cap6, rfl, hx7, hx8⟩ := owns_shape hown'; have o1 := below_cell Hb5.out n1; have Hown6 := Lib.hid hown'; clear hown'; have hB8 := hB2.trans (Hb5.out.mono hB2.size))))
      have hz : (pageOf R s : Int) - 1 = ((pageOf R s - 1 : Nat) : Int) := by omega
      rw [hz]
      have hb7 := below_box w5 (.cells #[.slice a5 ((pageAt R (pageOf R s - 1)).length + ((pageAt R (pageOf R s)).length - 1)) cap6] 34)
      have hB7 := hB8.trans (hb7.mono hB8.size)
      refine (Hrow.out _ [.slice a5 ((pageAt R (pageOf R s - 1)).length + ((pageAt R (pageOf R s)).length - 1)) cap6] (pageOf R s - 1) (pageOf R s + 1) (by omega) (by omega) (by simp only [List.length_cons, List.length_nil]; omega) (fun u hu => by obtain rfl := List.mem_singleton.1 hu; rfl) _ hB7 (slice_news _ _ _)).mono ?_
      rintro e w6 ⟨v, rfl, hown, hb⟩
      have en : R.length - (pageOf R s + 1 - (pageOf R s - 1)) + [Value.slice a5 ((pageAt R (pageOf R s - 1)).length + ((pageAt R (pageOf R s)).length - 1)) cap6].length = R.length - 1 := by simp only [List.length_cons, List.length_nil]; omega
      rw [en] at hown
      obtain ⟨av, cv, rfl, -⟩ := owns_shape hown
      have hBx := hB7.trans (hb.mono hB7.size)
      have k2 := below_cell (hb7.trans (hb.mono hb7.size)) o1
      have k3 := (HM.out.1.below hBx).frozen 1
      have Hown := Lib.hid hown; clear hown
      go_wp2_with fail
      go_ret2
      have hlen := cut_len (pageAt R (pageOf R s)) hen
      have hrem : removeR size R s = R.take (pageOf R s - 1) ++ ([pageAt R (pageOf R s - 1) ++ ((pageAt R (pageOf R s)).take (entOf R s) ++ (pageAt R (pageOf R s)).drop (entOf R s + 1))] ++ R.drop (pageOf R s + 1)) := by
        unfold removeR
        rw [if_pos ht]
        simp only [hlen]
        rw [if_neg (by omega), if_neg (by rintro ⟨h, h'⟩; have := f1 h; omega), if_pos ⟨f0, f2⟩]
        rfl
      have hown4 := Hown6.out
      rw [List.nil_append, ← cellsOf_append] at hown4
      have hend := HM.out.1.rows_end (ms := [pageAt R (pageOf R s - 1) ++ ((pageAt R (pageOf R s)).take (entOf R s) ++ (pageAt R (pageOf R s)).drop (entOf R s + 1))]) (vs := [.slice a5 ((pageAt R (pageOf R s - 1)).length + ((pageAt R (pageOf R s)).length - 1)) cap6]) (vr' := .slice av (R.length - 1) cv) (i := pageOf R s - 1) (j := pageOf R s + 1) (n' := R.length - 1) hBx (by omega) (by omega) rfl (by simp only [List.length_cons, List.length_nil]; omega)
        (owns_base Hown.out fun k hk => Nat.le_trans hB7.size (Hown.out.lt k hk).1) ?_ ?_
      · rw [hrem]
        exact ⟨rfl, _, _, hend.1, hend.2⟩
      · intro q hq
        obtain rfl : q = 0 := by simpa using hq
        refine ⟨?_, fun e he => ?_⟩
        · have : (pageAt [pageAt R (pageOf R s - 1) ++ ((pageAt R (pageOf R s)).take (entOf R s) ++ (pageAt R (pageOf R s)).drop (entOf R s + 1))] 0).length = (pageAt R (pageOf R s - 1)).length + ((pageAt R (pageOf R s)).length - 1) := by
            show (pageAt R (pageOf R s - 1) ++ ((pageAt R (pageOf R s)).take (entOf R s) ++ (pageAt R (pageOf R s)).drop (entOf R s + 1))).length = _
            rw [List.length_append, hlen]
          rw [this]
          exact owns_base (owns_below (owns_below hown4 hb7) hb) fun k _ => Nat.zero_le _
        · rcases List.mem_append.1 he with h | h
          · exact Hpq.out.one e h
          · exact cut_one Hpi.out.one e h
      · intro q hq k hk
        obtain rfl : q = 0 := by simpa using hq
        have hk : (Value.slice a5 ((pageAt R (pageOf R s - 1)).length + ((pageAt R (pageOf R s)).length - 1)) cap6).ownBlock = some k := hk
        have h1 := hown4.lt k hk
        refine ⟨Nat.le_trans hB2.size h1.1, fun e => ?_⟩
        have h2 := (Hown.out.lt k e).1
        simp at h2
        omega
end Go.Proofs.Ytagcohpghgnalaa.RF
namespace Go.Proofs.Ytagcohpghgnalaa.RF
open Go.RowKit Go.RG Go.Hp Go.Pg Go.Proofs.Ytagcohpghgnalaa


set_option maxRecDepth 100000 in
theorem rem_rnil (s : St) (w : World) : Calls Try.prog 85 #[.pointer none, s.v] w fun e w' => e = .returned (.tuple #[.int .u64 0, .bool false]) ∧ Below w.heap.size w w' := by
  have hB0 := below_box w (.cells #[.int .u64 s.t, .int .u64 s.s] 38)
  have HP := Lib.hid (place_rnil s)
  unfold St.v at HP ⊢
  go_enter Try.func85, Try.ntmps85
  go_wp2_with fail
  refine (HP.out _).mono ?_
  rintro e w1 ⟨rfl, hB⟩
  go_wp2_with fail
  go_ret2
  exact ⟨rfl, hB0.trans (hB.mono hB0.size)⟩

set_option maxRecDepth 100000 in
theorem rem_rnot (s : St) (bx : Nat) (size : Int) (R : List (List Ent)) (hm : R.length ≤ 274877906942) (hO : Ordered R) (hl : ∀ i, i < R.length → (pageAt R i).length ≤ 64) (ht : (decide (0 < R.length) && there R s) = false)
    (S : Nat → Prop) (vr : Value) (pvs : List Value) (w : World) (hM : RMemV w bx size R S vr pvs) :
    Calls Try.prog 85 #[.pointer (some ⟨bx, 0, none⟩), s.v] w fun e w' => e = .returned (.tuple #[.int .u64 0, .bool false]) ∧ Below w.heap.size w w' := by
  have hB0 := below_box w (.cells #[.int .u64 s.t, .int .u64 s.s] 38)
  have HP : ∀ W, Below w.heap.size w W → Calls Try.prog 88 #[.pointer (some ⟨bx, 0, none⟩), s.v] W fun e w' => (∃ p q, e = .returned (.tuple #[.int .i64 p, .int .i64 q, .bool false])) ∧ Below W.heap.size W w' := fun W hW => by
    rcases Nat.eq_zero_or_pos R.length with h0 | h0
    · obtain rfl := List.eq_nil_of_length_eq_zero h0
      exact (place_rnone s bx size S vr pvs W (hM.below hW)).mono fun e w' h => ⟨⟨_, _, h.1⟩, h.2⟩
    · rw [decide_eq_true h0, Bool.true_and] at ht
      have := place_rsome s bx size R h0 (by omega) hO (fun i hi => by have := hl i hi; omega) S vr pvs W (hM.below hW)
      rw [ht] at this
      exact this.mono fun e w' h => ⟨⟨_, _, h.1⟩, h.2⟩
  have HP := Lib.hid HP
  unfold St.v at HP ⊢
  go_enter Try.func85, Try.ntmps85
  go_wp2_with fail
  refine (HP.out _ hB0).mono ?_
  rintro e w1 ⟨⟨p, q, rfl⟩, hB⟩
  go_wp2_with fail
  go_ret2
  exact ⟨rfl, hB0.trans (hB.mono hB0.size)⟩

theorem rem_ref (s : St) (bx size : Nat) (h64 : size ≤ 64) (R : List (List Ent)) (hm : R.length ≤ 274877906942) (hO : Ordered R) (hl : ∀ i, i < R.length → (pageAt R i).length ≤ 64) (hN : ∀ e ∈ R.flatten, U.NumV e.v)
    (hR : 0 < R.length) (ht : there R s = true)
    (S : Nat → Prop) (vr : Value) (pvs : List Value) (w : World) (hM : RMemV w bx size R S vr pvs) :
    Calls Try.prog 85 #[.pointer (some ⟨bx, 0, none⟩), s.v] w (RRemPost w bx size (removeR size R s) S (ent (pageAt R (pageOf R s)) (entOf R s)).v) := by
  have hf := hO.full _ (pageOf_lt (s := s) hR)
  by_cases h1 : (pageAt R (pageOf R s)).length = 1
  · exact rem_rgone s bx size h64 R hR hm hO hl hN ht h1 S vr pvs w hM
  · by_cases f1 : pageOf R s + 1 < R.length ∧ (pageAt R (pageOf R s + 1)).length + ((pageAt R (pageOf R s)).length - 1) ≤ size / 2
    · exact rem_rnext s bx size h64 R hR hm hO hl hN ht (by omega) f1.1 f1.2 S vr pvs w hM
    · have f1' : pageOf R s + 1 < R.length → size / 2 < (pageAt R (pageOf R s + 1)).length + ((pageAt R (pageOf R s)).length - 1) := fun h => Nat.lt_of_not_le fun h' => f1 ⟨h, h'⟩
      by_cases f2 : 0 < pageOf R s ∧ (pageAt R (pageOf R s - 1)).length + ((pageAt R (pageOf R s)).length - 1) ≤ size / 2
      · exact rem_rprev s bx size h64 R hR hm hO hl hN ht (by omega) f1' f2.1 f2.2 S vr pvs w hM
      · exact rem_rkeep s bx size h64 R hR hm hO hl hN ht (by omega) f1' (fun h => Nat.lt_of_not_le fun h' => f2 ⟨h, h'⟩) S vr pvs w hM
end Go.Proofs.Ytagcohpghgnalaa.RF
