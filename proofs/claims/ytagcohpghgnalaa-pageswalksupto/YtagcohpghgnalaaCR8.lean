/-
  The document's index: Put in all cases; Remove, where the page goes or stays.
-/
import Derived.Test.YtagcohpghgnalaaCR7
set_option linter.unusedSimpArgs false
set_option linter.unusedVariables false
namespace Go.Proofs.Ytagcohpghgnalaa.RF
open Go.RowKit Go.RG Go.Hp Go.Pg Go.Proofs.Ytagcohpghgnalaa



theorem put_ref (s : St) (x : Int) (bx size : Nat) (h4 : 4 ≤ size) (h64 : size ≤ 64) (R : List (List Ent)) (hm : R.length ≤ 274877906942) (hO : Ordered R)
    (hl : ∀ i, i < R.length → (pageAt R i).length ≤ size) (S : Nat → Prop) (vr : Value) (pvs : List Value) (w : World) (hM : RMemV w bx size R S vr pvs) :
    Calls Try.prog 84 #[.pointer (some ⟨bx, 0, none⟩), s.v, .int .u64 x] w (RPutPost w bx size (putR size R s (.int .u64 x)) S (!(decide (0 < R.length) && there R s))) := by
  rcases Nat.eq_zero_or_pos R.length with h0 | h0
  · obtain rfl := List.eq_nil_of_length_eq_zero h0
    exact put_rnone s x bx size S vr pvs w hM
  · rw [decide_eq_true h0]
    have hp := hl _ (pageOf_lt (s := s) h0)
    have hl' : ∀ i, i < R.length → (pageAt R i).length ≤ 64 := fun i hi => Nat.le_trans (hl i hi) h64
    cases ht : there R s
    · rcases Nat.lt_or_ge size ((pageAt R (pageOf R s)).length + 1) with h | h
      · exact put_rsplit s x bx size h4 R h0 hm hO hl' ht hp h S vr pvs w hM
      · exact put_rfits s x bx size R h0 (by omega) hO hl' ht h S vr pvs w hM
    · exact put_rthere s x bx size R h0 (by omega) hO (fun i hi => by have := hl' i hi; omega) ht S vr pvs w hM

/-- what a Remove of an entry that is there leaves -/
def RRemPost (w : World) (bx size : Nat) (R' : List (List Ent)) (S : Nat → Prop) (v : Value) (e : Ending) (w' : World) : Prop :=
  e = .returned (.tuple #[v, .bool true]) ∧ ∃ vr' pvs', RMemV w' bx size R' (fun k => S k ∨ w.heap.size ≤ k) vr' pvs' ∧ Ext S w w'

theorem cut_cells (p : List Ent) (i : Nat) : [] ++ cellsOf (p.take i) ++ cellsOf (p.drop (i + 1)) = cellsOf (p.take i ++ p.drop (i + 1)) := by
  rw [cellsOf_append]; simp
theorem cut_len (p : List Ent) {i : Nat} (h : i < p.length) : (p.take i ++ p.drop (i + 1)).length = p.length - 1 := by
  simp only [List.length_append, List.length_take, List.length_drop]; omega
theorem cut_one {p : List Ent} {i : Nat} (h : ∀ e ∈ p, e.v.oneCell' = true) : ∀ d ∈ p.take i ++ p.drop (i + 1), d.v.oneCell' = true := fun d hd => by
  rcases List.mem_append.1 hd with h1 | h1
  · exact h d (List.mem_of_mem_take h1)
  · exact h d (List.mem_of_mem_drop h1)

set_option maxHeartbeats 2000000 in
set_option maxRecDepth 100000 in
theorem rem_rkeep (s : St) (bx size : Nat) (h64 : size ≤ 64) (R : List (List Ent)) (hR : 0 < R.length) (hm : R.length ≤ 274877906942) (hO : Ordered R) (hl : ∀ i, i < R.length → (pageAt R i).length ≤ 64) (hN : ∀ e ∈ R.flatten, U.NumV e.v)
    (ht : there R s = true) (h1 : 1 < (pageAt R (pageOf R s)).length) (f1 : pageOf R s + 1 < R.length → size / 2 < (pageAt R (pageOf R s + 1)).length + ((pageAt R (pageOf R s)).length - 1))
    (f2 : 0 < pageOf R s → size / 2 < (pageAt R (pageOf R s - 1)).length + ((pageAt R (pageOf R s)).length - 1))
    (S : Nat → Prop) (vr : Value) (pvs : List Value) (w : World) (hM : RMemV w bx size R S vr pvs) :
    Calls Try.prog 85 #[.pointer (some ⟨bx, 0, none⟩), s.v] w (RRemPost w bx size (removeR size R s) S (ent (pageAt R (pageOf R s)) (entOf R s)).v) := by
  have hB0 := below_box w (.cells #[.int .u64 s.t, .int .u64 s.s] 38)
  have HP := Lib.hid (place_rsome s bx size R hR (by omega) hO (fun i hi => by have := hl i hi; omega) S vr pvs _ (hM.below hB0))
  have hpl := pageOf_lt (s := s) hR
  have hlp := hl _ hpl
  have hf0 := hO.full _ hpl
  obtain ⟨m0, m1⟩ := hM.cells
  obtain ⟨g, cap, rfl, hg, hc, hcm, hrow, hfr⟩ := hM.row hR
  obtain ⟨g2, cap2, hv2, hg2, hc2, hcm2, hpage, hone, -⟩ := (hM.pages _ hpl).parts hf0
  have hen : entOf R s < (pageAt R (pageOf R s)).length := by
    have ht := ht
    unfold there at ht
    have := (isIn_iff.1 ht).1
    rwa [length_keys] at this
  obtain ⟨-, -, z2⟩ := hpage _ hen
  obtain ⟨num, hnum⟩ := ent_num hN hpl hen
  have hrp := hrow _ hpl
  rw [hv2] at hrp
  rw [hnum] at z2 ⊢
  have hbx := block_lt_of_heap hM.str
  have hpi := hM.pages _ hpl
  rw [hv2] at hpi
  have Hpi := Lib.hid hpi; clear hpi
  have HM := Lib.hid (And.intro hM (And.intro hO (And.intro hv2 hnum))); clear hM hO
  rw [ht] at HP
  have e1 : (pageOf R s : Int) < (R.length : Int) := by omega
  have e2 : (entOf R s : Int) < ((pageAt R (pageOf R s)).length : Int) := by omega
  have e3 : (entOf R s : Int) ≤ ((pageAt R (pageOf R s)).length : Int) := by omega
  have e4 : (entOf R s : Int) + 1 ≤ ((pageAt R (pageOf R s)).length : Int) := by omega
  have hfr := hfr (pageOf R s)
  clear hpage hone hv2 hnum hN
  have Hrow0 := Lib.hid hrow; clear hrow
  obtain ⟨i0, hi, hz0, hz1, hz2⟩ := info_parts BK.info_Entry
  unfold St.v at HP ⊢
  go_enter Try.func85, Try.ntmps85
  go_wp2_with fail
  generalize w.alloc (.cells #[.int .u64 s.t, .int .u64 s.s] 38) = w0 at hB0 HP ⊢
  refine HP.out.mono ?_
  rintro e w1 ⟨rfl, hB⟩
  have hB2 := hB0.trans (hB.mono hB0.size)
  clear hB0 hB HP
  have n0 := below_cell hB2 m0
  have n1 := below_cell hB2 m1
  have nrp := below_cell hB2 hrp
  have nz2 := below_cell hB2 z2
  clear m0 m1 z2
  have hel : entOf R s ≤ (pageAt R (pageOf R s)).length := by omega
  have hn4 : entOf R s + ((pageAt R (pageOf R s)).length - (entOf R s + 1)) = (pageAt R (pageOf R s)).length - 1 := by omega
  have Hown0 := Lib.hid (World.ownsRow_nil w1 w1.heap.size 60 3)
  have q1 : 0 + entOf R s ≤ maxLen := by unfold maxLen; omega
  have q2 : (0 + entOf R s) * 24 ≤ 140737488355328 := by omega
  have q3 := Nat.le_refl w1.heap.size
  have Hsrc := Lib.hid (fun j u hj => (src_take Hpi.out hB2 hel j u hj))
  have Hone1 := Lib.hid (cellsOf_one (p := (pageAt R (pageOf R s)).take (entOf R s)) fun e he => Hpi.out.one e (List.mem_of_mem_take he))
  have Hlen1 := Lib.hid (show (cellsOf ((pageAt R (pageOf R s)).take (entOf R s))).length = entOf R s * 3 by rw [length_cellsOf, List.length_take, Nat.min_eq_left hel])
  have hfz : ∀ W, Below w.heap.size w W → W.frozen? ⟨g, pageOf R s, none⟩ = false := fun W hW => by rw [← hfr]; unfold World.frozen?; rw [hW.block _ hg]
  have Hfz := Lib.hid hfz; clear hfz
  have k0 : ((((pageAt R (pageOf R s)).length - 1 : Nat) : Int) == 0) = false := by rw [beq_eq_false_iff_ne]; omega
  by_cases hn1 : pageOf R s + 1 < R.length
  · obtain ⟨an, cn, hvn, -⟩ := owns_shape (HM.out.1.pages (pageOf R s + 1) hn1).row
    have hrn := Hrow0.out _ hn1
    rw [hvn] at hrn
    have k1 := f1 hn1
    have kl := hl _ hn1
    have k2 : (pageOf R s : Int) + 1 < (R.length : Int) := by omega
    have k3 : ¬ ((((pageAt R (pageOf R s)).length - 1 : Nat) : Int) + ((pageAt R (pageOf R s + 1)).length : Int) ≤ (size : Int) / 2) := by omega
    clear hvn
    by_cases hp1 : 0 < pageOf R s
    · obtain ⟨aq, cq, hvq, -⟩ := owns_shape (HM.out.1.pages (pageOf R s - 1) (by omega)).row
      have hrq := Hrow0.out (pageOf R s - 1) (by omega)
      rw [hvq] at hrq
      have k4 := f2 hp1
      have km := hl (pageOf R s - 1) (by omega)
      have k5 : (0 : Int) < (pageOf R s : Int) := by omega
      have k6 : ¬ (((pageAt R (pageOf R s - 1)).length : Int) + (((pageAt R (pageOf R s)).length - 1 : Nat) : Int) ≤ (size : Int) / 2) := by omega
      clear hvq
      by_cases hci : cap2 = entOf R s + 1
      · have Hoff := Lib.hid (show ∀ W, Below w.heap.size w W → ∀ (j : Nat) (u : Value), (cellsOf ((pageAt R (pageOf R s)).drop (entOf R s + 1)))[j]? = some u → W.cell? ((⟨g2, 0, none⟩ : Addr).add j) = some u from fun W _ j u hj => by
          rw [List.drop_eq_nil_of_le (by omega)] at hj
          cases hj)
        have hci2 : (cap2 : Int) - ((entOf R s : Int) + 1) = 0 := by omega
        go_wp2_with (at_builtin; first | (refine wpList_append_own _ rfl _ _ 34 rfl w1.heap.size 60 i0 (.agg #[.int .u64 0, .int .u64 0, .int .u64 0]) 3 24 und_page hi hz0 hz1 hz2 rfl (by decide) _ _ _ rfl Hown0.out ⟨g2, 0, none⟩ _ _ (cellsOf ((pageAt R (pageOf R s)).take (entOf R s))) rfl Hlen1.out Hsrc.out Hone1.out q1 q2 q3 ?_; intro v' w2 hown' hgrow hnil; clear hnil; rw [Nat.zero_add] at hown'; have Hb2 := Lib.hid ((Below.refl _ _).grown hgrow q3 (fun k hk => by cases hk)); clear hgrow q1 q2 q3 Hsrc Hone1 Hlen1 Hown0; obtain ⟨a2, cap3, rfl, hx1, hx2⟩ := owns_shape hown'; have o0 := below_cell Hb2.out n0; have o1 := below_cell Hb2.out n1; have orp := below_cell Hb2.out nrp; have Hown2 := Lib.hid hown'; clear hown'; have Hsrc3 := Lib.hid (fun j u hj => Hoff.out w2 (hB2.trans (Hb2.out.mono hB2.size)) j u hj); have Hone3 := Lib.hid (cellsOf_one (p := (pageAt R (pageOf R s)).drop (entOf R s + 1)) fun e he => Hpi.out.one e (List.mem_of_mem_drop he)); have Hlen3 := Lib.hid (show (cellsOf ((pageAt R (pageOf R s)).drop (entOf R s + 1))).length = ((pageAt R (pageOf R s)).length - (entOf R s + 1)) * 3 by rw [length_cellsOf, List.length_drop]); have q1 : entOf R s + ((pageAt R (pageOf R s)).length - (entOf R s + 1)) ≤ maxLen := (by unfold maxLen; omega); have q2 : (entOf R s + ((pageAt R (pageOf R s)).length - (entOf R s + 1))) * 24 ≤ 140737488355328 := (by omega); have q3 : w1.heap.size ≤ w2.heap.size := Hb2.out.size) | (refine wpList_append_own _ rfl _ _ 34 rfl w1.heap.size 60 i0 (.agg #[.int .u64 0, .int .u64 0, .int .u64 0]) 3 24 und_page hi hz0 hz1 hz2 rfl (by decide) _ _ _ rfl Hown2.out ⟨g2, 0, none⟩ _ _ (cellsOf ((pageAt R (pageOf R s)).drop (entOf R s + 1))) rfl Hlen3.out Hsrc3.out Hone3.out q1 q2 q3 ?_; intro v' w3 hown' hgrow hnil; clear hnil; have Hb3 := Lib.hid (Hb2.out.grown hgrow q3 (fun k hk => (Hown2.out.lt k hk).1)); clear hgrow q1 q2 q3 Hsrc3 Hone3 Hlen3 Hown2; clear o0 o1 orp; rw [hn4] at hown'; obtain ⟨a3, cap4, rfl, hx3, hx4⟩ := owns_shape hown'; have o0 := below_cell Hb3.out n0; have o1 := below_cell Hb3.out n1; have orp := below_cell Hb3.out nrp; have Hown3 := Lib.hid hown'; clear hown'; have hB5 := hB2.trans (Hb3.out.mono hB2.size); (have orn := below_cell hB5 hrn; have orq := below_cell hB5 hrq; have hfr3 := Hfz.out _ hB5)) | (fail))
        go_ret2
        have hlen := cut_len (pageAt R (pageOf R s)) hen
        have hrem : removeR size R s = R.set (pageOf R s) ((pageAt R (pageOf R s)).take (entOf R s) ++ (pageAt R (pageOf R s)).drop (entOf R s + 1)) := by
          unfold removeR
          rw [if_pos ht]
          simp only [hlen]
          rw [if_neg (by omega), if_neg (by rintro ⟨h, h'⟩; have := f1 h; omega), if_neg (by rintro ⟨h, h'⟩; have := f2 h; omega)]
        have hown := Hown3.out
        rw [cut_cells] at hown
        have hend := HM.out.1.swap_end hpl hB5 (u := .slice a3 ((pageAt R (pageOf R s)).length - 1) cap4) (l := (pageAt R (pageOf R s)).take (entOf R s) ++ (pageAt R (pageOf R s)).drop (entOf R s + 1))
          ⟨by rw [hlen]; exact owns_base hown fun k _ => Nat.zero_le _, cut_one Hpi.out.one⟩ (fun k hk => Nat.le_trans hB2.size (hown.lt k hk).1)
        rw [hrem]
        exact ⟨rfl, _, _, hend.1, hend.2⟩
      · have Hoff := Lib.hid (fun W hW => src_drop (i := entOf R s + 1) Hpi.out (w' := W) hW)
        go_wp2_with (at_builtin; first | (refine wpList_append_own _ rfl _ _ 34 rfl w1.heap.size 60 i0 (.agg #[.int .u64 0, .int .u64 0, .int .u64 0]) 3 24 und_page hi hz0 hz1 hz2 rfl (by decide) _ _ _ rfl Hown0.out ⟨g2, 0, none⟩ _ _ (cellsOf ((pageAt R (pageOf R s)).take (entOf R s))) rfl Hlen1.out Hsrc.out Hone1.out q1 q2 q3 ?_; intro v' w2 hown' hgrow hnil; clear hnil; rw [Nat.zero_add] at hown'; have Hb2 := Lib.hid ((Below.refl _ _).grown hgrow q3 (fun k hk => by cases hk)); clear hgrow q1 q2 q3 Hsrc Hone1 Hlen1 Hown0; obtain ⟨a2, cap3, rfl, hx1, hx2⟩ := owns_shape hown'; have o0 := below_cell Hb2.out n0; have o1 := below_cell Hb2.out n1; have orp := below_cell Hb2.out nrp; have Hown2 := Lib.hid hown'; clear hown'; have Hsrc3 := Lib.hid (fun j u hj => Hoff.out w2 (hB2.trans (Hb2.out.mono hB2.size)) j u hj); have Hone3 := Lib.hid (cellsOf_one (p := (pageAt R (pageOf R s)).drop (entOf R s + 1)) fun e he => Hpi.out.one e (List.mem_of_mem_drop he)); have Hlen3 := Lib.hid (show (cellsOf ((pageAt R (pageOf R s)).drop (entOf R s + 1))).length = ((pageAt R (pageOf R s)).length - (entOf R s + 1)) * 3 by rw [length_cellsOf, List.length_drop]); have q1 : entOf R s + ((pageAt R (pageOf R s)).length - (entOf R s + 1)) ≤ maxLen := (by unfold maxLen; omega); have q2 : (entOf R s + ((pageAt R (pageOf R s)).length - (entOf R s + 1))) * 24 ≤ 140737488355328 := (by omega); have q3 : w1.heap.size ≤ w2.heap.size := Hb2.out.size) | (refine wpList_append_own _ rfl _ _ 34 rfl w1.heap.size 60 i0 (.agg #[.int .u64 0, .int .u64 0, .int .u64 0]) 3 24 und_page hi hz0 hz1 hz2 rfl (by decide) _ _ _ rfl Hown2.out ⟨g2, (entOf R s + 1) * 3, none⟩ _ _ (cellsOf ((pageAt R (pageOf R s)).drop (entOf R s + 1))) rfl Hlen3.out Hsrc3.out Hone3.out q1 q2 q3 ?_; intro v' w3 hown' hgrow hnil; clear hnil; have Hb3 := Lib.hid (Hb2.out.grown hgrow q3 (fun k hk => (Hown2.out.lt k hk).1)); clear hgrow q1 q2 q3 Hsrc3 Hone3 Hlen3 Hown2; clear o0 o1 orp; rw [hn4] at hown'; obtain ⟨a3, cap4, rfl, hx3, hx4⟩ := owns_shape hown'; have o0 := below_cell Hb3.out n0; have o1 := below_cell Hb3.out n1; have orp := below_cell Hb3.out nrp; have Hown3 := Lib.hid hown'; clear hown'; have hB5 := hB2.trans (Hb3.out.mono hB2.size); (have orn := below_cell hB5 hrn; have orq := below_cell hB5 hrq; have hfr3 := Hfz.out _ hB5)) | (fail))
        go_ret2
        have hlen := cut_len (pageAt R (pageOf R s)) hen
        have hrem : removeR size R s = R.set (pageOf R s) ((pageAt R (pageOf R s)).take (entOf R s) ++ (pageAt R (pageOf R s)).drop (entOf R s + 1)) := by
          unfold removeR
          rw [if_pos ht]
          simp only [hlen]
          rw [if_neg (by omega), if_neg (by rintro ⟨h, h'⟩; have := f1 h; omega), if_neg (by rintro ⟨h, h'⟩; have := f2 h; omega)]
        have hown := Hown3.out
        rw [cut_cells] at hown
        have hend := HM.out.1.swap_end hpl hB5 (u := .slice a3 ((pageAt R (pageOf R s)).length - 1) cap4) (l := (pageAt R (pageOf R s)).take (entOf R s) ++ (pageAt R (pageOf R s)).drop (entOf R s + 1))
          ⟨by rw [hlen]; exact owns_base hown fun k _ => Nat.zero_le _, cut_one Hpi.out.one⟩ (fun k hk => Nat.le_trans hB2.size (hown.lt k hk).1)
        rw [hrem]
        exact ⟨rfl, _, _, hend.1, hend.2⟩
    · have k5 : ¬ (0 : Int) < (pageOf R s : Int) := by omega
      by_cases hci : cap2 = entOf R s + 1
      · have Hoff := Lib.hid (show ∀ W, Below w.heap.size w W → ∀ (j : Nat) (u : Value), (cellsOf ((pageAt R (pageOf R s)).drop (entOf R s + 1)))[j]? = some u → W.cell? ((⟨g2, 0, none⟩ : Addr).add j) = some u from fun W _ j u hj => by
          rw [List.drop_eq_nil_of_le (by omega)] at hj
          cases hj)
        have hci2 : (cap2 : Int) - ((entOf R s : Int) + 1) = 0 := by omega
        go_wp2_with (at_builtin; first | (refine wpList_append_own _ rfl _ _ 34 rfl w1.heap.size 60 i0 (.agg #[.int .u64 0, .int .u64 0, .int .u64 0]) 3 24 und_page hi hz0 hz1 hz2 rfl (by decide) _ _ _ rfl Hown0.out ⟨g2, 0, none⟩ _ _ (cellsOf ((pageAt R (pageOf R s)).take (entOf R s))) rfl Hlen1.out Hsrc.out Hone1.out q1 q2 q3 ?_; intro v' w2 hown' hgrow hnil; clear hnil; rw [Nat.zero_add] at hown'; have Hb2 := Lib.hid ((Below.refl _ _).grown hgrow q3 (fun k hk => by cases hk)); clear hgrow q1 q2 q3 Hsrc Hone1 Hlen1 Hown0; obtain ⟨a2, cap3, rfl, hx1, hx2⟩ := owns_shape hown'; have o0 := below_cell Hb2.out n0; have o1 := below_cell Hb2.out n1; have orp := below_cell Hb2.out nrp; have Hown2 := Lib.hid hown'; clear hown'; have Hsrc3 := Lib.hid (fun j u hj => Hoff.out w2 (hB2.trans (Hb2.out.mono hB2.size)) j u hj); have Hone3 := Lib.hid (cellsOf_one (p := (pageAt R (pageOf R s)).drop (entOf R s + 1)) fun e he => Hpi.out.one e (List.mem_of_mem_drop he)); have Hlen3 := Lib.hid (show (cellsOf ((pageAt R (pageOf R s)).drop (entOf R s + 1))).length = ((pageAt R (pageOf R s)).length - (entOf R s + 1)) * 3 by rw [length_cellsOf, List.length_drop]); have q1 : entOf R s + ((pageAt R (pageOf R s)).length - (entOf R s + 1)) ≤ maxLen := (by unfold maxLen; omega); have q2 : (entOf R s + ((pageAt R (pageOf R s)).length - (entOf R s + 1))) * 24 ≤ 140737488355328 := (by omega); have q3 : w1.heap.size ≤ w2.heap.size := Hb2.out.size) | (refine wpList_append_own _ rfl _ _ 34 rfl w1.heap.size 60 i0 (.agg #[.int .u64 0, .int .u64 0, .int .u64 0]) 3 24 und_page hi hz0 hz1 hz2 rfl (by decide) _ _ _ rfl Hown2.out ⟨g2, 0, none⟩ _ _ (cellsOf ((pageAt R (pageOf R s)).drop (entOf R s + 1))) rfl Hlen3.out Hsrc3.out Hone3.out q1 q2 q3 ?_; intro v' w3 hown' hgrow hnil; clear hnil; have Hb3 := Lib.hid (Hb2.out.grown hgrow q3 (fun k hk => (Hown2.out.lt k hk).1)); clear hgrow q1 q2 q3 Hsrc3 Hone3 Hlen3 Hown2; clear o0 o1 orp; rw [hn4] at hown'; obtain ⟨a3, cap4, rfl, hx3, hx4⟩ := owns_shape hown'; have o0 := below_cell Hb3.out n0; have o1 := below_cell Hb3.out n1; have orp := below_cell Hb3.out nrp; have Hown3 := Lib.hid hown'; clear hown'; have hB5 := hB2.trans (Hb3.out.mono hB2.size); (have orn := below_cell hB5 hrn; have hfr3 := Hfz.out _ hB5)) | (fail))
        go_ret2
        have hlen := cut_len (pageAt R (pageOf R s)) hen
        have hrem : removeR size R s = R.set (pageOf R s) ((pageAt R (pageOf R s)).take (entOf R s) ++ (pageAt R (pageOf R s)).drop (entOf R s + 1)) := by
          unfold removeR
          rw [if_pos ht]
          simp only [hlen]
          rw [if_neg (by omega), if_neg (by rintro ⟨h, h'⟩; have := f1 h; omega), if_neg (by rintro ⟨h, h'⟩; have := f2 h; omega)]
        have hown := Hown3.out
        rw [cut_cells] at hown
        have hend := HM.out.1.swap_end hpl hB5 (u := .slice a3 ((pageAt R (pageOf R s)).length - 1) cap4) (l := (pageAt R (pageOf R s)).take (entOf R s) ++ (pageAt R (pageOf R s)).drop (entOf R s + 1))
          ⟨by rw [hlen]; exact owns_base hown fun k _ => Nat.zero_le _, cut_one Hpi.out.one⟩ (fun k hk => Nat.le_trans hB2.size (hown.lt k hk).1)
        rw [hrem]
        exact ⟨rfl, _, _, hend.1, hend.2⟩
      · have Hoff := Lib.hid (fun W hW => src_drop (i := entOf R s + 1) Hpi.out (w' := W) hW)
        go_wp2_with (at_builtin; first | (refine wpList_append_own _ rfl _ _ 34 rfl w1.heap.size 60 i0 (.agg #[.int .u64 0, .int .u64 0, .int .u64 0]) 3 24 und_page hi hz0 hz1 hz2 rfl (by decide) _ _ _ rfl Hown0.out ⟨g2, 0, none⟩ _ _ (cellsOf ((pageAt R (pageOf R s)).take (entOf R s))) rfl Hlen1.out Hsrc.out Hone1.out q1 q2 q3 ?_; intro v' w2 hown' hgrow hnil; clear hnil; rw [Nat.zero_add] at hown'; have Hb2 := Lib.hid ((Below.refl _ _).grown hgrow q3 (fun k hk => by cases hk)); clear hgrow q1 q2 q3 Hsrc Hone1 Hlen1 Hown0; obtain ⟨a2, cap3, rfl, hx1, hx2⟩ := owns_shape hown'; have o0 := below_cell Hb2.out n0; have o1 := below_cell Hb2.out n1; have orp := below_cell Hb2.out nrp; have Hown2 := Lib.hid hown'; clear hown'; have Hsrc3 := Lib.hid (fun j u hj => Hoff.out w2 (hB2.trans (Hb2.out.mono hB2.size)) j u hj); have Hone3 := Lib.hid (cellsOf_one (p := (pageAt R (pageOf R s)).drop (entOf R s + 1)) fun e he => Hpi.out.one e (List.mem_of_mem_drop he)); have Hlen3 := Lib.hid (show (cellsOf ((pageAt R (pageOf R s)).drop (entOf R s + 1))).length = ((pageAt R (pageOf R s)).length - (entOf R s + 1)) * 3 by rw [length_cellsOf, List.length_drop]); have q1 : entOf R s + ((pageAt R (pageOf R s)).length - (entOf R s + 1)) ≤ maxLen := (by unfold maxLen; omega); have q2 : (entOf R s + ((pageAt R (pageOf R s)).length - (entOf R s + 1))) * 24 ≤ 140737488355328 := (by omega); have q3 : w1.heap.size ≤ w2.heap.size := Hb2.out.size) | (refine wpList_append_own _ rfl _ _ 34 rfl w1.heap.size 60 i0 (.agg #[.int .u64 0, .int .u64 0, .int .u64 0]) 3 24 und_page hi hz0 hz1 hz2 rfl (by decide) _ _ _ rfl Hown2.out ⟨g2, (entOf R s + 1) * 3, none⟩ _ _ (cellsOf ((pageAt R (pageOf R s)).drop (entOf R s + 1))) rfl Hlen3.out Hsrc3.out Hone3.out q1 q2 q3 ?_; intro v' w3 hown' hgrow hnil; clear hnil; have Hb3 := Lib.hid (Hb2.out.grown hgrow q3 (fun k hk => (Hown2.out.lt k hk).1)); clear hgrow q1 q2 q3 Hsrc3 Hone3 Hlen3 Hown2; clear o0 o1 orp; rw [hn4] at hown'; obtain ⟨a3, cap4, rfl, hx3, hx4⟩ := owns_shape hown'; have o0 := below_cell Hb3.out n0; have o1 := below_cell Hb3.out n1; have orp := below_cell Hb3.out nrp; have Hown3 := Lib.hid hown'; clear hown'; have hB5 := hB2.trans (Hb3.out.mono hB2.size); (have orn := below_cell hB5 hrn; have hfr3 := Hfz.out _ hB5)) | (fail))
        go_ret2
        have hlen := cut_len (pageAt R (pageOf R s)) hen
        have hrem : removeR size R s = R.set (pageOf R s) ((pageAt R (pageOf R s)).take (entOf R s) ++ (pageAt R (pageOf R s)).drop (entOf R s + 1)) := by
          unfold removeR
          rw [if_pos ht]
          simp only [hlen]
          rw [if_neg (by omega), if_neg (by rintro ⟨h, h'⟩; have := f1 h; omega), if_neg (by rintro ⟨h, h'⟩; have := f2 h; omega)]
        have hown := Hown3.out
        rw [cut_cells] at hown
        have hend := HM.out.1.swap_end hpl hB5 (u := .slice a3 ((pageAt R (pageOf R s)).length - 1) cap4) (l := (pageAt R (pageOf R s)).take (entOf R s) ++ (pageAt R (pageOf R s)).drop (entOf R s + 1))
          ⟨by rw [hlen]; exact owns_base hown fun k _ => Nat.zero_le _, cut_one Hpi.out.one⟩ (fun k hk => Nat.le_trans hB2.size (hown.lt k hk).1)
        rw [hrem]
        exact ⟨rfl, _, _, hend.1, hend.2⟩
  · have k2 : ¬ (pageOf R s : Int) + 1 < (R.length : Int) := by omega
    by_cases hp1 : 0 < pageOf R s
    · obtain ⟨aq, cq, hvq, -⟩ := owns_shape (HM.out.1.pages (pageOf R s - 1) (by omega)).row
      have hrq := Hrow0.out (pageOf R s - 1) (by omega)
      rw [hvq] at hrq
      have k4 := f2 hp1
      have km := hl (pageOf R s - 1) (by omega)
      have k5 : (0 : Int) < (pageOf R s : Int) := by omega
      have k6 : ¬ (((pageAt R (pageOf R s - 1)).length : Int) + (((pageAt R (pageOf R s)).length - 1 : Nat) : Int) ≤ (size : Int) / 2) := by omega
      clear hvq
      by_cases hci : cap2 = entOf R s + 1
      · have Hoff := Lib.hid (show ∀ W, Below w.heap.size w W → ∀ (j : Nat) (u : Value), (cellsOf ((pageAt R (pageOf R s)).drop (entOf R s + 1)))[j]? = some u → W.cell? ((⟨g2, 0, none⟩ : Addr).add j) = some u from fun W _ j u hj => by
          rw [List.drop_eq_nil_of_le (by omega)] at hj
          cases hj)
        have hci2 : (cap2 : Int) - ((entOf R s : Int) + 1) = 0 := by omega
        go_wp2_with (at_builtin; first | (refine wpList_append_own _ rfl _ _ 34 rfl w1.heap.size 60 i0 (.agg #[.int .u64 0, .int .u64 0, .int .u64 0]) 3 24 und_page hi hz0 hz1 hz2 rfl (by decide) _ _ _ rfl Hown0.out ⟨g2, 0, none⟩ _ _ (cellsOf ((pageAt R (pageOf R s)).take (entOf R s))) rfl Hlen1.out Hsrc.out Hone1.out q1 q2 q3 ?_; intro v' w2 hown' hgrow hnil; clear hnil; rw [Nat.zero_add] at hown'; have Hb2 := Lib.hid ((Below.refl _ _).grown hgrow q3 (fun k hk => by cases hk)); clear hgrow q1 q2 q3 Hsrc Hone1 Hlen1 Hown0; obtain ⟨a2, cap3, rfl, hx1, hx2⟩ := owns_shape hown'; have o0 := below_cell Hb2.out n0; have o1 := below_cell Hb2.out n1; have orp := below_cell Hb2.out nrp; have Hown2 := Lib.hid hown'; clear hown'; have Hsrc3 := Lib.hid (fun j u hj => Hoff.out w2 (hB2.trans (Hb2.out.mono hB2.size)) j u hj); have Hone3 := Lib.hid (cellsOf_one (p := (pageAt R (pageOf R s)).drop (entOf R s + 1)) fun e he => Hpi.out.one e (List.mem_of_mem_drop he)); have Hlen3 := Lib.hid (show (cellsOf ((pageAt R (pageOf R s)).drop (entOf R s + 1))).length = ((pageAt R (pageOf R s)).length - (entOf R s + 1)) * 3 by rw [length_cellsOf, List.length_drop]); have q1 : entOf R s + ((pageAt R (pageOf R s)).length - (entOf R s + 1)) ≤ maxLen := (by unfold maxLen; omega); have q2 : (entOf R s + ((pageAt R (pageOf R s)).length - (entOf R s + 1))) * 24 ≤ 140737488355328 := (by omega); have q3 : w1.heap.size ≤ w2.heap.size := Hb2.out.size) | (refine wpList_append_own _ rfl _ _ 34 rfl w1.heap.size 60 i0 (.agg #[.int .u64 0, .int .u64 0, .int .u64 0]) 3 24 und_page hi hz0 hz1 hz2 rfl (by decide) _ _ _ rfl Hown2.out ⟨g2, 0, none⟩ _ _ (cellsOf ((pageAt R (pageOf R s)).drop (entOf R s + 1))) rfl Hlen3.out Hsrc3.out Hone3.out q1 q2 q3 ?_; intro v' w3 hown' hgrow hnil; clear hnil; have Hb3 := Lib.hid (Hb2.out.grown hgrow q3 (fun k hk => (Hown2.out.lt k hk).1)); clear hgrow q1 q2 q3 Hsrc3 Hone3 Hlen3 Hown2; clear o0 o1 orp; rw [hn4] at hown'; obtain ⟨a3, cap4, rfl, hx3, hx4⟩ := owns_shape hown'; have o0 := below_cell Hb3.out n0; have o1 := below_cell Hb3.out n1; have orp := below_cell Hb3.out nrp; have Hown3 := Lib.hid hown'; clear hown'; have hB5 := hB2.trans (Hb3.out.mono hB2.size); (have orq := below_cell hB5 hrq; have hfr3 := Hfz.out _ hB5)) | (fail))
        go_ret2
        have hlen := cut_len (pageAt R (pageOf R s)) hen
        have hrem : removeR size R s = R.set (pageOf R s) ((pageAt R (pageOf R s)).take (entOf R s) ++ (pageAt R (pageOf R s)).drop (entOf R s + 1)) := by
          unfold removeR
          rw [if_pos ht]
          simp only [hlen]
          rw [if_neg (by omega), if_neg (by rintro ⟨h, h'⟩; have := f1 h; omega), if_neg (by rintro ⟨h, h'⟩; have := f2 h; omega)]
        have hown := Hown3.out
        rw [cut_cells] at hown
        have hend := HM.out.1.swap_end hpl hB5 (u := .slice a3 ((pageAt R (pageOf R s)).length - 1) cap4) (l := (pageAt R (pageOf R s)).take (entOf R s) ++ (pageAt R (pageOf R s)).drop (entOf R s + 1))
          ⟨by rw [hlen]; exact owns_base hown fun k _ => Nat.zero_le _, cut_one Hpi.out.one⟩ (fun k hk => Nat.le_trans hB2.size (hown.lt k hk).1)
        rw [hrem]
        exact ⟨rfl, _, _, hend.1, hend.2⟩
      · have Hoff := Lib.hid (fun W hW => src_drop (i := entOf R s + 1) Hpi.out (w' := W) hW)
        go_wp2_with (at_builtin; first | (refine wpList_append_own _ rfl _ _ 34 rfl w1.heap.size 60 i0 (.agg #[.int .u64 0, .int .u64 0, .int .u64 0]) 3 24 und_page hi hz0 hz1 hz2 rfl (by decide) _ _ _ rfl Hown0.out ⟨g2, 0, none⟩ _ _ (cellsOf ((pageAt R (pageOf R s)).take (entOf R s))) rfl Hlen1.out Hsrc.out Hone1.out q1 q2 q3 ?_; intro v' w2 hown' hgrow hnil; clear hnil; rw [Nat.zero_add] at hown'; have Hb2 := Lib.hid ((Below.refl _ _).grown hgrow q3 (fun k hk => by cases hk)); clear hgrow q1 q2 q3 Hsrc Hone1 Hlen1 Hown0; obtain ⟨a2, cap3, rfl, hx1, hx2⟩ := owns_shape hown'; have o0 := below_cell Hb2.out n0; have o1 := below_cell Hb2.out n1; have orp := below_cell Hb2.out nrp; have Hown2 := Lib.hid hown'; clear hown'; have Hsrc3 := Lib.hid (fun j u hj => Hoff.out w2 (hB2.trans (Hb2.out.mono hB2.size)) j u hj); have Hone3 := Lib.hid (cellsOf_one (p := (pageAt R (pageOf R s)).drop (entOf R s + 1)) fun e he => Hpi.out.one e (List.mem_of_mem_drop he)); have Hlen3 := Lib.hid (show (cellsOf ((pageAt R (pageOf R s)).drop (entOf R s + 1))).length = ((pageAt R (pageOf R s)).length - (entOf R s + 1)) * 3 by rw [length_cellsOf, List.length_drop]); have q1 : entOf R s + ((pageAt R (pageOf R s)).length - (entOf R s + 1)) ≤ maxLen := (by unfold maxLen; omega); have q2 : (entOf R s + ((pageAt R (pageOf R s)).length - (entOf R s + 1))) * 24 ≤ 140737488355328 := (by omega); have q3 : w1.heap.size ≤ w2.heap.size := Hb2.out.size) | (refine wpList_append_own _ rfl _ _ 34 rfl w1.heap.size 60 i0 (.agg #[.int .u64 0, .int .u64 0, .int .u64 0]) 3 24 und_page hi hz0 hz1 hz2 rfl (by decide) _ _ _ rfl Hown2.out ⟨g2, (entOf R s + 1) * 3, none⟩ _ _ (cellsOf ((pageAt R (pageOf R s)).drop (entOf R s + 1))) rfl Hlen3.out Hsrc3.out Hone3.out q1 q2 q3 ?_; intro v' w3 hown' hgrow hnil; clear hnil; have Hb3 := Lib.hid (Hb2.out.grown hgrow q3 (fun k hk => (Hown2.out.lt k hk).1)); clear hgrow q1 q2 q3 Hsrc3 Hone3 Hlen3 Hown2; clear o0 o1 orp; rw [hn4] at hown'; obtain ⟨a3, cap4, rfl, hx3, hx4⟩ := owns_shape hown'; have o0 := below_cell Hb3.out n0; have o1 := below_cell Hb3.out n1; have orp := below_cell Hb3.out nrp; have Hown3 := Lib.hid hown'; clear hown'; have hB5 := hB2.trans (Hb3.out.mono hB2.size); (have orq := below_cell hB5 hrq; have hfr3 := Hfz.out _ hB5)) | (fail))
        go_ret2
        have hlen := cut_len (pageAt R (pageOf R s)) hen
        have hrem : removeR size R s = R.set (pageOf R s) ((pageAt R (pageOf R s)).take (entOf R s) ++ (pageAt R (pageOf R s)).drop (entOf R s + 1)) := by
          unfold removeR
          rw [if_pos ht]
          simp only [hlen]
          rw [if_neg (by omega), if_neg (by rintro ⟨h, h'⟩; have := f1 h; omega), if_neg (by rintro ⟨h, h'⟩; have := f2 h; omega)]
        have hown := Hown3.out
        rw [cut_cells] at hown
        have hend := HM.out.1.swap_end hpl hB5 (u := .slice a3 ((pageAt R (pageOf R s)).length - 1) cap4) (l := (pageAt R (pageOf R s)).take (entOf R s) ++ (pageAt R (pageOf R s)).drop (entOf R s + 1))
          ⟨by rw [hlen]; exact owns_base hown fun k _ => Nat.zero_le _, cut_one Hpi.out.one⟩ (fun k hk => Nat.le_trans hB2.size (hown.lt k hk).1)
        rw [hrem]
        exact ⟨rfl, _, _, hend.1, hend.2⟩
    · have k5 : ¬ (0 : Int) < (pageOf R s : Int) := by omega
      by_cases hci : cap2 = entOf R s + 1
      · have Hoff := Lib.hid (show ∀ W, Below w.heap.size w W → ∀ (j : Nat) (u : Value), (cellsOf ((pageAt R (pageOf R s)).drop (entOf R s + 1)))[j]? = some u → W.cell? ((⟨g2, 0, none⟩ : Addr).add j) = some u from fun W _ j u hj => by
          rw [List.drop_eq_nil_of_le (by omega)] at hj
          cases hj)
        have hci2 : (cap2 : Int) - ((entOf R s : Int) + 1) = 0 := by omega
        go_wp2_with (at_builtin; first | (refine wpList_append_own _ rfl _ _ 34 rfl w1.heap.size 60 i0 (.agg #[.int .u64 0, .int .u64 0, .int .u64 0]) 3 24 und_page hi hz0 hz1 hz2 rfl (by decide) _ _ _ rfl Hown0.out ⟨g2, 0, none⟩ _ _ (cellsOf ((pageAt R (pageOf R s)).take (entOf R s))) rfl Hlen1.out Hsrc.out Hone1.out q1 q2 q3 ?_; intro v' w2 hown' hgrow hnil; clear hnil; rw [Nat.zero_add] at hown'; have Hb2 := Lib.hid ((Below.refl _ _).grown hgrow q3 (fun k hk => by cases hk)); clear hgrow q1 q2 q3 Hsrc Hone1 Hlen1 Hown0; obtain ⟨a2, cap3, rfl, hx1, hx2⟩ := owns_shape hown'; have o0 := below_cell Hb2.out n0; have o1 := below_cell Hb2.out n1; have orp := below_cell Hb2.out nrp; have Hown2 := Lib.hid hown'; clear hown'; have Hsrc3 := Lib.hid (fun j u hj => Hoff.out w2 (hB2.trans (Hb2.out.mono hB2.size)) j u hj); have Hone3 := Lib.hid (cellsOf_one (p := (pageAt R (pageOf R s)).drop (entOf R s + 1)) fun e he => Hpi.out.one e (List.mem_of_mem_drop he)); have Hlen3 := Lib.hid (show (cellsOf ((pageAt R (pageOf R s)).drop (entOf R s + 1))).length = ((pageAt R (pageOf R s)).length - (entOf R s + 1)) * 3 by rw [length_cellsOf, List.length_drop]); have q1 : entOf R s + ((pageAt R (pageOf R s)).length - (entOf R s + 1)) ≤ maxLen := (by unfold maxLen; omega); have q2 : (entOf R s + ((pageAt R (pageOf R s)).length - (entOf R s + 1))) * 24 ≤ 140737488355328 := (by omega); have q3 : w1.heap.size ≤ w2.heap.size := Hb2.out.size) | (refine wpList_append_own _ rfl _ _ 34 rfl w1.heap.size 60 i0 (.agg #[.int .u64 0, .int .u64 0, .int .u64 0]) 3 24 und_page hi hz0 hz1 hz2 rfl (by decide) _ _ _ rfl Hown2.out ⟨g2, 0, none⟩ _ _ (cellsOf ((pageAt R (pageOf R s)).drop (entOf R s + 1))) rfl Hlen3.out Hsrc3.out Hone3.out q1 q2 q3 ?_; intro v' w3 hown' hgrow hnil; clear hnil; have Hb3 := Lib.hid (Hb2.out.grown hgrow q3 (fun k hk => (Hown2.out.lt k hk).1)); clear hgrow q1 q2 q3 Hsrc3 Hone3 Hlen3 Hown2; clear o0 o1 orp; rw [hn4] at hown'; obtain ⟨a3, cap4, rfl, hx3, hx4⟩ := owns_shape hown'; have o0 := below_cell Hb3.out n0; have o1 := below_cell Hb3.out n1; have orp := below_cell Hb3.out nrp; have Hown3 := Lib.hid hown'; clear hown'; have hB5 := hB2.trans (Hb3.out.mono hB2.size); (have hfr3 := Hfz.out _ hB5)) | (fail))
        go_ret2
        have hlen := cut_len (pageAt R (pageOf R s)) hen
        have hrem : removeR size R s = R.set (pageOf R s) ((pageAt R (pageOf R s)).take (entOf R s) ++ (pageAt R (pageOf R s)).drop (entOf R s + 1)) := by
          unfold removeR
          rw [if_pos ht]
          simp only [hlen]
          rw [if_neg (by omega), if_neg (by rintro ⟨h, h'⟩; have := f1 h; omega), if_neg (by rintro ⟨h, h'⟩; have := f2 h; omega)]
        have hown := Hown3.out
        rw [cut_cells] at hown
        have hend := HM.out.1.swap_end hpl hB5 (u := .slice a3 ((pageAt R (pageOf R s)).length - 1) cap4) (l := (pageAt R (pageOf R s)).take (entOf R s) ++ (pageAt R (pageOf R s)).drop (entOf R s + 1))
          ⟨by rw [hlen]; exact owns_base hown fun k _ => Nat.zero_le _, cut_one Hpi.out.one⟩ (fun k hk => Nat.le_trans hB2.size (hown.lt k hk).1)
        rw [hrem]
        exact ⟨rfl, _, _, hend.1, hend.2⟩
      · have Hoff := Lib.hid (fun W hW => src_drop (i := entOf R s + 1) Hpi.out (w' := W) hW)
        go_wp2_with (at_builtin; first | (refine wpList_append_own _ rfl _ _ 34 rfl w1.heap.size 60 i0 (.agg #[.int .u64 0, .int .u64 0, .int .u64 0]) 3 24 und_page hi hz0 hz1 hz2 rfl (by decide) _ _ _ rfl Hown0.out ⟨g2, 0, none⟩ _ _ (cellsOf ((pageAt R (pageOf R s)).take (entOf R s))) rfl Hlen1.out Hsrc.out Hone1.out q1 q2 q3 ?_; intro v' w2 hown' hgrow hnil; clear hnil; rw [Nat.zero_add] at hown'; have Hb2 := Lib.hid ((Below.refl _ _).grown hgrow q3 (fun k hk => by cases hk)); clear hgrow q1 q2 q3 Hsrc Hone1 Hlen1 Hown0; obtain ⟨a2, cap3, rfl, hx1, hx2⟩ := owns_shape hown'; have o0 := below_cell Hb2.out n0; have o1 := below_cell Hb2.out n1; have orp := below_cell Hb2.out nrp; have Hown2 := Lib.hid hown'; clear hown'; have Hsrc3 := Lib.hid (fun j u hj => Hoff.out w2 (hB2.trans (Hb2.out.mono hB2.size)) j u hj); have Hone3 := Lib.hid (cellsOf_one (p := (pageAt R (pageOf R s)).drop (entOf R s + 1)) fun e he => Hpi.out.one e (List.mem_of_mem_drop he)); have Hlen3 := Lib.hid (show (cellsOf ((pageAt R (pageOf R s)).drop (entOf R s + 1))).length = ((pageAt R (pageOf R s)).length - (entOf R s + 1)) * 3 by rw [length_cellsOf, List.length_drop]); have q1 : entOf R s + ((pageAt R (pageOf R s)).length - (entOf R s + 1)) ≤ maxLen := (by unfold maxLen; omega); have q2 : (entOf R s + ((pageAt R (pageOf R s)).length - (entOf R s + 1))) * 24 ≤ 140737488355328 := (by omega); have q3 : w1.heap.size ≤ w2.heap.size := Hb2.out.size) | (refine wpList_append_own _ rfl _ _ 34 rfl w1.heap.size 60 i0 (.agg #[.int .u64 0, .int .u64 0, .int .u64 0]) 3 24 und_page hi hz0 hz1 hz2 rfl (by decide) _ _ _ rfl Hown2.out ⟨g2, (entOf R s + 1) * 3, none⟩ _ _ (cellsOf ((pageAt R (pageOf R s)).drop (entOf R s + 1))) rfl Hlen3.out Hsrc3.out Hone3.out q1 q2 q3 ?_; intro v' w3 hown' hgrow hnil; clear hnil; have Hb3 := Lib.hid (Hb2.out.grown hgrow q3 (fun k hk => (Hown2.out.lt k hk).1)); clear hgrow q1 q2 q3 Hsrc3 Hone3 Hlen3 Hown2; clear o0 o1 orp; rw [hn4] at hown'; obtain ⟨a3, cap4, rfl, hx3, hx4⟩ := owns_shape hown'; have o0 := below_cell Hb3.out n0; have o1 := below_cell Hb3.out n1; have orp := below_cell Hb3.out nrp; have Hown3 := Lib.hid hown'; clear hown'; have hB5 := hB2.trans (Hb3.out.mono hB2.size); (have hfr3 := Hfz.out _ hB5)) | (fail))
        go_ret2
        have hlen := cut_len (pageAt R (pageOf R s)) hen
        have hrem : removeR size R s = R.set (pageOf R s) ((pageAt R (pageOf R s)).take (entOf R s) ++ (pageAt R (pageOf R s)).drop (entOf R s + 1)) := by
          unfold removeR
          rw [if_pos ht]
          simp only [hlen]
          rw [if_neg (by omega), if_neg (by rintro ⟨h, h'⟩; have := f1 h; omega), if_neg (by rintro ⟨h, h'⟩; have := f2 h; omega)]
        have hown := Hown3.out
        rw [cut_cells] at hown
        have hend := HM.out.1.swap_end hpl hB5 (u := .slice a3 ((pageAt R (pageOf R s)).length - 1) cap4) (l := (pageAt R (pageOf R s)).take (entOf R s) ++ (pageAt R (pageOf R s)).drop (entOf R s + 1))
          ⟨by rw [hlen]; exact owns_base hown fun k _ => Nat.zero_le _, cut_one Hpi.out.one⟩ (fun k hk => Nat.le_trans hB2.size (hown.lt k hk).1)
        rw [hrem]
        exact ⟨rfl, _, _, hend.1, hend.2⟩
end Go.Proofs.Ytagcohpghgnalaa.RF
