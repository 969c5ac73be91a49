/-
  Closed facts on the slice type [][]pages.entry[uint64].
-/
import Derived.Test.YtagcohpghgnalaaRows
import Derived.Test.YtagcohpghgnalaaCGA
import Derived.Test.YtagcohpghgnalaaCW0
import Derived.Lib.Overlaps
set_option linter.unusedSimpArgs false
set_option linter.unusedVariables false
namespace Go.Proofs.Ytagcohpghgnalaa.RU
open Go.RowKit Go.RG Go.Hp Go.Proofs.Ytagcohpghgnalaa


theorem und_slc : Try.prog.underlying 80 = some (.slice 89) := by kernel_rfl
theorem info_elm : (Try.prog.info? 89).map (fun i => (i.zero, i.size, i.bytes)) = some (some (.slice none 0 0), 1, 24) := by kernel_rfl

end Go.Proofs.Ytagcohpghgnalaa.RU
namespace Go.Proofs.Ytagcohpghgnalaa.RU
open Go.RowKit Go.RG Go.Hp Go.Proofs.Ytagcohpghgnalaa


theorem clone_any (ad : Addr) (n c : Nat) (cs : List Value) (hl : cs.length = n * 1) (h1 : ∀ v ∈ cs, v.oneCell' = true) (hn : n ≤ 1099511627776) (w : World)
    (hsrc : ∀ j u, cs[j]? = some u → w.cell? (ad.add j) = some u) :
    Calls Try.prog 76 #[.slice (some ad) n c] w fun e w' => ∃ v, e = .returned v ∧ w'.ownsRow w.heap.size 89 1 v n cs ∧ v ≠ .slice none 0 0 ∧ Below w.heap.size w w' := by
  obtain ⟨i0, hi, hz0, hz1, hz2⟩ := info_parts info_elm
  have he := fun w => Lib.run_eql_slice_nil (P := Try.prog) w 80 89 (some ad) n c 0 0 und_slc
  have hB0 := below_box w (.cells #[] 89)
  have Hsrc := Lib.hid hsrc; clear hsrc
  go_enter Try.func76, Try.ntmps76
  have c1 : ∀ j u, cs[j]? = some u → (w.alloc (.cells #[] 89)).cell? (ad.add j) = some u := fun j u h => below_cell hB0 (Hsrc.out j u h)
  have C1 := Lib.hid c1; clear c1
  have c2 : 0 + n ≤ maxLen := by unfold maxLen; omega
  have c3 : (0 + n) * 24 ≤ 140737488355328 := by omega
  have c4 : w.heap.size ≤ (w.alloc (.cells #[] 89)).heap.size := by simp
  go_wp2_with (at_builtin; refine wpList_append_own _ rfl _ _ 80 rfl w.heap.size 89 i0 (.slice none 0 0) 1 24 und_slc hi hz0 hz1 hz2 rfl (by decide) _ _ _ rfl (World.ownsRow_made w #[] 0 (Nat.le_refl _) (Nat.zero_le _) rfl) ad n c cs rfl hl C1.out h1 c2 c3 c4 ?_; intro v' w1 hown hgrow hnil)
  go_ret
  refine ⟨v', rfl, by simpa using hown, (fun h => by cases (hnil.1 h).1), ?_⟩
  exact (hB0.trans ((Below.refl _ _).grown hgrow (by simp) (fun k hk => by injection hk with hk; subst hk; exact Nat.le_refl _)))
end Go.Proofs.Ytagcohpghgnalaa.RU
namespace Go.Proofs.Ytagcohpghgnalaa.RU
open Go.RowKit Go.RG Go.Hp Go.Proofs.Ytagcohpghgnalaa


theorem und_int : Try.prog.underlying 3 = some (.int .i64) := by kernel_rfl
theorem size_elm (w : World) : (Go.sizeOf 89).run Try.prog w = .ok 1 w := by kernel_rfl

theorem over_apart (w : World) (gv g o la ca lb cb : Nat) (vs L : List Value) (hv : Row w gv 89 vs) (hg : Row w g 89 L) (hne : gv ≠ g) (hvs : vs.length ≠ 0) :
    (callFunc 97 #[.slice (some ⟨g, o, none⟩) lb cb, .slice (some ⟨gv, 0, none⟩) la ca]).run Try.prog w = .ok (.value (.bool false)) w := by
  rw [run_callFunc_extern Try.func97 (by kernel_rfl) (by kernel_rfl) (by kernel_rfl) (e := Extern.SlicesOverlaps.overlaps #[80, 80] #[4]) (by kernel_rfl),
    Lib.run_overlaps_apart w 80 4 89 und_slc 1 size_elm ⟨g, o, none⟩ ⟨gv, 0, none⟩ lb cb la ca (Ne.symm hne) 89 89 L.length vs.length (by unfold Row at hg; simp [World.shape?, hg]) (by unfold Row at hv; simp [World.shape?, hv]) hvs (hg.frozen _) (hg.frozen _)]
  rfl

def RepPost (B : Nat) (w : World) (g i j len : Nat) (xs vs : List Value) (e : Ending) (w' : World) : Prop :=
  ∃ v, e = .returned v ∧ w'.ownsRow B 89 1 v len (xs.take i ++ (vs ++ xs.drop j)) ∧ Ext (· = g) w w' ∧ ∀ k, v.ownBlock = some k → k = g ∨ w.heap.size ≤ k


set_option maxRecDepth 100000 in
/-- the last one by two -/
theorem rep12_end (B g cap i gv : Nat) (xs vs : List Value) (w : World) (hown : w.ownsRow B 89 1 (.slice (some ⟨g, 0, none⟩) (i + 1) cap) (i + 1) xs) (hB : B ≤ w.heap.size) (hn : i ≤ 549755813888)
    (hv : Row w gv 89 vs) (hvl : vs.length = 2) (h1v : ∀ v ∈ vs, v.oneCell' = true) (h1x : ∀ v ∈ xs, v.oneCell' = true) :
    Calls Try.prog 53 #[.slice (some ⟨g, 0, none⟩) (i + 1) cap, .int .i64 i, .int .i64 ((i : Int) + 1), .slice (some ⟨gv, 0, none⟩) 2 2] w (RepPost B w g i (i + 1) (i + 2) xs vs) := by
  obtain ⟨i0, hi, hz0, hz1, hz2⟩ := info_parts info_elm
  have hxl := owns_length hown
  obtain ⟨L, hg, hLl, hLt, hnc, hcm⟩ := owns_row hown
  have hgB := (hown.lt g rfl).1
  simp only [Nat.mul_one] at hxl hLl hLt
  have Hg := Lib.hid hg; clear hg
  have HLt := Lib.hid hLt; clear hLt
  have HLl := Lib.hid hLl; clear hLl
  have Hv := Lib.hid hv; clear hv
  clear hown
  have hm1 : cap ≤ 9223372036854775807 := by simp only [maxLen] at hcm; omega
  have H1v := Lib.hid h1v; clear h1v
  have H1x := Lib.hid h1x; clear h1x
  have hie : ((i : Int) == (i : Int) + 1) = false := by rw [beq_eq_false_iff_ne]; omega
  have hci : ¬ cap = i := by omega
  have hown2 : w.ownsRow B 89 1 (.slice (some ⟨g, 0, none⟩) i cap) i (L.take i) := owns_of_row Hg.out (by rw [HLl.out, Nat.mul_one]) (by omega) hcm (by rw [Nat.mul_one]) hgB
  have Hown := Lib.hid hown2; clear hown2
  have c1 : i + 2 ≤ maxLen := by unfold maxLen; omega
  have c2 : (i + 2) * 24 ≤ 140737488355328 := by omega
  have C3 : Hid (∀ j u, vs[j]? = some u → w.cell? ((⟨gv, 0, none⟩ : Addr).add j) = some u) := fun j u h => by rw [Addr.add_lit, Nat.zero_add, Hv.out.cell]; exact h
  have hvl' : vs.length = 2 * 1 := by omega
  go_enter Try.func53, Try.ntmps53
  go_wp2_with (at_builtin; go_loud (refine wpList_append_own2 rfl _ _ 80 rfl B 89 i0 (.slice none 0 0) 1 24 und_slc hi hz0 hz1 hz2 rfl (by decide) _ _ _ _ rfl Hown.out ⟨gv, 0, none⟩ 2 2 vs rfl hvl' C3.out H1v.out c1 c2 hB ?_; intro v' w1 hown' hgrow hnil; have Hnil := Lib.hid hnil; clear hnil; obtain ⟨a', cap', rfl, hx1, hx2⟩ := owns_shape hown'; have Hown' := Lib.hid hown'; clear hown'; have Hgrow := Lib.hid hgrow; clear hgrow))
  go_ret
  refine ⟨_, rfl, ?_, Ext.grown Hgrow.out (fun k hk _ => by injection hk with hk; exact hk.symm), Hnil.out⟩
  have e1 : xs.take i = L.take i := by rw [← HLt.out, List.take_take]; congr 1; omega
  rw [List.drop_of_length_le (by omega), List.append_nil, e1]
  exact Hown'.out

set_option maxRecDepth 100000 in
/-- the last two by one -/
theorem rep21_end (B g cap i gv : Nat) (xs vs : List Value) (w : World) (hown : w.ownsRow B 89 1 (.slice (some ⟨g, 0, none⟩) (i + 2) cap) (i + 2) xs) (hn : i ≤ 549755813888)
    (hv : Row w gv 89 vs) (hvl : vs.length = 1) (h1v : ∀ v ∈ vs, v.oneCell' = true) (h1x : ∀ v ∈ xs, v.oneCell' = true) :
    Calls Try.prog 53 #[.slice (some ⟨g, 0, none⟩) (i + 2) cap, .int .i64 i, .int .i64 ((i : Int) + 2), .slice (some ⟨gv, 0, none⟩) 1 1] w (RepPost B w g i (i + 2) (i + 1) xs vs) := by
  obtain ⟨i0, hi, hz0, hz1, hz2⟩ := info_parts info_elm
  have hxl := owns_length hown
  obtain ⟨L, hg, hLl, hLt, hnc, hcm⟩ := owns_row hown
  have hgB := (hown.lt g rfl).1
  simp only [Nat.mul_one] at hxl hLl hLt
  have Hg := Lib.hid hg; clear hg
  have HLt := Lib.hid hLt; clear hLt
  have HLl := Lib.hid hLl; clear hLl
  have Hv := Lib.hid hv; clear hv
  clear hown
  have hm1 : cap ≤ 9223372036854775807 := by simp only [maxLen] at hcm; omega
  have H1v := Lib.hid h1v; clear h1v
  have H1x := Lib.hid h1x; clear h1x
  have hie : ((i : Int) == (i : Int) + 2) = false := by rw [beq_eq_false_iff_ne]; omega
  have hci : ¬ cap = i := by omega
  have hci1 : ¬ cap = i + 1 := by omega
  have C3 : Hid (∀ j u, vs[j]? = some u → w.cell? ((⟨gv, 0, none⟩ : Addr).add j) = some u) := fun j u h => by rw [Addr.add_lit, Nat.zero_add, Hv.out.cell]; exact h
  have hvl' : vs.length = 1 * 1 := by omega
  have hroom : i + 1 ≤ cap := by omega
  have hfit : i * 1 + vs.length ≤ L.length := by rw [HLl.out]; omega
  have hfit2 : (i + 1) + 1 * 1 ≤ (splice L (i * 1) vs).length := by rw [length_splice _ _ _ hfit, HLl.out]; omega
  go_enter Try.func53, Try.ntmps53
  go_wp2_with first | (at_builtin; go_loud (refine wpList_append_room rfl (.tmp 32) (.tmp 33) 80 rfl 89 i0 1 und_slc hi hz1 g i cap _ 1 _ rfl rfl L vs Hg.out hvl' (fun _ => ⟨_, rfl, C3.out⟩) H1v.out hroom hfit ?_; intro w3 hr3 hx3; have Hx3 := Lib.hid hx3; clear hx3)) | (refine wpList_clear_k rfl (.tmp 43) 80 rfl 89 i0 (.slice none 0 0) 1 und_slc hi hz0 rfl (by decide) (by decide) g (i + 1) 1 _ rfl 89 _ hr3 hfit2 ?_; intro w5 zs hzl hr5 hx5)
  go_ret
  refine ⟨_, rfl, ?_, ?_, fun k hk => .inl (Option.some.inj hk).symm⟩
  · refine owns_of_row hr5 ?_ hroom hcm ?_ hgB
    · rw [length_splice _ _ _ (by rw [hzl]; exact hfit2), length_splice _ _ _ hfit, HLl.out, Nat.mul_one]
    · have e1 : xs.take i = L.take i := by rw [← HLt.out, List.take_take]; congr 1; omega
      rw [Nat.mul_one, take_splice (by rw [length_splice _ _ _ hfit, HLl.out]; omega), List.drop_of_length_le (by omega), List.append_nil, e1, Nat.mul_one]
      have := fill_new (L := L) (vs := vs) (D := []) (a := i) (by simp only [List.length_nil]; rw [HLl.out]; omega)
      simp only [List.length_nil, Nat.add_zero, hvl, List.append_nil] at this
      rw [← this]
      simp [splice]
  · exact (Hx3.out).trans hx5 (fun k hk h => h)

set_option maxRecDepth 100000 in
/-- one by two, no room -/
theorem rep12_grow (B g n cap i gv : Nat) (xs vs : List Value) (w : World) (hown : w.ownsRow B 89 1 (.slice (some ⟨g, 0, none⟩) n cap) n xs) (hB : B ≤ w.heap.size) (hn : n ≤ 549755813888) (hin : i + 1 < n) (hroom : cap < n + 1)
    (hv : Row w gv 89 vs) (hvl : vs.length = 2) (h1v : ∀ v ∈ vs, v.oneCell' = true) (h1x : ∀ v ∈ xs, v.oneCell' = true) :
    Calls Try.prog 53 #[.slice (some ⟨g, 0, none⟩) n cap, .int .i64 i, .int .i64 ((i : Int) + 1), .slice (some ⟨gv, 0, none⟩) 2 2] w (RepPost B w g i (i + 1) (n + 1) xs vs) := by
  obtain ⟨i0, hi, hz0, hz1, hz2⟩ := info_parts info_elm
  have hxl := owns_length hown
  obtain ⟨L, hg, hLl, hLt, hnc, hcm⟩ := owns_row hown
  have hgB := (hown.lt g rfl).1
  simp only [Nat.mul_one] at hxl hLl hLt
  have Hg := Lib.hid hg; clear hg
  have HLt := Lib.hid hLt; clear hLt
  have HLl := Lib.hid hLl; clear hLl
  have Hv := Lib.hid hv; clear hv
  clear hown
  have hm1 : cap ≤ 9223372036854775807 := by simp only [maxLen] at hcm; omega
  have H1v := Lib.hid h1v; clear h1v
  have H1x := Lib.hid h1x; clear h1x
  obtain rfl : cap = n := by omega
  have hie : ((i : Int) == (i : Int) + 1) = false := by rw [beq_eq_false_iff_ne]; omega
  have hjn : ((i : Int) + 1 == (cap : Int)) = false := by rw [beq_eq_false_iff_ne]; omega
  have hci : ¬ cap = i := by omega
  have hci1 : ¬ cap = i + 1 := by omega
  have hii : (i : Int) + 1 ≤ (cap : Int) := by omega
  have htot : (i : Int) + 2 + ((cap - (i + 1) : Nat) : Int) = (cap : Int) + 1 := by omega
  have Htot := Lib.hid htot; clear htot
  have hk : (i : Int) + 2 + ((cap - (i + 1) : Nat) : Int) - (i : Int) = ((cap + 1 - i : Nat) : Int) := by omega
  have Hk := Lib.hid hk; clear hk
  have hbig : (cap : Int) < (i : Int) + 2 + ((cap - (i + 1) : Nat) : Int) := by omega
  have c1 : i * 1 ≤ L.length := by rw [HLl.out]; omega
  have c2 : 0 < cap + 1 - i := by omega
  have c3 : cap < i + (cap + 1 - i) := by omega
  have c4 : i + (cap + 1 - i) ≤ maxLen := by unfold maxLen; omega
  have c5 : (i + (cap + 1 - i)) * 24 ≤ 140737488355328 := by omega
  have C2 : Hid (vs.length = Nat.min 2 (cap + 1 - i) * 1) := by
    show vs.length = min 2 (cap + 1 - i) * 1
    rw [hvl, show min 2 (cap + 1 - i) = 2 by omega]
  go_enter Try.func53, Try.ntmps53
  go_wp2_with fail
  refine wp_region_rg (fun _ => none) fol (by kernel_rfl) (fun W hW hh => ?_)
  have HG0 := Lib.hid (Hg.out.below hW)
  have HV0 := Lib.hid (Hv.out.below hW)
  clear hh
  repeat (first
    | (refine lex_move _ (by first | exact Or.inl rfl | exact Or.inr rfl) rfl rfl ?_
       simp only [Act.put, Act.eval, Array.getD_eq_getD_getElem?, List.getElem?_toArray, List.getElem?_cons_zero, List.getElem?_cons_succ, Option.getD_some, List.setIfInBounds_toArray, List.set_cons_succ, List.set_cons_zero]
      )
    | (refine lex_float ?_ rfl rfl (fun w1 hb1 hf1 => ?_) ?_
       rotate_left
       (go_simp; (try simp (disch := omega) only [IntWalk.i64_quo, IntWalk.rem_in, IntWalk.i64_in, IntWalk.u64_in, IntWalk.u32_in, IntWalk.u8_in, IntWalk.toNatUp, IntWalk.iteOmega]); (try go_simp); rfl)
       simp only [Act.put, Act.eval, Array.getD_eq_getD_getElem?, List.getElem?_toArray, List.getElem?_cons_zero, List.getElem?_cons_succ, Option.getD_some, List.setIfInBounds_toArray, List.set_cons_succ, List.set_cons_zero]
      )
    | (refine lex_skip rfl ?_
       simp only [Act.put, Act.eval, Array.getD_eq_getD_getElem?, List.getElem?_toArray, List.getElem?_cons_zero, List.getElem?_cons_succ, Option.getD_some, List.setIfInBounds_toArray, List.set_cons_succ, List.set_cons_zero]
      ))
  refine lex_nil ?_
  go_wp2_with first | (at_builtin; go_loud (refine wpList_append_zeros rfl (.tmp 63) (.tmp 66) 80 3 rfl 89 i0 (.slice none 0 0) .i64 .i64 1 24 und_slc und_int hi hz0 hz1 hz2 rfl (by decide) g i cap (cap + 1 - i) rfl (congrArg (Value.int .i64) Hk.out) L HG0.out c1 c2 c3 c4 c5 ?_; intro w1 L1 cap1 hr1 ht1 hl1 hc1 hm2 hb1; have HV1 := Lib.hid (HV0.out.below hb1); have d2 : i + vs.length ≤ L1.length := by rw [hl1, hvl]; omega)) | (refine wpList_copy_k rfl (.tmp 70) (.tmp 71) 80 80 rfl 89 i0 1 und_slc hi hz1 (some ⟨W.heap.size, i, none⟩) (some ⟨gv, 0, none⟩) _ _ _ _ rfl rfl W.heap.size i 89 L1 vs hr1 C2.out (fun _ => ⟨rfl, _, rfl, fun j v h => by rw [Addr.add_lit, Nat.zero_add, HV1.out.cell]; exact h⟩) d2 H1v.out ?_; intro w2 hr2 hx2)
  have hgl := HG0.out.lt
  have HG2 := Lib.hid ((HG0.out.below hb1).ext hx2 (by omega))
  have hci2 : ¬ cap1 = i + 2 := by omega
  have hle1 : (i : Int) + 2 ≤ ((i + (cap + 1 - i) : Nat) : Int) := by omega
  clear hr1
  simp only [Act.put, Act.eval, Array.getD_eq_getD_getElem?, List.getElem?_toArray, List.getElem?_cons_zero, List.getElem?_cons_succ, Option.getD_some, List.setIfInBounds_toArray, List.set_cons_succ, List.set_cons_zero]
  refine wp_region_rg_tail 9 (fun _ => none) fol (by kernel_rfl) (fun W2 hW2 hh => ?_)
  have hr3 := hr2.below hW2
  have HG3 := Lib.hid (HG2.out.below hW2)
  clear hh hr2
  simp only [List.take_succ_cons, List.take_zero, List.drop_succ_cons, List.drop_zero]
  repeat (first
    | (refine lex_move _ (by first | exact Or.inl rfl | exact Or.inr rfl) rfl rfl ?_
       simp only [Act.put, Act.eval, Array.getD_eq_getD_getElem?, List.getElem?_toArray, List.getElem?_cons_zero, List.getElem?_cons_succ, Option.getD_some, List.setIfInBounds_toArray, List.set_cons_succ, List.set_cons_zero]
      )
    | (refine lex_float ?_ rfl rfl (fun w1 hb1 hf1 => ?_) ?_
       rotate_left
       (go_simp; (try simp (disch := omega) only [IntWalk.i64_quo, IntWalk.rem_in, IntWalk.i64_in, IntWalk.u64_in, IntWalk.u32_in, IntWalk.u8_in, IntWalk.toNatUp, IntWalk.iteOmega]); (try go_simp); rfl)
       simp only [Act.put, Act.eval, Array.getD_eq_getD_getElem?, List.getElem?_toArray, List.getElem?_cons_zero, List.getElem?_cons_succ, Option.getD_some, List.setIfInBounds_toArray, List.set_cons_succ, List.set_cons_zero]
      )
    | (refine lex_skip rfl ?_
       simp only [Act.put, Act.eval, Array.getD_eq_getD_getElem?, List.getElem?_toArray, List.getElem?_cons_zero, List.getElem?_cons_succ, Option.getD_some, List.setIfInBounds_toArray, List.set_cons_succ, List.set_cons_zero]
      ))
  refine lex_nil ?_
  have hDl : (xs.drop (i + 1)).length = cap - (i + 1) := by rw [List.length_drop, hxl]
  have hmin : (xs.drop (i + 1)).length = Nat.min (cap - (i + 1)) (i + (cap + 1 - i) - (i + 2)) * 1 := by
    show _ = min _ _ * 1
    rw [hDl, show min (cap - (i + 1)) (i + (cap + 1 - i) - (i + 2)) = cap - (i + 1) by omega]
    omega
  have hspl : (splice L1 i vs).length = cap1 := by rw [length_splice _ _ _ d2, hl1, Nat.mul_one]
  have hfit : (i + 2) + (xs.drop (i + 1)).length ≤ (splice L1 i vs).length := by rw [hspl, hDl]; omega
  refine wpList_copy_k rfl (.tmp 78) (.tmp 81) 80 80 rfl 89 i0 1 und_slc hi hz1 (some ⟨W.heap.size, i + 2, none⟩) (some ⟨g, i + 1, none⟩) _ _ _ _ rfl rfl W.heap.size (i + 2) 89 _ (xs.drop (i + 1)) hr3 hmin
    (fun _ => ⟨rfl, _, rfl, fun j v h => by
      rw [Addr.add_lit, HG3.out.cell]
      rw [← HLt.out, List.getElem?_drop, List.getElem?_take] at h
      split at h
      · exact h
      · cases h⟩) hfit (fun v hv => H1x.out v (List.mem_of_mem_drop hv)) ?_
  intro w3 hr4 hx4
  have Hr4 := Lib.hid hr4; clear hr4 hr3 hmin
  simp only [Act.put, Act.eval, Array.getD_eq_getD_getElem?, List.getElem?_toArray, List.getElem?_cons_zero, List.getElem?_cons_succ, Option.getD_some, List.setIfInBounds_toArray, List.set_cons_succ, List.set_cons_zero]
  go_wp2_with fail
  go_ret
  refine ⟨_, rfl, ?_, ?_, fun k hk => .inr (by have hk : W.heap.size = k := Option.some.inj hk; have := hW.size; omega)⟩
  · rw [show i + (cap + 1 - i) = cap + 1 by omega]
    refine owns_of_row Hr4.out ?_ (by omega) hm2 ?_ (Nat.le_trans hB hW.size)
    · rw [length_splice _ _ _ hfit, hspl, Nat.mul_one]
    · have := fill_new (L := L1) (vs := vs) (D := xs.drop (i + 1)) (a := i) (by rw [hvl, hDl, hl1]; omega)
      rw [hvl, hDl] at this
      have e1 : xs.take i = L1.take i := by
        have h := ht1
        rw [Nat.mul_one] at h
        rw [h, ← HLt.out, List.take_take]; congr 1; omega
      rw [e1, ← this]
      congr 1
      omega
  · have e0 : Ext (· = g) w W := Ext.of_below hW
    have e1 : Ext (· = g) w w1 := e0.trans (Ext.of_below (S := (· = g)) hb1) (fun k hk h => h)
    have hs := hW.size
    have e2 : Ext (· = g) w w2 := e1.trans hx2 (fun k hk h => by omega)
    have e3 : Ext (· = g) w W2 := e2.trans (Ext.of_below (S := (· = g)) hW2) (fun k hk h => h)
    exact e3.trans hx4 (fun k hk h => by omega)

set_option maxRecDepth 100000 in
/-- one by two, in place -/
theorem rep12_in (B g n cap i gv : Nat) (xs vs : List Value) (w : World) (hown : w.ownsRow B 89 1 (.slice (some ⟨g, 0, none⟩) n cap) n xs) (hn : n ≤ 549755813888) (hin : i + 1 < n) (hroom : n + 1 ≤ cap)
    (hv : Row w gv 89 vs) (hne : gv ≠ g) (hvl : vs.length = 2) (h1v : ∀ v ∈ vs, v.oneCell' = true) (h1x : ∀ v ∈ xs, v.oneCell' = true) :
    Calls Try.prog 53 #[.slice (some ⟨g, 0, none⟩) n cap, .int .i64 i, .int .i64 ((i : Int) + 1), .slice (some ⟨gv, 0, none⟩) 2 2] w (RepPost B w g i (i + 1) (n + 1) xs vs) := by
  have hov1 := fun w (hv : Row w gv 89 vs) L (hg : Row w g 89 L) lb cb => over_apart w gv g (i + 2) 2 2 lb cb vs L hv hg hne (by omega)
  have Hov := Lib.hid hov1; clear hov1
  obtain ⟨i0, hi, hz0, hz1, hz2⟩ := info_parts info_elm
  have hxl := owns_length hown
  obtain ⟨L, hg, hLl, hLt, hnc, hcm⟩ := owns_row hown
  have hgB := (hown.lt g rfl).1
  simp only [Nat.mul_one] at hxl hLl hLt
  have Hg := Lib.hid hg; clear hg
  have HLt := Lib.hid hLt; clear hLt
  have HLl := Lib.hid hLl; clear hLl
  have Hv := Lib.hid hv; clear hv
  clear hown
  have hm1 : cap ≤ 9223372036854775807 := by simp only [maxLen] at hcm; omega
  have H1v := Lib.hid h1v; clear h1v
  have H1x := Lib.hid h1x; clear h1x
  have hie : ((i : Int) == (i : Int) + 1) = false := by rw [beq_eq_false_iff_ne]; omega
  have hjn : ((i : Int) + 1 == (n : Int)) = false := by rw [beq_eq_false_iff_ne]; omega
  have hci : ¬ cap = i := by omega
  have hci1 : ¬ cap = i + 1 := by omega
  have hci2 : ¬ cap = i + 2 := by omega
  have hii : (i : Int) + 1 ≤ (n : Int) := by omega
  have hsmall : ¬ ((cap : Int) < (i : Int) + 2 + ((n - (i + 1) : Nat) : Int)) := by omega
  have hle1 : (i : Int) + 2 + ((n - (i + 1) : Nat) : Int) ≤ (cap : Int) := by omega
  have htt : ((i : Int) + 2 + ((n - (i + 1) : Nat) : Int)).toNat = n + 1 := by omega
  have Htt := Lib.hid htt; clear htt
  go_enter Try.func53, Try.ntmps53
  go_wp2_with fail
  refine wp_region_rg (fun _ => none) fol (by kernel_rfl) (fun W hW hh => ?_)
  have HG0 := Lib.hid (Hg.out.below hW)
  have HV0 := Lib.hid (Hv.out.below hW)
  clear hh
  repeat (first
    | (refine lex_move _ (by first | exact Or.inl rfl | exact Or.inr rfl) rfl rfl ?_
       simp only [Act.put, Act.eval, Array.getD_eq_getD_getElem?, List.getElem?_toArray, List.getElem?_cons_zero, List.getElem?_cons_succ, Option.getD_some, List.setIfInBounds_toArray, List.set_cons_succ, List.set_cons_zero]
      )
    | (refine lex_float ?_ rfl rfl (fun w1 hb1 hf1 => ?_) ?_
       rotate_left
       (go_simp; (try simp (disch := omega) only [IntWalk.i64_quo, IntWalk.rem_in, IntWalk.i64_in, IntWalk.u64_in, IntWalk.u32_in, IntWalk.u8_in, IntWalk.toNatUp, IntWalk.iteOmega]); (try go_simp); rfl)
       simp only [Act.put, Act.eval, Array.getD_eq_getD_getElem?, List.getElem?_toArray, List.getElem?_cons_zero, List.getElem?_cons_succ, Option.getD_some, List.setIfInBounds_toArray, List.set_cons_succ, List.set_cons_zero]
      )
    | (refine lex_skip rfl ?_
       simp only [Act.put, Act.eval, Array.getD_eq_getD_getElem?, List.getElem?_toArray, List.getElem?_cons_zero, List.getElem?_cons_succ, Option.getD_some, List.setIfInBounds_toArray, List.set_cons_succ, List.set_cons_zero]
      ))
  refine lex_nil ?_
  have hov := Hov.out W HV0.out L HG0.out
  go_wp2_with (simp only [hov])
  clear hov
  have hDl : (xs.drop (i + 1)).length = n - (i + 1) := by rw [List.length_drop, hxl]
  have hfit : (i + 2) + (xs.drop (i + 1)).length ≤ L.length := by rw [hDl, HLl.out]; omega
  refine wp_region_rg_tail 9 (fun _ => none) fol (by kernel_rfl) (fun W2 hW2 hh => ?_)
  have HG1 := Lib.hid (HG0.out.below hW2)
  have HV1 := Lib.hid (HV0.out.below hW2)
  clear hh
  simp only [List.take_succ_cons, List.take_zero, List.drop_succ_cons, List.drop_zero]
  repeat (first
    | (refine lex_move _ (by first | exact Or.inl rfl | exact Or.inr rfl) rfl rfl ?_
       simp only [Act.put, Act.eval, Array.getD_eq_getD_getElem?, List.getElem?_toArray, List.getElem?_cons_zero, List.getElem?_cons_succ, Option.getD_some, List.setIfInBounds_toArray, List.set_cons_succ, List.set_cons_zero]
      )
    | (refine lex_float ?_ rfl rfl (fun w1 hb1 hf1 => ?_) ?_
       rotate_left
       (go_simp; (try simp (disch := omega) only [IntWalk.i64_quo, IntWalk.rem_in, IntWalk.i64_in, IntWalk.u64_in, IntWalk.u32_in, IntWalk.u8_in, IntWalk.toNatUp, IntWalk.iteOmega]); (try go_simp); rfl)
       simp only [Act.put, Act.eval, Array.getD_eq_getD_getElem?, List.getElem?_toArray, List.getElem?_cons_zero, List.getElem?_cons_succ, Option.getD_some, List.setIfInBounds_toArray, List.set_cons_succ, List.set_cons_zero]
      )
    | (refine lex_skip rfl ?_
       simp only [Act.put, Act.eval, Array.getD_eq_getD_getElem?, List.getElem?_toArray, List.getElem?_cons_zero, List.getElem?_cons_succ, Option.getD_some, List.setIfInBounds_toArray, List.set_cons_succ, List.set_cons_zero]
      ))
  refine lex_nil ?_
  refine wpList_copy_k rfl (.tmp 126) (.tmp 129) 80 80 rfl 89 i0 1 und_slc hi hz1 (some ⟨g, i + 2, none⟩) (some ⟨g, i + 1, none⟩) _ _ _ _ rfl rfl g (i + 2) 89 L (xs.drop (i + 1)) HG1.out (by rw [hDl]; show _ = min _ _ * 1; omega)
    (fun _ => ⟨rfl, _, rfl, fun j v h => by
      rw [Addr.add_lit, HG1.out.cell]
      rw [← HLt.out, List.getElem?_drop, List.getElem?_take] at h
      split at h
      · exact h
      · cases h⟩) hfit (fun v hv => H1x.out v (List.mem_of_mem_drop hv)) ?_
  intro w3 hr4 hx4
  have HV3 := Lib.hid (HV1.out.ext hx4 hne)
  have Hx4 := Lib.hid hx4; clear hx4
  have d2 : i + vs.length ≤ (splice L (i + 2) (xs.drop (i + 1))).length := by rw [length_splice _ _ _ hfit, HLl.out, hvl]; omega
  simp only [Act.put, Act.eval, Array.getD_eq_getD_getElem?, List.getElem?_toArray, List.getElem?_cons_zero, List.getElem?_cons_succ, Option.getD_some, List.setIfInBounds_toArray, List.set_cons_succ, List.set_cons_zero]
  go_wp2_with (refine wpList_copy_k rfl (.tmp 133) (.tmp 134) 80 80 rfl 89 i0 1 und_slc hi hz1 (some ⟨g, i, none⟩) (some ⟨gv, 0, none⟩) _ _ _ _ rfl rfl g i 89 _ vs hr4 (by rw [hvl]; show _ = min _ _ * 1; omega) (fun _ => ⟨rfl, _, rfl, fun j v h => by rw [Addr.add_lit, Nat.zero_add, HV3.out.cell]; exact h⟩) d2 H1v.out ?_; intro w5 hr5 hx5)
  go_ret
  refine ⟨_, rfl, ?_, ?_, fun k hk => .inl (Option.some.inj hk).symm⟩
  · rw [show i + 2 + (n - (i + 1)) = n + 1 by omega]
    refine owns_of_row hr5 ?_ hroom hcm ?_ hgB
    · rw [length_splice _ _ _ d2, length_splice _ _ _ hfit, HLl.out, Nat.mul_one]
    · have := fill_in (L := L) (vs := vs) (D := xs.drop (i + 1)) (a := i) (by rw [hvl, hDl, HLl.out]; omega)
      rw [hvl, hDl] at this
      have e1 : xs.take i = L.take i := by rw [← HLt.out, List.take_take]; congr 1; omega
      rw [e1, ← this]
      congr 1
      omega
  · have e0 : Ext (· = g) w W := Ext.of_below hW
    have e1 : Ext (· = g) w W2 := e0.trans (Ext.of_below (S := (· = g)) hW2) (fun k hk h => h)
    have e2 : Ext (· = g) w w3 := e1.trans Hx4.out (fun k hk h => h)
    exact e2.trans hx5 (fun k hk h => h)

set_option maxRecDepth 100000 in
/-- two by one, in place -/
theorem rep21_in (B g n cap i gv : Nat) (xs vs : List Value) (w : World) (hown : w.ownsRow B 89 1 (.slice (some ⟨g, 0, none⟩) n cap) n xs) (hn : n ≤ 549755813888) (hin : i + 2 < n)
    (hv : Row w gv 89 vs) (hne : gv ≠ g) (hvl : vs.length = 1) (h1v : ∀ v ∈ vs, v.oneCell' = true) (h1x : ∀ v ∈ xs, v.oneCell' = true) :
    Calls Try.prog 53 #[.slice (some ⟨g, 0, none⟩) n cap, .int .i64 i, .int .i64 ((i : Int) + 2), .slice (some ⟨gv, 0, none⟩) 1 1] w (RepPost B w g i (i + 2) (n - 1) xs vs) := by
  obtain ⟨i0, hi, hz0, hz1, hz2⟩ := info_parts info_elm
  have hxl := owns_length hown
  obtain ⟨L, hg, hLl, hLt, hnc, hcm⟩ := owns_row hown
  have hgB := (hown.lt g rfl).1
  simp only [Nat.mul_one] at hxl hLl hLt
  have Hg := Lib.hid hg; clear hg
  have HLt := Lib.hid hLt; clear hLt
  have HLl := Lib.hid hLl; clear hLl
  have Hv := Lib.hid hv; clear hv
  clear hown
  have hm1 : cap ≤ 9223372036854775807 := by simp only [maxLen] at hcm; omega
  have H1v := Lib.hid h1v; clear h1v
  have H1x := Lib.hid h1x; clear h1x
  have hie : ((i : Int) == (i : Int) + 2) = false := by rw [beq_eq_false_iff_ne]; omega
  have hjn : ((i : Int) + 2 == (n : Int)) = false := by rw [beq_eq_false_iff_ne]; omega
  have hci : ¬ cap = i := by omega
  have hci1 : ¬ cap = i + 1 := by omega
  have hci2 : ¬ cap = i + 2 := by omega
  have hcn : ¬ cap = i + 1 + (n - (i + 2)) := by omega
  have hii : (i : Int) + 2 ≤ (n : Int) := by omega
  have hle1 : (i : Int) + 1 + ((n - (i + 2) : Nat) : Int) ≤ (n : Int) := by omega
  have hDl : (xs.drop (i + 2)).length = n - (i + 2) := by rw [List.length_drop, hxl]
  have d1 : i + vs.length ≤ L.length := by rw [HLl.out, hvl]; omega
  have d2 : (i + 1) + (xs.drop (i + 2)).length ≤ (splice L i vs).length := by rw [length_splice _ _ _ d1, hDl, HLl.out]; omega
  have d3 : (i + 1 + (n - (i + 2))) + (n - (i + 1 + (n - (i + 2)))) * 1 ≤ (splice (splice L i vs) (i + 1) (xs.drop (i + 2))).length := by rw [length_splice _ _ _ d2, length_splice _ _ _ d1, HLl.out]; omega
  go_enter Try.func53, Try.ntmps53
  go_wp2_with fail
  refine wp_region_rg (fun _ => none) fol (by kernel_rfl) (fun W hW hh => ?_)
  have HG0 := Lib.hid (Hg.out.below hW)
  have HV0 := Lib.hid (Hv.out.below hW)
  clear hh
  repeat (first
    | (refine lex_move _ (by first | exact Or.inl rfl | exact Or.inr rfl) rfl rfl ?_
       simp only [Act.put, Act.eval, Array.getD_eq_getD_getElem?, List.getElem?_toArray, List.getElem?_cons_zero, List.getElem?_cons_succ, Option.getD_some, List.setIfInBounds_toArray, List.set_cons_succ, List.set_cons_zero]
      )
    | (refine lex_float ?_ rfl rfl (fun w1 hb1 hf1 => ?_) ?_
       rotate_left
       (go_simp; (try simp (disch := omega) only [IntWalk.i64_quo, IntWalk.rem_in, IntWalk.i64_in, IntWalk.u64_in, IntWalk.u32_in, IntWalk.u8_in, IntWalk.toNatUp, IntWalk.iteOmega]); (try go_simp); rfl)
       simp only [Act.put, Act.eval, Array.getD_eq_getD_getElem?, List.getElem?_toArray, List.getElem?_cons_zero, List.getElem?_cons_succ, Option.getD_some, List.setIfInBounds_toArray, List.set_cons_succ, List.set_cons_zero]
      )
    | (refine lex_skip rfl ?_
       simp only [Act.put, Act.eval, Array.getD_eq_getD_getElem?, List.getElem?_toArray, List.getElem?_cons_zero, List.getElem?_cons_succ, Option.getD_some, List.setIfInBounds_toArray, List.set_cons_succ, List.set_cons_zero]
      ))
  refine lex_nil ?_
  go_wp2_with (refine wpList_copy_k rfl (.tmp 95) (.tmp 96) 80 80 rfl 89 i0 1 und_slc hi hz1 (some ⟨g, i, none⟩) (some ⟨gv, 0, none⟩) _ _ _ _ rfl rfl g i 89 _ vs HG0.out (by rw [hvl]; show _ = min _ _ * 1; omega) (fun _ => ⟨rfl, _, rfl, fun j v h => by rw [Addr.add_lit, Nat.zero_add, HV0.out.cell]; exact h⟩) d1 H1v.out ?_; intro w2 hr2 hx2)
  have Hx2 := Lib.hid hx2; clear hx2
  simp only [Act.put, Act.eval, Array.getD_eq_getD_getElem?, List.getElem?_toArray, List.getElem?_cons_zero, List.getElem?_cons_succ, Option.getD_some, List.setIfInBounds_toArray, List.set_cons_succ, List.set_cons_zero]
  refine wp_region_rg_tail 9 (fun _ => none) fol (by kernel_rfl) (fun W2 hW2 hh => ?_)
  have hr3 := hr2.below hW2
  clear hh hr2
  simp only [List.take_succ_cons, List.take_zero, List.drop_succ_cons, List.drop_zero]
  repeat (first
    | (refine lex_move _ (by first | exact Or.inl rfl | exact Or.inr rfl) rfl rfl ?_
       simp only [Act.put, Act.eval, Array.getD_eq_getD_getElem?, List.getElem?_toArray, List.getElem?_cons_zero, List.getElem?_cons_succ, Option.getD_some, List.setIfInBounds_toArray, List.set_cons_succ, List.set_cons_zero]
      )
    | (refine lex_float ?_ rfl rfl (fun w1 hb1 hf1 => ?_) ?_
       rotate_left
       (go_simp; (try simp (disch := omega) only [IntWalk.i64_quo, IntWalk.rem_in, IntWalk.i64_in, IntWalk.u64_in, IntWalk.u32_in, IntWalk.u8_in, IntWalk.toNatUp, IntWalk.iteOmega]); (try go_simp); rfl)
       simp only [Act.put, Act.eval, Array.getD_eq_getD_getElem?, List.getElem?_toArray, List.getElem?_cons_zero, List.getElem?_cons_succ, Option.getD_some, List.setIfInBounds_toArray, List.set_cons_succ, List.set_cons_zero]
      )
    | (refine lex_skip rfl ?_
       simp only [Act.put, Act.eval, Array.getD_eq_getD_getElem?, List.getElem?_toArray, List.getElem?_cons_zero, List.getElem?_cons_succ, Option.getD_some, List.setIfInBounds_toArray, List.set_cons_succ, List.set_cons_zero]
      ))
  refine lex_nil ?_
  refine wpList_copy_k rfl (.tmp 103) (.tmp 106) 80 80 rfl 89 i0 1 und_slc hi hz1 (some ⟨g, i + 1, none⟩) (some ⟨g, i + 2, none⟩) _ _ _ _ rfl rfl g (i + 1) 89 _ (xs.drop (i + 2)) hr3 (by rw [hDl]; show _ = min _ _ * 1; omega)
    (fun _ => ⟨rfl, _, rfl, fun j v h => by
      rw [Addr.add_lit, hr3.cell, get_splice_behind d1 (by omega)]
      rw [← HLt.out, List.getElem?_drop, List.getElem?_take] at h
      split at h
      · exact h
      · cases h⟩) d2 (fun v hv => H1x.out v (List.mem_of_mem_drop hv)) ?_
  intro w3 hr4 hx4
  have Hx4 := Lib.hid hx4; clear hx4 hr3
  simp only [Act.put, Act.eval, Array.getD_eq_getD_getElem?, List.getElem?_toArray, List.getElem?_cons_zero, List.getElem?_cons_succ, Option.getD_some, List.setIfInBounds_toArray, List.set_cons_succ, List.set_cons_zero]
  go_wp2_with (refine wpList_clear_k rfl (.tmp 110) 80 rfl 89 i0 (.slice none 0 0) 1 und_slc hi hz0 rfl (by decide) (by decide) g (i + 1 + (n - (i + 2))) (n - (i + 1 + (n - (i + 2)))) _ rfl 89 _ hr4 d3 ?_; intro w5 zs hzl hr5 hx5)
  go_ret
  refine ⟨_, rfl, ?_, ?_, fun k hk => .inl (Option.some.inj hk).symm⟩
  · rw [show i + 1 + (n - (i + 2)) = n - 1 by omega] at hr5 ⊢
    refine owns_of_row hr5 ?_ (by omega) hcm ?_ hgB
    · rw [length_splice _ _ _ (by rw [hzl, length_splice _ _ _ d2, length_splice _ _ _ d1, HLl.out]; omega), length_splice _ _ _ d2, length_splice _ _ _ d1, HLl.out, Nat.mul_one]
    · have := fill_new (L := L) (vs := vs) (D := xs.drop (i + 2)) (a := i) (by rw [hvl, hDl, HLl.out]; omega)
      rw [hvl, hDl] at this
      have e1 : xs.take i = L.take i := by rw [← HLt.out, List.take_take]; congr 1; omega
      rw [Nat.mul_one, take_splice (by rw [length_splice _ _ _ d2, length_splice _ _ _ d1, HLl.out]; omega), e1, ← this]
      congr 1
      omega
  · have e0 : Ext (· = g) w W := Ext.of_below hW
    have e1 : Ext (· = g) w w2 := e0.trans Hx2.out (fun k hk h => h)
    have e2 : Ext (· = g) w W2 := e1.trans (Ext.of_below (S := (· = g)) hW2) (fun k hk h => h)
    have e3 : Ext (· = g) w w3 := e2.trans Hx4.out (fun k hk h => h)
    exact e3.trans hx5 (fun k hk h => h)

/-- one by two -/
theorem rep12 (B g n cap i gv : Nat) (xs vs : List Value) (w : World) (hown : w.ownsRow B 89 1 (.slice (some ⟨g, 0, none⟩) n cap) n xs) (hB : B ≤ w.heap.size) (hn : n ≤ 549755813888) (hin : i < n)
    (hv : Row w gv 89 vs) (hne : gv ≠ g) (hvl : vs.length = 2) (h1v : ∀ v ∈ vs, v.oneCell' = true) (h1x : ∀ v ∈ xs, v.oneCell' = true) :
    Calls Try.prog 53 #[.slice (some ⟨g, 0, none⟩) n cap, .int .i64 i, .int .i64 ((i : Int) + 1), .slice (some ⟨gv, 0, none⟩) 2 2] w (RepPost B w g i (i + 1) (n + 1) xs vs) := by
  rcases Nat.lt_or_ge (i + 1) n with h | h
  · rcases Nat.lt_or_ge cap (n + 1) with h2 | h2
    · exact rep12_grow B g n cap i gv xs vs w hown hB hn h h2 hv hvl h1v h1x
    · exact rep12_in B g n cap i gv xs vs w hown hn h h2 hv hne hvl h1v h1x
  · obtain rfl : n = i + 1 := by omega
    exact rep12_end B g cap i gv xs vs w hown hB (by omega) hv hvl h1v h1x
/-- two by one -/
theorem rep21 (B g n cap i gv : Nat) (xs vs : List Value) (w : World) (hown : w.ownsRow B 89 1 (.slice (some ⟨g, 0, none⟩) n cap) n xs) (hn : n ≤ 549755813888) (hin : i + 1 < n)
    (hv : Row w gv 89 vs) (hne : gv ≠ g) (hvl : vs.length = 1) (h1v : ∀ v ∈ vs, v.oneCell' = true) (h1x : ∀ v ∈ xs, v.oneCell' = true) :
    Calls Try.prog 53 #[.slice (some ⟨g, 0, none⟩) n cap, .int .i64 i, .int .i64 ((i : Int) + 2), .slice (some ⟨gv, 0, none⟩) 1 1] w (RepPost B w g i (i + 2) (n - 1) xs vs) := by
  rcases Nat.lt_or_ge (i + 2) n with h | h
  · exact rep21_in B g n cap i gv xs vs w hown hn h hv hne hvl h1v h1x
  · obtain rfl : n = i + 2 := by omega
    exact rep21_end B g cap i gv xs vs w hown (by omega) hv hvl h1v h1x
end Go.Proofs.Ytagcohpghgnalaa.RU
namespace Go.Proofs.Ytagcohpghgnalaa.RU
open Go.RowKit Go.RG Go.Hp Go.Proofs.Ytagcohpghgnalaa


def DelPost (B : Nat) (w : World) (g n cap i : Nat) (xs : List Value) (e : Ending) (w' : World) : Prop :=
  e = .returned (.slice (some ⟨g, 0, none⟩) (n - 1) cap) ∧ w'.ownsRow B 89 1 (.slice (some ⟨g, 0, none⟩) (n - 1) cap) (n - 1) (xs.take (i * 1) ++ xs.drop ((i + 1) * 1)) ∧ Ext (· = g) w w'

set_option maxRecDepth 100000 in
theorem delete_any (B g n cap i : Nat) (xs : List Value) (w : World) (hown : w.ownsRow B 89 1 (.slice (some ⟨g, 0, none⟩) n cap) n xs) (hn : n ≤ 549755813888) (hin : i < n) (h1x : ∀ v ∈ xs, v.oneCell' = true) :
    Calls Try.prog 60 #[.slice (some ⟨g, 0, none⟩) n cap, .int .i64 i, .int .i64 ((i : Int) + 1)] w (DelPost B w g n cap i xs) := by
  obtain ⟨i0, hi, hz0, hz1, hz2⟩ := info_parts info_elm
  have hxl := owns_length hown
  obtain ⟨L, hg, hLl, hLt, hnc, hcm⟩ := owns_row hown
  have hgB := (hown.lt g rfl).1
  have Hg := Lib.hid hg; clear hg
  have HLt := Lib.hid hLt; clear hLt
  have HLl := Lib.hid hLl; clear hLl
  clear hown
  have hm1 : cap ≤ 9223372036854775807 := by simp only [maxLen] at hcm; omega
  have hii : (i : Int) + 1 ≤ (n : Int) := by omega
  have hie : ((i : Int) == (i : Int) + 1) = false := by rw [beq_eq_false_iff_ne]; omega
  have H1x := Lib.hid h1x; clear h1x
  have hci : ¬ cap = i := by omega
  by_cases hci1 : cap = i + 1
  · obtain rfl : n = i + 1 := by omega
    subst hci1
    have hDl : (xs.drop ((i + 1) * 1)).length = 0 * 1 := by rw [List.length_drop, hxl]; omega
    have hroom : i + 0 ≤ i + 1 := by omega
    have hfit : i * 1 + (xs.drop ((i + 1) * 1)).length ≤ L.length := by rw [hDl, HLl.out]; omega
    have hfit2 : (i + 0) + 1 * 1 ≤ (splice L (i * 1) (xs.drop ((i + 1) * 1))).length := by
      rw [length_splice _ _ _ hfit, HLl.out]; omega
    go_enter Try.func60, Try.ntmps60
    go_wp2_with fail
    refine wp_region_rg_tail 6 (fun _ => none) fol (by kernel_rfl) (fun W hW hh => ?_)
    have HG1 := Lib.hid (Hg.out.below hW)
    clear hh
    simp only [List.take_succ_cons, List.take_zero, List.drop_succ_cons, List.drop_zero]
    repeat (first
      | (refine lex_move _ (by first | exact Or.inl rfl | exact Or.inr rfl) rfl rfl ?_
         simp only [Act.put, Act.eval, Array.getD_eq_getD_getElem?, List.getElem?_toArray, List.getElem?_cons_zero, List.getElem?_cons_succ, Option.getD_some, List.setIfInBounds_toArray, List.set_cons_succ, List.set_cons_zero]
        )
      | (refine lex_float ?_ rfl rfl (fun w1 hb1 hf1 => ?_) ?_
         rotate_left
         (go_simp; (try simp (disch := omega) only [IntWalk.i64_quo, IntWalk.rem_in, IntWalk.i64_in, IntWalk.u64_in, IntWalk.u32_in, IntWalk.u8_in, IntWalk.toNatUp, IntWalk.iteOmega]); (try go_simp); rfl)
         simp only [Act.put, Act.eval, Array.getD_eq_getD_getElem?, List.getElem?_toArray, List.getElem?_cons_zero, List.getElem?_cons_succ, Option.getD_some, List.setIfInBounds_toArray, List.set_cons_succ, List.set_cons_zero]
        )
      | (refine lex_skip rfl ?_
         simp only [Act.put, Act.eval, Array.getD_eq_getD_getElem?, List.getElem?_toArray, List.getElem?_cons_zero, List.getElem?_cons_succ, Option.getD_some, List.setIfInBounds_toArray, List.set_cons_succ, List.set_cons_zero]
        ))
    refine lex_nil ?_
    refine wpList_append_room rfl (.tmp 22) (.tmp 25) 80 rfl 89 i0 1 und_slc hi hz1 g i _ _ (0) _ rfl rfl L (xs.drop ((i + 1) * 1)) HG1.out hDl
      (fun hpos => by
        omega) (fun v hv => H1x.out v (List.mem_of_mem_drop hv)) hroom hfit ?_
    intro w3 hr4 hx4
    simp only [Act.put, Act.eval, Array.getD_eq_getD_getElem?, List.getElem?_toArray, List.getElem?_cons_zero, List.getElem?_cons_succ, Option.getD_some, List.setIfInBounds_toArray, List.set_cons_succ, List.set_cons_zero]
    go_wp2_with (refine wpList_clear_k rfl (.tmp 31) 80 rfl 89 i0 (.slice none 0 0) 1 und_slc hi hz0 rfl (by decide) (by decide) g ((i + (0))) (1) _ rfl 89 _ hr4 hfit2 ?_; intro w5 zs hzl hr5 hx5)
    go_ret
    refine ⟨rfl, ?_, ?_⟩
    · refine owns_of_row hr5 ?_ (by omega) hcm ?_ hgB
      · rw [length_splice _ _ _ (by rw [hzl]; exact hfit2), length_splice _ _ _ hfit, HLl.out]
      · have := delete_in (L := L) (xs := xs) (zs := zs) (a := i * 1) (b := (i + 1) * 1) (N := _) HLt.out hxl (by omega) (by omega) (by rw [HLl.out]; omega) (by rw [hzl]; omega)
        first | rw [← this] | (simp only [Nat.add_sub_cancel] at this ⊢; rw [← this])
        congr 1
        · omega
        · congr 1
          omega
    · have e1 : Ext (· = g) w W := Ext.of_below hW
      have e2 : Ext (· = g) w w3 := e1.trans hx4 (fun k hk h => h)
      exact e2.trans hx5 (fun k hk h => h)
  · have hDl : (xs.drop ((i + 1) * 1)).length = (n - (i + 1)) * 1 := by rw [List.length_drop, hxl]; omega
    have hroom : i + (n - (i + 1)) ≤ cap := by omega
    have hfit : i * 1 + (xs.drop ((i + 1) * 1)).length ≤ L.length := by rw [hDl, HLl.out]; omega
    have hfit2 : (i + (n - (i + 1))) + (n - (i + (n - (i + 1)))) * 1 ≤ (splice L (i * 1) (xs.drop ((i + 1) * 1))).length := by
      rw [length_splice _ _ _ hfit, HLl.out]; omega
    have hcn : ¬ cap = i + (n - (i + 1)) := by omega
    go_enter Try.func60, Try.ntmps60
    go_wp2_with fail
    refine wp_region_rg_tail 6 (fun _ => none) fol (by kernel_rfl) (fun W hW hh => ?_)
    have HG1 := Lib.hid (Hg.out.below hW)
    clear hh
    simp only [List.take_succ_cons, List.take_zero, List.drop_succ_cons, List.drop_zero]
    repeat (first
      | (refine lex_move _ (by first | exact Or.inl rfl | exact Or.inr rfl) rfl rfl ?_
         simp only [Act.put, Act.eval, Array.getD_eq_getD_getElem?, List.getElem?_toArray, List.getElem?_cons_zero, List.getElem?_cons_succ, Option.getD_some, List.setIfInBounds_toArray, List.set_cons_succ, List.set_cons_zero]
        )
      | (refine lex_float ?_ rfl rfl (fun w1 hb1 hf1 => ?_) ?_
         rotate_left
         (go_simp; (try simp (disch := omega) only [IntWalk.i64_quo, IntWalk.rem_in, IntWalk.i64_in, IntWalk.u64_in, IntWalk.u32_in, IntWalk.u8_in, IntWalk.toNatUp, IntWalk.iteOmega]); (try go_simp); rfl)
         simp only [Act.put, Act.eval, Array.getD_eq_getD_getElem?, List.getElem?_toArray, List.getElem?_cons_zero, List.getElem?_cons_succ, Option.getD_some, List.setIfInBounds_toArray, List.set_cons_succ, List.set_cons_zero]
        )
      | (refine lex_skip rfl ?_
         simp only [Act.put, Act.eval, Array.getD_eq_getD_getElem?, List.getElem?_toArray, List.getElem?_cons_zero, List.getElem?_cons_succ, Option.getD_some, List.setIfInBounds_toArray, List.set_cons_succ, List.set_cons_zero]
        ))
    refine lex_nil ?_
    refine wpList_append_room rfl (.tmp 22) (.tmp 25) 80 rfl 89 i0 1 und_slc hi hz1 g i _ _ (n - (i + 1)) _ rfl rfl L (xs.drop ((i + 1) * 1)) HG1.out hDl
      (fun hpos => by
        exact ⟨_, rfl, fun j v h => by rw [Addr.add_lit, HG1.out.cell]; rw [← HLt.out, List.getElem?_drop, List.getElem?_take] at h; split at h; (first | exact h | simpa using h); cases h⟩) (fun v hv => H1x.out v (List.mem_of_mem_drop hv)) hroom hfit ?_
    intro w3 hr4 hx4
    simp only [Act.put, Act.eval, Array.getD_eq_getD_getElem?, List.getElem?_toArray, List.getElem?_cons_zero, List.getElem?_cons_succ, Option.getD_some, List.setIfInBounds_toArray, List.set_cons_succ, List.set_cons_zero]
    go_wp2_with (refine wpList_clear_k rfl (.tmp 31) 80 rfl 89 i0 (.slice none 0 0) 1 und_slc hi hz0 rfl (by decide) (by decide) g ((i + (n - (i + 1)))) (n - (i + (n - (i + 1)))) _ rfl 89 _ hr4 hfit2 ?_; intro w5 zs hzl hr5 hx5)
    go_ret
    refine ⟨by rw [show i + (n - (i + 1)) = n - 1 by omega]; rfl, ?_, ?_⟩
    · refine owns_of_row hr5 ?_ (by omega) hcm ?_ hgB
      · rw [length_splice _ _ _ (by rw [hzl]; exact hfit2), length_splice _ _ _ hfit, HLl.out]
      · have := delete_in (L := L) (xs := xs) (zs := zs) (a := i * 1) (b := (i + 1) * 1) (N := _) HLt.out hxl (by omega) (by omega) (by rw [HLl.out]; omega) (by rw [hzl]; omega)
        first | rw [← this] | (simp only [Nat.add_sub_cancel] at this ⊢; rw [← this])
        congr 1
        · omega
        · congr 1
          omega
    · have e1 : Ext (· = g) w W := Ext.of_below hW
      have e2 : Ext (· = g) w w3 := e1.trans hx4 (fun k hk h => h)
      exact e2.trans hx5 (fun k hk h => h)
end Go.Proofs.Ytagcohpghgnalaa.RU
