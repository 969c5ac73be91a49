/-
  Closed facts on the slice type []pages.entry[uint64].
-/
import Derived.Test.YtagcohpghgnalaaRows
import Derived.Test.YtagcohpghgnalaaCGA
import Derived.Test.YtagcohpghgnalaaCW0
import Derived.Lib.Overlaps
import Derived.LoopN
set_option linter.unusedSimpArgs false
set_option linter.unusedVariables false
namespace Go.Proofs.Ytagcohpghgnalaa.EU
open Go.RowKit Go.RG Go.Hp Go.Proofs.Ytagcohpghgnalaa


theorem und_slc : Try.prog.underlying 89 = some (.slice 92) := by kernel_rfl
theorem info_elm : (Try.prog.info? 92).map (fun i => (i.zero, i.size, i.bytes)) = some (some (.agg #[.int .u64 0, .int .u64 0, .int .u64 0]), 3, 24) := by kernel_rfl

end Go.Proofs.Ytagcohpghgnalaa.EU
namespace Go.Proofs.Ytagcohpghgnalaa.EU
open Go.RowKit Go.RG Go.Hp Go.Proofs.Ytagcohpghgnalaa


theorem clone_any (ad : Addr) (n c : Nat) (cs : List Value) (hl : cs.length = n * 3) (h1 : ∀ v ∈ cs, v.oneCell' = true) (hn : n ≤ 1099511627776) (w : World)
    (hsrc : ∀ j u, cs[j]? = some u → w.cell? (ad.add j) = some u) :
    Calls Try.prog 51 #[.slice (some ad) n c] w fun e w' => ∃ v, e = .returned v ∧ w'.ownsRow w.heap.size 92 3 v n cs ∧ v ≠ .slice none 0 0 ∧ Below w.heap.size w w' := by
  obtain ⟨i0, hi, hz0, hz1, hz2⟩ := info_parts info_elm
  have he := fun w => Lib.run_eql_slice_nil (P := Try.prog) w 89 92 (some ad) n c 0 0 und_slc
  have hB0 := below_box w (.cells #[] 92)
  have Hsrc := Lib.hid hsrc; clear hsrc
  go_enter Try.func51, Try.ntmps51
  have c1 : ∀ j u, cs[j]? = some u → (w.alloc (.cells #[] 92)).cell? (ad.add j) = some u := fun j u h => below_cell hB0 (Hsrc.out j u h)
  have C1 := Lib.hid c1; clear c1
  have c2 : 0 + n ≤ maxLen := by unfold maxLen; omega
  have c3 : (0 + n) * 24 ≤ 140737488355328 := by omega
  have c4 : w.heap.size ≤ (w.alloc (.cells #[] 92)).heap.size := by simp
  go_wp2_with (at_builtin; refine wpList_append_own _ rfl _ _ 89 rfl w.heap.size 92 i0 (.agg #[.int .u64 0, .int .u64 0, .int .u64 0]) 3 24 und_slc hi hz0 hz1 hz2 rfl (by decide) _ _ _ rfl (World.ownsRow_made w #[] 0 (Nat.le_refl _) (Nat.zero_le _) rfl) ad n c cs rfl hl C1.out h1 c2 c3 c4 ?_; intro v' w1 hown hgrow hnil)
  go_ret
  refine ⟨v', rfl, by simpa using hown, (fun h => by cases (hnil.1 h).1), ?_⟩
  exact (hB0.trans ((Below.refl _ _).grown hgrow (by simp) (fun k hk => by injection hk with hk; subst hk; exact Nat.le_refl _)))
end Go.Proofs.Ytagcohpghgnalaa.EU
namespace Go.Proofs.Ytagcohpghgnalaa.EU
open Go.RowKit Go.RG Go.Hp Go.Proofs.Ytagcohpghgnalaa


theorem und_int : Try.prog.underlying 3 = some (.int .i64) := by kernel_rfl
theorem size_elm (w : World) : (Go.sizeOf 92).run Try.prog w = .ok 3 w := by kernel_rfl

theorem over_apart (w : World) (gv g o la ca lb cb : Nat) (vs L : List Value) (hv : Row w gv 92 vs) (hg : Row w g 92 L) (hne : gv ≠ g) (hL : L.length ≠ 0) :
    (callFunc 94 #[.slice (some ⟨gv, 0, none⟩) la ca, .slice (some ⟨g, o, none⟩) lb cb]).run Try.prog w = .ok (.value (.bool false)) w := by
  rw [run_callFunc_extern Try.func94 (by kernel_rfl) (by kernel_rfl) (by kernel_rfl) (e := Extern.SlicesOverlaps.overlaps #[89, 89] #[4]) (by kernel_rfl),
    Lib.run_overlaps_apart w 89 4 92 und_slc 3 size_elm ⟨gv, 0, none⟩ ⟨g, o, none⟩ la ca lb cb hne 92 92 vs.length L.length (by unfold Row at hv; simp [World.shape?, hv]) (by unfold Row at hg; simp [World.shape?, hg]) hL (hv.frozen 0) (hv.frozen _)]
  rfl

/-- what Insert promises -/
def InsPost (B : Nat) (w : World) (g n i : Nat) (xs vs : List Value) (e : Ending) (w' : World) : Prop :=
  ∃ v, e = .returned v ∧ w'.ownsRow B 92 3 v (n + 1) (xs.take (i * 3) ++ (vs ++ xs.drop (i * 3))) ∧ Ext (· = g) w w'

set_option maxRecDepth 100000 in
theorem insert_end (B g n cap gv : Nat) (xs vs : List Value) (w : World) (hown : w.ownsRow B 92 3 (.slice (some ⟨g, 0, none⟩) n cap) n xs) (hB : B ≤ w.heap.size) (hn : n ≤ 549755813888)
    (hv : Row w gv 92 vs) (hvl : vs.length = 3) (h1v : ∀ v ∈ vs, v.oneCell' = true) :
    Calls Try.prog 52 #[.slice (some ⟨g, 0, none⟩) n cap, .int .i64 n, .slice (some ⟨gv, 0, none⟩) 1 1] w (InsPost B w g n n xs vs) := by
  obtain ⟨i0, hi, hz0, hz1, hz2⟩ := info_parts info_elm
  have hxl := owns_length hown
  obtain ⟨L, hg, hLl, hLt, hnc, hcm⟩ := owns_row hown
  have Hown := Lib.hid hown; clear hown
  have Hv := Lib.hid hv; clear hv
  have hm1 : cap ≤ 9223372036854775807 := by simp only [maxLen] at hcm; omega
  have c1 : n + 1 ≤ maxLen := by unfold maxLen; omega
  have c2 : (n + 1) * 24 ≤ 140737488355328 := by omega
  have C3 : Hid (∀ j u, vs[j]? = some u → w.cell? ((⟨gv, 0, none⟩ : Addr).add j) = some u) := fun j u h => by rw [Addr.add_lit, Nat.zero_add, Hv.out.cell]; exact h
  have H1v := Lib.hid h1v; clear h1v
  have hvl' : vs.length = 1 * 3 := by omega
  clear hLt
  go_enter Try.func52, Try.ntmps52
  go_wp2_with (at_builtin; refine wpList_append_own _ rfl _ _ 89 rfl B 92 i0 (.agg #[.int .u64 0, .int .u64 0, .int .u64 0]) 3 24 und_slc hi hz0 hz1 hz2 rfl (by decide) _ _ _ rfl Hown.out ⟨gv, 0, none⟩ 1 1 vs rfl hvl' C3.out H1v.out c1 c2 hB ?_; intro v' w1 hown' hgrow hnil)
  all_goals
    go_ret
    refine ⟨v', rfl, ?_, Ext.grown hgrow (fun k hk _ => by injection hk with hk; exact hk.symm)⟩
    rw [List.take_of_length_le (by omega), List.drop_of_length_le (by omega), List.append_nil]
    exact hown'

set_option maxRecDepth 100000 in
theorem insert_grow (B g n cap i gv : Nat) (xs vs : List Value) (w : World) (hown : w.ownsRow B 92 3 (.slice (some ⟨g, 0, none⟩) n cap) n xs) (hB : B ≤ w.heap.size) (hn : n ≤ 549755813888) (hin : i < n) (hroom : cap < n + 1)
    (hv : Row w gv 92 vs) (hvl : vs.length = 3) (h1v : ∀ v ∈ vs, v.oneCell' = true) (h1x : ∀ v ∈ xs, v.oneCell' = true) :
    Calls Try.prog 52 #[.slice (some ⟨g, 0, none⟩) n cap, .int .i64 i, .slice (some ⟨gv, 0, none⟩) 1 1] w (InsPost B w g n i xs vs) := by
  obtain ⟨i0, hi, hz0, hz1, hz2⟩ := info_parts info_elm
  have hxl := owns_length hown
  obtain ⟨L, hg, hLl, hLt, hnc, hcm⟩ := owns_row hown
  obtain rfl : cap = n := by omega
  have hgB := (hown.lt g rfl).1
  have Hg := Lib.hid hg; clear hg
  have HLt := Lib.hid hLt; clear hLt
  have HLl := Lib.hid hLl; clear hLl
  have Hv := Lib.hid hv; clear hv
  clear hown
  have hm1 : cap ≤ 9223372036854775807 := by simp only [maxLen] at hcm; omega
  have hci : ¬ cap = i := by omega
  have hii : (i : Int) ≤ (cap : Int) := by omega
  have hie : ((i : Int) == (cap : Int)) = false := by rw [beq_eq_false_iff_ne]; omega
  have hk : (cap : Int) + 1 - (i : Int) = ((cap + 1 - i : Nat) : Int) := by omega
  have Hk := Lib.hid hk; clear hk
  have c1 : i * 3 ≤ L.length := by rw [HLl.out]; omega
  have c2 : 0 < cap + 1 - i := by omega
  have c3 : cap < i + (cap + 1 - i) := by omega
  have c4 : i + (cap + 1 - i) ≤ maxLen := by unfold maxLen; omega
  have c5 : (i + (cap + 1 - i)) * 24 ≤ 140737488355328 := by omega
  have H1v := Lib.hid h1v; clear h1v
  have H1x := Lib.hid h1x; clear h1x
  go_enter Try.func52, Try.ntmps52
  have C2 : Hid (vs.length = Nat.min 1 (cap + 1 - i) * 3) := by
    show vs.length = min 1 (cap + 1 - i) * 3
    rw [hvl, show min 1 (cap + 1 - i) = 1 by omega]
  go_wp2_with first | (at_builtin; go_loud (refine wpList_append_zeros rfl (.tmp 34) (.tmp 39) 89 3 rfl 92 i0 (.agg #[.int .u64 0, .int .u64 0, .int .u64 0]) .i64 .i64 3 24 und_slc und_int hi hz0 hz1 hz2 rfl (by decide) g i cap (cap + 1 - i) rfl (congrArg (Value.int .i64) Hk.out) L Hg.out c1 c2 c3 c4 c5 ?_; intro w1 L1 cap1 hr1 ht1 hl1 hc1 hm2 hb1; have HV1 := Lib.hid (Hv.out.below hb1); have d2 : i * 3 + vs.length ≤ L1.length := by rw [hl1, hvl]; omega)) | (refine wpList_copy_k rfl (.tmp 43) (.tmp 44) 89 89 rfl 92 i0 3 und_slc hi hz1 (some ⟨w.heap.size, i * 3, none⟩) (some ⟨gv, 0, none⟩) (cap + 1 - i) (cap1 - i) 1 1 rfl rfl w.heap.size (i * 3) 92 L1 vs hr1 C2.out (fun _ => ⟨rfl, _, rfl, fun j v h => by rw [Addr.add_lit, Nat.zero_add, HV1.out.cell]; exact h⟩) d2 H1v.out ?_; intro w2 hr2 hx2)
  have hgl := Hg.out.lt
  have HG2 := Lib.hid ((Hg.out.below hb1).ext hx2 (by omega))
  have hci1 : ¬ cap1 = i + 1 := by omega
  have hle1 : (i : Int) + 1 ≤ ((i + (cap + 1 - i) : Nat) : Int) := by omega
  clear hr1
  simp only [Act.put, Act.eval, Array.getD_eq_getD_getElem?, List.getElem?_toArray, List.getElem?_cons_zero, List.getElem?_cons_succ, Option.getD_some, List.setIfInBounds_toArray, List.set_cons_succ, List.set_cons_zero]
  refine wp_region_rg_tail 8 (fun _ => none) fol (by kernel_rfl) (fun W hW hh => ?_)
  have hr3 := hr2.below hW
  have HG3 := Lib.hid (HG2.out.below hW)
  clear hh hr2
  simp only [List.take_succ_cons, List.take_zero, List.drop_succ_cons, List.drop_zero]
  repeat (first
    | (refine lex_move _ (by first | exact Or.inl rfl | exact Or.inr rfl) rfl rfl ?_
       simp only [Act.put, Act.eval, Array.getD_eq_getD_getElem?, List.getElem?_toArray, List.getElem?_cons_zero, List.getElem?_cons_succ, Option.getD_some, List.setIfInBounds_toArray, List.set_cons_succ, List.set_cons_zero]
      )
    | (refine lex_float ?_ rfl rfl (fun w1 hb1 hf1 => ?_) ?_
       rotate_left
       (go_simp; (try simp (disch := omega) only [IntWalk.i64_quo, IntWalk.rem_in, IntWalk.i64_in, IntWalk.u64_in, IntWalk.u32_in, IntWalk.u8_in, IntWalk.toNatUp, IntWalk.iteOmega]); (try go_simp); rfl)
       simp only [Act.put, Act.eval, Array.getD_eq_getD_getElem?, List.getElem?_toArray, List.getElem?_cons_zero, List.getElem?_cons_succ, Option.getD_some, List.setIfInBounds_toArray, List.set_cons_succ, List.set_cons_zero]
      )
    | (refine lex_skip rfl ?_
       simp only [Act.put, Act.eval, Array.getD_eq_getD_getElem?, List.getElem?_toArray, List.getElem?_cons_zero, List.getElem?_cons_succ, Option.getD_some, List.setIfInBounds_toArray, List.set_cons_succ, List.set_cons_zero]
      ))
  refine lex_nil ?_
  have hmin : (xs.drop (i * 3)).length = Nat.min (cap - i) (i + (cap + 1 - i) - (i + 1)) * 3 := by
    show _ = min _ _ * 3
    rw [List.length_drop, hxl, show min (cap - i) (i + (cap + 1 - i) - (i + 1)) = cap - i by omega]
    omega
  have hspl : (splice L1 (i * 3) vs).length = cap1 * 3 := by rw [length_splice _ _ _ d2, hl1]
  have hfit : (i + 1) * 3 + (xs.drop (i * 3)).length ≤ (splice L1 (i * 3) vs).length := by
    rw [hspl, List.length_drop, hxl]; omega
  refine wpList_copy_k rfl (.tmp 50) (.tmp 53) 89 89 rfl 92 i0 3 und_slc hi hz1 (some ⟨w.heap.size, (i + 1) * 3, none⟩) (some ⟨g, i * 3, none⟩) _ _ _ _ rfl rfl w.heap.size ((i + 1) * 3) 92 _ (xs.drop (i * 3)) hr3 hmin
    (fun _ => ⟨rfl, _, rfl, fun j v h => by
      rw [Addr.add_lit, HG3.out.cell]
      rw [← HLt.out, List.getElem?_drop, List.getElem?_take] at h
      split at h
      · exact h
      · cases h⟩) hfit (fun v hv => H1x.out v (List.mem_of_mem_drop hv)) ?_
  intro w3 hr4 hx4
  have Hr4 := Lib.hid hr4; clear hr4 hr3 hmin hfit
  simp only [Act.put, Act.eval, Array.getD_eq_getD_getElem?, List.getElem?_toArray, List.getElem?_cons_zero, List.getElem?_cons_succ, Option.getD_some, List.setIfInBounds_toArray, List.set_cons_succ, List.set_cons_zero]
  go_wp2_with fail
  go_ret
  refine ⟨_, rfl, ?_, ?_⟩
  · rw [show i + (cap + 1 - i) = cap + 1 by omega]
    refine owns_of_row Hr4.out ?_ (by omega) hm2 ?_ hB
    · rw [length_splice _ _ _ (by rw [hspl, List.length_drop, hxl]; omega), hspl]
    · have := insert_new (L := L1) (xs := xs) (vs := vs) (a := i * 3) (N := cap * 3) (by rw [ht1, ← HLt.out, List.take_take, show min (i * 3) (cap * 3) = i * 3 by omega]) hxl (by omega) (by rw [hl1, hvl]; omega)
      rw [← this, hvl]
      congr 1
      · omega
      · congr 1
        omega
  · have e1 : Ext (· = g) w w1 := Ext.of_below hb1
    have e2 : Ext (· = g) w w2 := e1.trans hx2 (fun k hk h => by omega)
    have e3 : Ext (· = g) w W := e2.trans (Ext.of_below (S := (· = g)) hW) (fun k hk h => h)
    exact e3.trans hx4 (fun k hk h => by omega)

set_option maxRecDepth 100000 in
theorem insert_room (B g n cap i gv : Nat) (xs vs : List Value) (w : World) (hown : w.ownsRow B 92 3 (.slice (some ⟨g, 0, none⟩) n cap) n xs) (hn : n ≤ 549755813888) (hin : i < n) (hroom : n + 1 ≤ cap)
    (hv : Row w gv 92 vs) (hne : gv ≠ g) (hvl : vs.length = 3) (h1v : ∀ v ∈ vs, v.oneCell' = true) (h1x : ∀ v ∈ xs, v.oneCell' = true) :
    Calls Try.prog 52 #[.slice (some ⟨g, 0, none⟩) n cap, .int .i64 i, .slice (some ⟨gv, 0, none⟩) 1 1] w (InsPost B w g n i xs vs) := by
  obtain ⟨i0, hi, hz0, hz1, hz2⟩ := info_parts info_elm
  have hxl := owns_length hown
  obtain ⟨L, hg, hLl, hLt, hnc, hcm⟩ := owns_row hown
  have hgB := (hown.lt g rfl).1
  have hov := fun lb cb => over_apart w gv g ((i + 1) * 3) 1 1 lb cb vs L hv hg hne (by omega)
  have Hg := Lib.hid hg; clear hg
  have HLt := Lib.hid hLt; clear hLt
  have HLl := Lib.hid hLl; clear hLl
  have Hv := Lib.hid hv; clear hv
  clear hown
  have hm1 : cap ≤ 9223372036854775807 := by simp only [maxLen] at hcm; omega
  have hci : ¬ cap = i := by omega
  have hci1 : ¬ cap = i + 1 := by omega
  have hii : (i : Int) ≤ (n : Int) := by omega
  have hie : ((i : Int) == (n : Int)) = false := by rw [beq_eq_false_iff_ne]; omega
  have hin1 : (n : Int) + 1 ≤ (cap : Int) := by omega
  have H1v := Lib.hid h1v; clear h1v
  have H1x := Lib.hid h1x; clear h1x
  go_enter Try.func52, Try.ntmps52
  go_wp2_with (simp only [hov])
  clear hov
  refine wp_region_rg_tail 8 (fun _ => none) fol (by kernel_rfl) (fun W hW hh => ?_)
  have HG1 := Lib.hid (Hg.out.below hW)
  have HV1 := Lib.hid (Hv.out.below hW)
  clear hh
  simp only [List.take_succ_cons, List.take_zero, List.drop_succ_cons, List.drop_zero]
  repeat (first
    | (refine lex_move _ (by first | exact Or.inl rfl | exact Or.inr rfl) rfl rfl ?_
       simp only [Act.put, Act.eval, Array.getD_eq_getD_getElem?, List.getElem?_toArray, List.getElem?_cons_zero, List.getElem?_cons_succ, Option.getD_some, List.setIfInBounds_toArray, List.set_cons_succ, List.set_cons_zero]
      )
    | (refine lex_float ?_ rfl rfl (fun w1 hb1 hf1 => ?_) ?_
       rotate_left
       (go_simp; (try simp (disch := omega) only [IntWalk.i64_quo, IntWalk.rem_in, IntWalk.i64_in, IntWalk.u64_in, IntWalk.u32_in, IntWalk.u8_in, IntWalk.toNatUp, IntWalk.iteOmega]); (try go_simp); rfl)
       simp only [Act.put, Act.eval, Array.getD_eq_getD_getElem?, List.getElem?_toArray, List.getElem?_cons_zero, List.getElem?_cons_succ, Option.getD_some, List.setIfInBounds_toArray, List.set_cons_succ, List.set_cons_zero]
      )
    | (refine lex_skip rfl ?_
       simp only [Act.put, Act.eval, Array.getD_eq_getD_getElem?, List.getElem?_toArray, List.getElem?_cons_zero, List.getElem?_cons_succ, Option.getD_some, List.setIfInBounds_toArray, List.set_cons_succ, List.set_cons_zero]
      ))
  refine lex_nil ?_
  have hmin : (xs.drop (i * 3)).length = Nat.min (n + 1 - i) (n - i) * 3 := by
    show _ = min _ _ * 3
    rw [List.length_drop, hxl, show min (n + 1 - i) (n - i) = n - i by omega]
    omega
  have hfit : (i + 1) * 3 + (xs.drop (i * 3)).length ≤ L.length := by
    rw [HLl.out, List.length_drop, hxl]; omega
  refine wpList_copy_k rfl (.tmp 73) (.tmp 76) 89 89 rfl 92 i0 3 und_slc hi hz1 (some ⟨g, (i + 1) * 3, none⟩) (some ⟨g, i * 3, none⟩) _ _ _ _ rfl rfl g ((i + 1) * 3) 92 L (xs.drop (i * 3)) HG1.out hmin
    (fun _ => ⟨rfl, _, rfl, fun j v h => by
      rw [Addr.add_lit, HG1.out.cell]
      rw [← HLt.out, List.getElem?_drop, List.getElem?_take] at h
      split at h
      · exact h
      · cases h⟩) hfit (fun v hv => H1x.out v (List.mem_of_mem_drop hv)) ?_
  intro w3 hr4 hx4
  have HV3 := Lib.hid (HV1.out.ext hx4 hne)
  have d2 : i * 3 + vs.length ≤ (splice L ((i + 1) * 3) (xs.drop (i * 3))).length := by
    rw [length_splice _ _ _ hfit, HLl.out, hvl]; omega
  have C2 : Hid (vs.length = Nat.min 1 (n + 1 - i) * 3) := by
    show vs.length = min 1 (n + 1 - i) * 3
    rw [hvl, show min 1 (n + 1 - i) = 1 by omega]
  simp only [Act.put, Act.eval, Array.getD_eq_getD_getElem?, List.getElem?_toArray, List.getElem?_cons_zero, List.getElem?_cons_succ, Option.getD_some, List.setIfInBounds_toArray, List.set_cons_succ, List.set_cons_zero]
  go_wp2_with (refine wpList_copy_k rfl (.tmp 80) (.tmp 81) 89 89 rfl 92 i0 3 und_slc hi hz1 (some ⟨g, i * 3, none⟩) (some ⟨gv, 0, none⟩) _ _ _ _ rfl rfl g (i * 3) 92 _ vs hr4 C2.out (fun _ => ⟨rfl, _, rfl, fun j v h => by rw [Addr.add_lit, Nat.zero_add, HV3.out.cell]; exact h⟩) d2 H1v.out ?_; intro w5 hr5 hx5)
  go_ret
  refine ⟨_, rfl, ?_, ?_⟩
  · refine owns_of_row hr5 ?_ hroom hcm ?_ hgB
    · rw [length_splice _ _ _ d2, length_splice _ _ _ hfit, HLl.out]
    · have := insert_in (L := L) (xs := xs) (vs := vs) (a := i * 3) (N := n * 3) HLt.out hxl (by omega) (by rw [HLl.out, hvl]; omega)
      rw [← this, hvl]
      congr 1
      · omega
      · congr 2
        omega
  · have e1 : Ext (· = g) w W := Ext.of_below hW
    have e2 : Ext (· = g) w w3 := e1.trans hx4 (fun k hk h => h)
    exact e2.trans hx5 (fun k hk h => h)

/-- slices.Insert of one element -/
theorem insert_any (B g n cap i gv : Nat) (xs vs : List Value) (w : World) (hown : w.ownsRow B 92 3 (.slice (some ⟨g, 0, none⟩) n cap) n xs) (hB : B ≤ w.heap.size) (hn : n ≤ 549755813888) (hin : i ≤ n)
    (hv : Row w gv 92 vs) (hne : gv ≠ g) (hvl : vs.length = 3) (h1v : ∀ v ∈ vs, v.oneCell' = true) (h1x : ∀ v ∈ xs, v.oneCell' = true) :
    Calls Try.prog 52 #[.slice (some ⟨g, 0, none⟩) n cap, .int .i64 i, .slice (some ⟨gv, 0, none⟩) 1 1] w (InsPost B w g n i xs vs) := by
  rcases Nat.eq_or_lt_of_le hin with rfl | h
  · exact insert_end B g i cap gv xs vs w hown hB hn hv hvl h1v
  · rcases Nat.lt_or_ge cap (n + 1) with h2 | h2
    · exact insert_grow B g n cap i gv xs vs w hown hB hn h h2 hv hvl h1v h1x
    · exact insert_room B g n cap i gv xs vs w hown hn h h2 hv hne hvl h1v h1x
end Go.Proofs.Ytagcohpghgnalaa.EU
namespace Go.Proofs.Ytagcohpghgnalaa.EU
open Go.RowKit Go.RG Go.Hp Go.Proofs.Ytagcohpghgnalaa


def DelPost (B : Nat) (w : World) (g n cap i : Nat) (xs : List Value) (e : Ending) (w' : World) : Prop :=
  e = .returned (.slice (some ⟨g, 0, none⟩) (n - 1) cap) ∧ w'.ownsRow B 92 3 (.slice (some ⟨g, 0, none⟩) (n - 1) cap) (n - 1) (xs.take (i * 3) ++ xs.drop ((i + 1) * 3)) ∧ Ext (· = g) w w'

set_option maxRecDepth 100000 in
theorem delete_any (B g n cap i : Nat) (xs : List Value) (w : World) (hown : w.ownsRow B 92 3 (.slice (some ⟨g, 0, none⟩) n cap) n xs) (hn : n ≤ 549755813888) (hin : i < n) (h1x : ∀ v ∈ xs, v.oneCell' = true) :
    Calls Try.prog 58 #[.slice (some ⟨g, 0, none⟩) n cap, .int .i64 i, .int .i64 ((i : Int) + 1)] w (DelPost B w g n cap i xs) := by
  obtain ⟨i0, hi, hz0, hz1, hz2⟩ := info_parts info_elm
  have hxl := owns_length hown
  obtain ⟨L, hg, hLl, hLt, hnc, hcm⟩ := owns_row hown
  have hgB := (hown.lt g rfl).1
  have Hg := Lib.hid hg; clear hg
  have HLt := Lib.hid hLt; clear hLt
  have HLl := Lib.hid hLl; clear hLl
  clear hown
  have hm1 : cap ≤ 9223372036854775807 := by simp only [maxLen] at hcm; omega
  have hii : (i : Int) + 1 ≤ (n : Int) := by omega
  have hie : ((i : Int) == (i : Int) + 1) = false := by rw [beq_eq_false_iff_ne]; omega
  have H1x := Lib.hid h1x; clear h1x
  have hci : ¬ cap = i := by omega
  by_cases hci1 : cap = i + 1
  · obtain rfl : n = i + 1 := by omega
    subst hci1
    have hDl : (xs.drop ((i + 1) * 3)).length = 0 * 3 := by rw [List.length_drop, hxl]; omega
    have hroom : i + 0 ≤ i + 1 := by omega
    have hfit : i * 3 + (xs.drop ((i + 1) * 3)).length ≤ L.length := by rw [hDl, HLl.out]; omega
    have hfit2 : (i + 0) * 3 + 1 * 3 ≤ (splice L (i * 3) (xs.drop ((i + 1) * 3))).length := by
      rw [length_splice _ _ _ hfit, HLl.out]; omega
    go_enter Try.func58, Try.ntmps58
    go_wp2_with fail
    refine wp_region_rg_tail 6 (fun _ => none) fol (by kernel_rfl) (fun W hW hh => ?_)
    have HG1 := Lib.hid (Hg.out.below hW)
    clear hh
    simp only [List.take_succ_cons, List.take_zero, List.drop_succ_cons, List.drop_zero]
    repeat (first
      | (refine lex_move _ (by first | exact Or.inl rfl | exact Or.inr rfl) rfl rfl ?_
         simp only [Act.put, Act.eval, Array.getD_eq_getD_getElem?, List.getElem?_toArray, List.getElem?_cons_zero, List.getElem?_cons_succ, Option.getD_some, List.setIfInBounds_toArray, List.set_cons_succ, List.set_cons_zero]
        )
      | (refine lex_float ?_ rfl rfl (fun w1 hb1 hf1 => ?_) ?_
         rotate_left
         (go_simp; (try simp (disch := omega) only [IntWalk.i64_quo, IntWalk.rem_in, IntWalk.i64_in, IntWalk.u64_in, IntWalk.u32_in, IntWalk.u8_in, IntWalk.toNatUp, IntWalk.iteOmega]); (try go_simp); rfl)
         simp only [Act.put, Act.eval, Array.getD_eq_getD_getElem?, List.getElem?_toArray, List.getElem?_cons_zero, List.getElem?_cons_succ, Option.getD_some, List.setIfInBounds_toArray, List.set_cons_succ, List.set_cons_zero]
        )
      | (refine lex_skip rfl ?_
         simp only [Act.put, Act.eval, Array.getD_eq_getD_getElem?, List.getElem?_toArray, List.getElem?_cons_zero, List.getElem?_cons_succ, Option.getD_some, List.setIfInBounds_toArray, List.set_cons_succ, List.set_cons_zero]
        ))
    refine lex_nil ?_
    refine wpList_append_room rfl (.tmp 22) (.tmp 25) 89 rfl 92 i0 3 und_slc hi hz1 g i _ _ (0) _ rfl rfl L (xs.drop ((i + 1) * 3)) HG1.out hDl
      (fun hpos => by
        omega) (fun v hv => H1x.out v (List.mem_of_mem_drop hv)) hroom hfit ?_
    intro w3 hr4 hx4
    simp only [Act.put, Act.eval, Array.getD_eq_getD_getElem?, List.getElem?_toArray, List.getElem?_cons_zero, List.getElem?_cons_succ, Option.getD_some, List.setIfInBounds_toArray, List.set_cons_succ, List.set_cons_zero]
    go_wp2_with (refine wpList_clear_k rfl (.tmp 31) 89 rfl 92 i0 (.agg #[.int .u64 0, .int .u64 0, .int .u64 0]) 3 und_slc hi hz0 rfl (by decide) (by decide) g ((i + (0)) * 3) (1) _ rfl 92 _ hr4 hfit2 ?_; intro w5 zs hzl hr5 hx5)
    go_ret
    refine ⟨rfl, ?_, ?_⟩
    · refine owns_of_row hr5 ?_ (by omega) hcm ?_ hgB
      · rw [length_splice _ _ _ (by rw [hzl]; exact hfit2), length_splice _ _ _ hfit, HLl.out]
      · have := delete_in (L := L) (xs := xs) (zs := zs) (a := i * 3) (b := (i + 1) * 3) (N := _) HLt.out hxl (by omega) (by omega) (by rw [HLl.out]; omega) (by rw [hzl]; omega)
        first | rw [← this] | (simp only [Nat.add_sub_cancel] at this ⊢; rw [← this])
        congr 1
        · omega
        · congr 1
          omega
    · have e1 : Ext (· = g) w W := Ext.of_below hW
      have e2 : Ext (· = g) w w3 := e1.trans hx4 (fun k hk h => h)
      exact e2.trans hx5 (fun k hk h => h)
  · have hDl : (xs.drop ((i + 1) * 3)).length = (n - (i + 1)) * 3 := by rw [List.length_drop, hxl]; omega
    have hroom : i + (n - (i + 1)) ≤ cap := by omega
    have hfit : i * 3 + (xs.drop ((i + 1) * 3)).length ≤ L.length := by rw [hDl, HLl.out]; omega
    have hfit2 : (i + (n - (i + 1))) * 3 + (n - (i + (n - (i + 1)))) * 3 ≤ (splice L (i * 3) (xs.drop ((i + 1) * 3))).length := by
      rw [length_splice _ _ _ hfit, HLl.out]; omega
    have hcn : ¬ cap = i + (n - (i + 1)) := by omega
    go_enter Try.func58, Try.ntmps58
    go_wp2_with fail
    refine wp_region_rg_tail 6 (fun _ => none) fol (by kernel_rfl) (fun W hW hh => ?_)
    have HG1 := Lib.hid (Hg.out.below hW)
    clear hh
    simp only [List.take_succ_cons, List.take_zero, List.drop_succ_cons, List.drop_zero]
    repeat (first
      | (refine lex_move _ (by first | exact Or.inl rfl | exact Or.inr rfl) rfl rfl ?_
         simp only [Act.put, Act.eval, Array.getD_eq_getD_getElem?, List.getElem?_toArray, List.getElem?_cons_zero, List.getElem?_cons_succ, Option.getD_some, List.setIfInBounds_toArray, List.set_cons_succ, List.set_cons_zero]
        )
      | (refine lex_float ?_ rfl rfl (fun w1 hb1 hf1 => ?_) ?_
         rotate_left
         (go_simp; (try simp (disch := omega) only [IntWalk.i64_quo, IntWalk.rem_in, IntWalk.i64_in, IntWalk.u64_in, IntWalk.u32_in, IntWalk.u8_in, IntWalk.toNatUp, IntWalk.iteOmega]); (try go_simp); rfl)
         simp only [Act.put, Act.eval, Array.getD_eq_getD_getElem?, List.getElem?_toArray, List.getElem?_cons_zero, List.getElem?_cons_succ, Option.getD_some, List.setIfInBounds_toArray, List.set_cons_succ, List.set_cons_zero]
        )
      | (refine lex_skip rfl ?_
         simp only [Act.put, Act.eval, Array.getD_eq_getD_getElem?, List.getElem?_toArray, List.getElem?_cons_zero, List.getElem?_cons_succ, Option.getD_some, List.setIfInBounds_toArray, List.set_cons_succ, List.set_cons_zero]
        ))
    refine lex_nil ?_
    refine wpList_append_room rfl (.tmp 22) (.tmp 25) 89 rfl 92 i0 3 und_slc hi hz1 g i _ _ (n - (i + 1)) _ rfl rfl L (xs.drop ((i + 1) * 3)) HG1.out hDl
      (fun hpos => by
        exact ⟨_, rfl, fun j v h => by rw [Addr.add_lit, HG1.out.cell]; rw [← HLt.out, List.getElem?_drop, List.getElem?_take] at h; split at h; (first | exact h | simpa using h); cases h⟩) (fun v hv => H1x.out v (List.mem_of_mem_drop hv)) hroom hfit ?_
    intro w3 hr4 hx4
    simp only [Act.put, Act.eval, Array.getD_eq_getD_getElem?, List.getElem?_toArray, List.getElem?_cons_zero, List.getElem?_cons_succ, Option.getD_some, List.setIfInBounds_toArray, List.set_cons_succ, List.set_cons_zero]
    go_wp2_with (refine wpList_clear_k rfl (.tmp 31) 89 rfl 92 i0 (.agg #[.int .u64 0, .int .u64 0, .int .u64 0]) 3 und_slc hi hz0 rfl (by decide) (by decide) g ((i + (n - (i + 1))) * 3) (n - (i + (n - (i + 1)))) _ rfl 92 _ hr4 hfit2 ?_; intro w5 zs hzl hr5 hx5)
    go_ret
    refine ⟨by rw [show i + (n - (i + 1)) = n - 1 by omega]; rfl, ?_, ?_⟩
    · refine owns_of_row hr5 ?_ (by omega) hcm ?_ hgB
      · rw [length_splice _ _ _ (by rw [hzl]; exact hfit2), length_splice _ _ _ hfit, HLl.out]
      · have := delete_in (L := L) (xs := xs) (zs := zs) (a := i * 3) (b := (i + 1) * 3) (N := _) HLt.out hxl (by omega) (by omega) (by rw [HLl.out]; omega) (by rw [hzl]; omega)
        first | rw [← this] | (simp only [Nat.add_sub_cancel] at this ⊢; rw [← this])
        congr 1
        · omega
        · congr 1
          omega
    · have e1 : Ext (· = g) w W := Ext.of_below hW
      have e2 : Ext (· = g) w w3 := e1.trans hx4 (fun k hk h => h)
      exact e2.trans hx5 (fun k hk h => h)
end Go.Proofs.Ytagcohpghgnalaa.EU
namespace Go.Proofs.Ytagcohpghgnalaa.EU
open Go.RowKit Go.RG Go.Hp Go.Proofs.Ytagcohpghgnalaa


theorem und_int' : Try.prog.underlying 3 = some (.int .i64) := by kernel_rfl

set_option maxRecDepth 100000 in
theorem grow_nil (n : Nat) (h0 : 0 < n) (hn : n ≤ 1099511627776) (w : World) :
    Calls Try.prog 106 #[.slice none 0 0, .int .i64 n] w fun e w' => ∃ cap', e = .returned (.slice (some ⟨w.heap.size, 0, none⟩) 0 cap') ∧ n ≤ cap' ∧ cap' ≤ maxLen ∧
      w'.ownsRow w.heap.size 92 3 (.slice (some ⟨w.heap.size, 0, none⟩) 0 cap') 0 [] ∧ Below w.heap.size w w' := by
  obtain ⟨i0, hi, hz0, hz1, hz2⟩ := info_parts info_elm
  have hn1 : (0 : Int) < (n : Int) := by omega
  have c1 : n ≤ maxLen := by unfold maxLen; omega
  have c2 : n * 24 ≤ 140737488355328 := by omega
  go_enter Try.func106, Try.ntmps106
  go_wp2_with (at_builtin; go_loud (refine wpList_append_nil_zeros rfl (.tmp 20) (.tmp 21) 89 3 rfl 92 i0 (.agg #[.int .u64 0, .int .u64 0, .int .u64 0]) .i64 .i64 3 24 und_slc und_int' hi hz0 hz1 hz2 rfl (by decide) n rfl rfl h0 c1 c2 ?_; intro w1 L1 cap1 hr1 hl1 hc1 hm1 hb1; have hm2 : cap1 ≤ 9223372036854775807 := (by simp only [maxLen] at hm1; omega); have HR1 := Lib.hid hr1; clear hr1))
  go_ret
  exact ⟨cap1, rfl, hc1, hm1, owns_of_row HR1.out hl1 (Nat.zero_le _) hm1 (by simp) (Nat.le_refl _), hb1⟩

set_option maxRecDepth 100000 in
theorem concat_two (gv cv ga na ca gb nb cb : Nat) (xs ys : List Value) (w : World) (h0 : w.cell? ⟨gv, 0, none⟩ = some (.slice (some ⟨ga, 0, none⟩) na ca)) (h1 : w.cell? ⟨gv, 1, none⟩ = some (.slice (some ⟨gb, 0, none⟩) nb cb))
    (hxl : xs.length = na * 3) (hyl : ys.length = nb * 3) (hx : ∀ j u, xs[j]? = some u → w.cell? ⟨ga, j, none⟩ = some u) (hy : ∀ j u, ys[j]? = some u → w.cell? ⟨gb, j, none⟩ = some u)
    (h1x : ∀ v ∈ xs, v.oneCell' = true) (h1y : ∀ v ∈ ys, v.oneCell' = true) (hna : 0 < na) (hn : na + nb ≤ 549755813888) :
    Calls Try.prog 61 #[.slice (some ⟨gv, 0, none⟩) 2 cv] w fun e w' => ∃ v, e = .returned v ∧ w'.ownsRow w.heap.size 92 3 v (na + nb) (xs ++ ys) ∧ Below w.heap.size w w' := by
  obtain ⟨i0, hi, hz0, hz1, hz2⟩ := info_parts info_elm
  have b0 := block_lt_of_cell h0
  have Hx := Lib.hid hx; clear hx
  have Hy := Lib.hid hy; clear hy
  have H1x := Lib.hid h1x; clear h1x
  have H1y := Lib.hid h1y; clear h1y
  have Hxl := Lib.hid hxl; clear hxl
  have Hyl := Lib.hid hyl; clear hyl
  have G := Lib.hid (grow_nil (na + nb) (by omega) (by omega))
  go_enter Try.func61, Try.ntmps61
  go_wp2_with fail
  refine wp_loop_rounds 3 ?_
  rw [rounds_succ]
  go_wp2_with fail
  rw [rounds_succ]
  go_wp2_with fail
  rw [rounds_succ]
  go_wp2_with fail
  rw [show (na : Int) + (nb : Int) = ((na + nb : Nat) : Int) by omega]
  refine (G.out w).mono ?_
  rintro e w1 ⟨cap1, rfl, hc1, hm1, hown, hb1⟩
  have k0 := below_cell hb1 h0
  have k1 := below_cell hb1 h1
  have Hown := Lib.hid hown; clear hown
  have hs1 := hb1.size
  have c1 : 0 + na ≤ maxLen := by unfold maxLen; omega
  have c2 : (0 + na) * 24 ≤ 140737488355328 := by omega
  have c3 : 0 + na + nb ≤ maxLen := by unfold maxLen; omega
  have c4 : (0 + na + nb) * 24 ≤ 140737488355328 := by omega
  have X1 : Hid (∀ j u, xs[j]? = some u → w1.cell? ((⟨ga, 0, none⟩ : Addr).add j) = some u) := fun j u h => by rw [Addr.add_lit, Nat.zero_add]; exact below_cell hb1 (Hx.out j u h)
  go_wp2_with fail
  refine wp_loop_rounds 3 ?_
  rw [rounds_succ]
  go_wp2_with (at_builtin; go_loud (refine wpList_append_own _ rfl _ _ 89 rfl w.heap.size 92 i0 (.agg #[.int .u64 0, .int .u64 0, .int .u64 0]) 3 24 und_slc hi hz0 hz1 hz2 rfl (by decide) _ _ _ rfl Hown.out ⟨ga, 0, none⟩ na ca xs rfl Hxl.out X1.out H1x.out c1 c2 hs1 ?_; intro v2 w2 hown2 hg2 hnil2; clear hnil2; have Hg2 := Lib.hid (show w1.grownBy w2 (some w.heap.size) from hg2); have Hown2 := Lib.hid hown2; clear hown2 hg2))
  have hb2 : Below w.heap.size w w2 := hb1.trans ((Below.refl _ _).grown Hg2.out hs1 (fun k hk => by injection hk with hk; omega))
  have hs2 := hb2.size
  have m0 := below_cell hb2 h0
  have m1 := below_cell hb2 h1
  have Y1 : Hid (∀ j u, ys[j]? = some u → w2.cell? ((⟨gb, 0, none⟩ : Addr).add j) = some u) := fun j u h => by rw [Addr.add_lit, Nat.zero_add]; exact below_cell hb2 (Hy.out j u h)
  rw [rounds_succ]
  go_wp2_with (at_builtin; go_loud (refine wpList_append_own _ rfl _ _ 89 rfl w.heap.size 92 i0 (.agg #[.int .u64 0, .int .u64 0, .int .u64 0]) 3 24 und_slc hi hz0 hz1 hz2 rfl (by decide) _ _ _ rfl Hown2.out ⟨gb, 0, none⟩ nb cb ys rfl Hyl.out Y1.out H1y.out c3 c4 hs2 ?_; intro v3 w3 hown3 hg3 hnil3; clear hnil3; have Hg3 := Lib.hid (show w2.grownBy w3 v2.ownBlock from hg3); have Hown3 := Lib.hid hown3; clear hown3 hg3))
  rw [rounds_succ]
  go_wp2_with fail
  go_ret
  refine ⟨v3, rfl, ?_, ?_⟩
  · have := Hown3.out
    simpa using this
  · exact hb2.trans ((Below.refl _ _).grown Hg3.out hs2 (fun k hk => (Hown2.out.lt k hk).1))
end Go.Proofs.Ytagcohpghgnalaa.EU
