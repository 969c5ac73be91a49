/-
  The walk of slices.Delete of one element of a row of the caller's own, at []string.
-/
import Derived.Test.YtbjofbhhnmehgaaGreatDoorCKNz5
import Derived.Lib.ConvBytes
import Derived.Test.YtbjofbhhnmehgaaGreatDoorCKNz1
set_option linter.unusedSimpArgs false
set_option linter.unusedVariables false
namespace Go.Proofs.YtbjofbhhnmehgaaGreatDoor.SS
open Go.RowKit Go.RG Go.Hp Go.Proofs.YtbjofbhhnmehgaaGreatDoor



def DelPost (B : Nat) (w : World) (g n cap i : Nat) (xs : List Value) (e : Ending) (w' : World) : Prop :=
  e = .returned (.slice (some ⟨g, 0, none⟩) (n - 1) cap) ∧ w'.ownsRow B 9 1 (.slice (some ⟨g, 0, none⟩) (n - 1) cap) (n - 1) (xs.take (i * 1) ++ xs.drop ((i + 1) * 1)) ∧ Ext (· = g) w w'

set_option maxRecDepth 100000 in
theorem delete_any (B g n cap i : Nat) (xs : List Value) (w : World) (hown : w.ownsRow B 9 1 (.slice (some ⟨g, 0, none⟩) n cap) n xs) (hn : n ≤ 549755813888) (hin : i < n) (h1x : ∀ v ∈ xs, v.oneCell' = true) :
    Calls Tryz.prog 107 #[.slice (some ⟨g, 0, none⟩) n cap, .int .i64 i, .int .i64 ((i : Int) + 1)] w (DelPost B w g n cap i xs) := by
  obtain ⟨i0, hi, hz0, hz1, hz2⟩ := info_parts info_elm
  have hxl := owns_length hown
  obtain ⟨L, hg, hLl, hLt, hnc, hcm⟩ := owns_row hown
  have hgB := (hown.lt g rfl).1
  have Hg := Lib.hid hg; clear hg
  have HLt := Lib.hid hLt; clear hLt
  have HLl := Lib.hid hLl; clear hLl
  clear hown
  have hm1 : cap ≤ 9223372036854775807 := by simp only [maxLen] at hcm; omega
  have hii : (i : Int) + 1 ≤ (n : Int) := by omega
  have hie : ((i : Int) == (i : Int) + 1) = false := by rw [beq_eq_false_iff_ne]; omega
  have H1x := Lib.hid h1x; clear h1x
  have hci : ¬ cap = i := by omega
  by_cases hci1 : cap = i + 1
  · obtain rfl : n = i + 1 := by omega
    subst hci1
    have hDl : (xs.drop ((i + 1) * 1)).length = 0 * 1 := by rw [List.length_drop, hxl]; omega
    have hroom : i + 0 ≤ i + 1 := by omega
    have hfit : i * 1 + (xs.drop ((i + 1) * 1)).length ≤ L.length := by rw [hDl, HLl.out]; omega
    have hfit2 : (i + 0) + 1 * 1 ≤ (splice L (i * 1) (xs.drop ((i + 1) * 1))).length := by
      rw [length_splice _ _ _ hfit, HLl.out]; omega
    go_enter Tryz.func107, Tryz.ntmps107
    go_wp2_with fail
    refine wp_region_rg_tail 6 (fun _ => none) fol (by kernel_rfl) (fun W hW hh => ?_)
    have HG1 := Lib.hid (Hg.out.below hW)
    clear hh
    simp only [List.take_succ_cons, List.take_zero, List.drop_succ_cons, List.drop_zero]
    repeat ((first | refine lex_move _ (by first | exact Or.inl rfl | exact Or.inr rfl) rfl rfl ?_ | (refine lex_float ?_ rfl rfl (fun w1 hb1 hf1 => ?_) ?_; rotate_left; (go_simp; (try simp (disch := omega) only [IntWalk.i64_quo, IntWalk.rem_in, IntWalk.i64_in, IntWalk.u64_in, IntWalk.u32_in, IntWalk.u8_in, IntWalk.toNatUp, IntWalk.iteOmega]); (try go_simp); rfl)) | refine lex_skip rfl ?_); simp only [Act.put, Act.eval, Array.getD_eq_getD_getElem?, List.getElem?_toArray, List.getElem?_cons_zero, List.getElem?_cons_succ, Option.getD_some, List.setIfInBounds_toArray, List.set_cons_succ, List.set_cons_zero])
    refine lex_nil ?_
    refine wpList_append_room rfl (.tmp 22) (.tmp 25) 73 rfl 9 i0 1 und_slc hi hz1 g i _ _ (0) _ rfl rfl L (xs.drop ((i + 1) * 1)) HG1.out hDl
      (fun hpos => by
        omega) (fun v hv => H1x.out v (List.mem_of_mem_drop hv)) hroom hfit ?_
    intro w3 hr4 hx4
    simp only [Act.put, Act.eval, Array.getD_eq_getD_getElem?, List.getElem?_toArray, List.getElem?_cons_zero, List.getElem?_cons_succ, Option.getD_some, List.setIfInBounds_toArray, List.set_cons_succ, List.set_cons_zero]
    go_wp2_with (refine wpList_clear_k rfl (.tmp 31) 73 rfl 9 i0 (.string .empty) 1 und_slc hi hz0 rfl (by decide) (by decide) g ((i + (0))) (1) _ rfl 9 _ hr4 hfit2 ?_; intro w5 zs hzl hr5 hx5)
    go_ret
    refine ⟨rfl, ?_, ?_⟩
    · refine owns_of_row hr5 ?_ (by omega) hcm ?_ hgB
      · rw [length_splice _ _ _ (by rw [hzl]; exact hfit2), length_splice _ _ _ hfit, HLl.out]
      · have := delete_in (L := L) (xs := xs) (zs := zs) (a := i * 1) (b := (i + 1) * 1) (N := _) HLt.out hxl (by omega) (by omega) (by rw [HLl.out]; omega) (by rw [hzl]; omega)
        first | rw [← this] | (simp only [Nat.add_sub_cancel] at this ⊢; rw [← this])
        congr 1
        · omega
        · congr 1
          omega
    · have e1 : Ext (· = g) w W := Ext.of_below hW
      have e2 : Ext (· = g) w w3 := e1.trans hx4 (fun k hk h => h)
      exact e2.trans hx5 (fun k hk h => h)
  · have hDl : (xs.drop ((i + 1) * 1)).length = (n - (i + 1)) * 1 := by rw [List.length_drop, hxl]; omega
    have hroom : i + (n - (i + 1)) ≤ cap := by omega
    have hfit : i * 1 + (xs.drop ((i + 1) * 1)).length ≤ L.length := by rw [hDl, HLl.out]; omega
    have hfit2 : (i + (n - (i + 1))) + (n - (i + (n - (i + 1)))) * 1 ≤ (splice L (i * 1) (xs.drop ((i + 1) * 1))).length := by
      rw [length_splice _ _ _ hfit, HLl.out]; omega
    have hcn : ¬ cap = i + (n - (i + 1)) := by omega
    go_enter Tryz.func107, Tryz.ntmps107
    go_wp2_with fail
    refine wp_region_rg_tail 6 (fun _ => none) fol (by kernel_rfl) (fun W hW hh => ?_)
    have HG1 := Lib.hid (Hg.out.below hW)
    clear hh
    simp only [List.take_succ_cons, List.take_zero, List.drop_succ_cons, List.drop_zero]
    repeat ((first | refine lex_move _ (by first | exact Or.inl rfl | exact Or.inr rfl) rfl rfl ?_ | (refine lex_float ?_ rfl rfl (fun w1 hb1 hf1 => ?_) ?_; rotate_left; (go_simp; (try simp (disch := omega) only [IntWalk.i64_quo, IntWalk.rem_in, IntWalk.i64_in, IntWalk.u64_in, IntWalk.u32_in, IntWalk.u8_in, IntWalk.toNatUp, IntWalk.iteOmega]); (try go_simp); rfl)) | refine lex_skip rfl ?_); simp only [Act.put, Act.eval, Array.getD_eq_getD_getElem?, List.getElem?_toArray, List.getElem?_cons_zero, List.getElem?_cons_succ, Option.getD_some, List.setIfInBounds_toArray, List.set_cons_succ, List.set_cons_zero])
    refine lex_nil ?_
    refine wpList_append_room rfl (.tmp 22) (.tmp 25) 73 rfl 9 i0 1 und_slc hi hz1 g i _ _ (n - (i + 1)) _ rfl rfl L (xs.drop ((i + 1) * 1)) HG1.out hDl
      (fun hpos => by
        exact ⟨_, rfl, fun j v h => by rw [Addr.add_lit, HG1.out.cell]; rw [← HLt.out, List.getElem?_drop, List.getElem?_take] at h; split at h; (first | exact h | simpa using h); cases h⟩) (fun v hv => H1x.out v (List.mem_of_mem_drop hv)) hroom hfit ?_
    intro w3 hr4 hx4
    simp only [Act.put, Act.eval, Array.getD_eq_getD_getElem?, List.getElem?_toArray, List.getElem?_cons_zero, List.getElem?_cons_succ, Option.getD_some, List.setIfInBounds_toArray, List.set_cons_succ, List.set_cons_zero]
    go_wp2_with (refine wpList_clear_k rfl (.tmp 31) 73 rfl 9 i0 (.string .empty) 1 und_slc hi hz0 rfl (by decide) (by decide) g ((i + (n - (i + 1)))) (n - (i + (n - (i + 1)))) _ rfl 9 _ hr4 hfit2 ?_; intro w5 zs hzl hr5 hx5)
    go_ret
    refine ⟨by rw [show i + (n - (i + 1)) = n - 1 by omega]; rfl, ?_, ?_⟩
    · refine owns_of_row hr5 ?_ (by omega) hcm ?_ hgB
      · rw [length_splice _ _ _ (by rw [hzl]; exact hfit2), length_splice _ _ _ hfit, HLl.out]
      · have := delete_in (L := L) (xs := xs) (zs := zs) (a := i * 1) (b := (i + 1) * 1) (N := _) HLt.out hxl (by omega) (by omega) (by rw [HLl.out]; omega) (by rw [hzl]; omega)
        first | rw [← this] | (simp only [Nat.add_sub_cancel] at this ⊢; rw [← this])
        congr 1
        · omega
        · congr 1
          omega
    · have e1 : Ext (· = g) w W := Ext.of_below hW
      have e2 : Ext (· = g) w w3 := e1.trans hx4 (fun k hk h => h)
      exact e2.trans hx5 (fun k hk h => h)
end Go.Proofs.YtbjofbhhnmehgaaGreatDoor.SS
namespace Go.Proofs.YtbjofbhhnmehgaaGreatDoor.TT
open Go.RowKit Go.RG Go.Hp Go.Proofs.YtbjofbhhnmehgaaGreatDoor


def TblS.change (T : TblS) (c : Chg) : TblS := { T with ps := chgP T.ps c, live := liveN (chgP T.ps c) }
theorem pairN_pos (k v : List Int) : 2 ≤ pairN k v := by
  unfold pairN lenText
  obtain ⟨a, h1, -⟩ := sdnv_spec k.length
  obtain ⟨b, h2, -⟩ := sdnv_spec v.length
  simp only [List.length_append, u8s_length, h1, h2]
  omega
theorem len_live : ∀ (ps : List Pr), 2 * ps.length ≤ liveN ps
  | [] => by simp [liveN]
  | p :: ps => by
    have := len_live ps
    have := pairN_pos p.1 p.2
    rw [liveN_cons, List.length_cons]
    omega
/-- what is given to change -/
structure ChgAt (w : World) (q : TBk) (c : Chg) (va vb : Value) : Prop where
  key : Src w va (u8s c.key)
  value : Src w vb (u8s c.value)
  far : ∀ j, va.ownBlock = some j ∨ vb.ownBlock = some j → ¬ q.all j
  kb : isBytes c.key
  vb' : isBytes c.value
  kl : c.key.length ≤ 64
  vl : c.value.length ≤ 1024
theorem src_ext {w w' : World} {v : Value} {xs : List Value} {S : Nat → Prop} (h : Src w v xs) (hX : Ext S w w') (hS : ∀ j, v.ownBlock = some j → ¬ S j) : Src w' v xs := by
  rcases h with ⟨g, o, c, rfl, hc, h⟩ | h
  · exact .inl ⟨g, o, c, rfl, hc, fun j u hu => hX.cell_some (h j u hu) (hS g rfl)⟩
  · exact .inr h
set_option maxHeartbeats 1000000 in
set_option maxRecDepth 100000 in
theorem change_none (d l : Nat) (q : TBk) (T : TblS) (c : Chg) (va vb : Value) (w : World) (h : TblAt w d l q T) (hsum : liveN T.ps ≤ 1073741824) (hc : ChgAt w q c va vb) (hk : c.key ∉ keysP T.ps) :
    Calls Tryz.prog 65 #[.pointer (some ⟨q.t, 0, none⟩), .agg #[va, vb, .bool true]] w fun e w' => (∃ t, e = .returned t) ∧ TPost w d l q T (keysP T.ps) w' := by
  have HT := Lib.hid h
  have HC := Lib.hid hc
  have hlt := h.lt
  have hb0 := below_box w (.cells #[va, vb, .bool true] 78)
  have g0 := World.alloc_heap_new w (.cells #[va, vb, .bool true] 78)
  have hs0 : (w.alloc (.cells #[va, vb, .bool true] 78)).heap.size = w.heap.size + 1 := by simp
  have hl2 := len_live T.ps
  have HS := Lib.hid (search_str q.s (keysP T.ps) h.rise (fun k hk => by obtain ⟨v, hv⟩ := mem_keysP hk; exact (h.good _ hv).1) c.key hc.kb (w.alloc (.cells #[va, vb, .bool true] 78)) (Src.of_owns (h.below hb0).keys) (by rw [keysP_length]; omega))
  have hcv : Sem.run Tryz.prog (convert 52 9 va) (w.alloc (.cells #[va, vb, .bool true] 78)) = .ok (.string (strOfNums c.key)) (w.alloc (.cells #[va, vb, .bool true] 78)) := conv_src (hc.key.below hb0)
  obtain ⟨-, -, -, c3, c4, c5, -, -, cf⟩ := h.cs
  have c3' := below_cell hb0 c3
  have c4' := below_cell hb0 c4
  have k0 := box11 g0 0 va rfl
  have k1 := box11 g0 1 vb rfl
  have k2 := box11 g0 2 (.bool true) rfl
  clear g0
  generalize hw0 : w.alloc (.cells #[va, vb, .bool true] 78) = w0 at *
  clear h hc hl2
  go_enter Tryz.func65, Tryz.ntmps65
  go_wp2_with (simp only [hw0])
  refine HS.out.mono ?_
  rintro e w1 ⟨rfl, hB1⟩
  clear HS
  have k2' := below_cell hB1 k2
  have hd : decide (c.key ∈ keysP T.ps) = false := decide_eq_false hk
  rw [hd]
  go_wp2_with fail
  go_end0
  refine ⟨⟨_, rfl⟩, TPost.same HT.out (hb0.trans (hB1.mono hb0.size))⟩
set_option maxHeartbeats 1000000 in
set_option maxRecDepth 100000 in
theorem change_del (d l : Nat) (q : TBk) (T : TblS) (c : Chg) (va vb : Value) (w : World) (h : TblAt w d l q T) (hlive : T.live = liveN T.ps) (hsum : liveN T.ps ≤ 1073741824) (hc : ChgAt w q c va vb) (hk : c.key ∈ keysP T.ps) :
    Calls Tryz.prog 65 #[.pointer (some ⟨q.t, 0, none⟩), .agg #[va, vb, .bool true]] w fun e w' => (∃ t, e = .returned t) ∧ TPost w d l q { T with ps := delP T.ps c.key, live := T.live - pairN c.key (valP T.ps c.key) } (keysP (delP T.ps c.key)) w' := by
  have HT := Lib.hid h
  have HC := Lib.hid hc
  have hlt := h.lt
  have hb0 := below_box w (.cells #[va, vb, .bool true] 78)
  have g0 := World.alloc_heap_new w (.cells #[va, vb, .bool true] 78)
  have hs0 : (w.alloc (.cells #[va, vb, .bool true] 78)).heap.size = w.heap.size + 1 := by simp
  have hl2 := len_live T.ps
  have HS := Lib.hid (search_str q.s (keysP T.ps) h.rise (fun k hk => by obtain ⟨v, hv⟩ := mem_keysP hk; exact (h.good _ hv).1) c.key hc.kb (w.alloc (.cells #[va, vb, .bool true] 78)) (Src.of_owns (h.below hb0).keys) (by rw [keysP_length]; omega))
  have hcv : Sem.run Tryz.prog (convert 52 9 va) (w.alloc (.cells #[va, vb, .bool true] 78)) = .ok (.string (strOfNums c.key)) (w.alloc (.cells #[va, vb, .bool true] 78)) := conv_src (hc.key.below hb0)
  obtain ⟨-, -, -, c3, c4, c5, -, -, cf⟩ := h.cs
  have c3' := below_cell hb0 c3
  have c4' := below_cell hb0 c4
  have k0 := box11 g0 0 va rfl
  have k1 := box11 g0 1 vb rfl
  have k2 := box11 g0 2 (.bool true) rfl
  clear g0
  generalize hw0 : w.alloc (.cells #[va, vb, .bool true] 78) = w0 at *
  clear h hc hl2
  go_enter Tryz.func65, Tryz.ntmps65
  go_wp2_with (simp only [hw0])
  refine HS.out.mono ?_
  rintro e w1 ⟨rfl, hB1⟩
  clear HS
  have HL := Lib.hid hlive; clear hlive
  have k0' := below_cell hB1 k0
  have k1' := below_cell hB1 k1
  have k2' := below_cell hB1 k2
  have c3'' := below_cell hB1 c3'
  have c4'' := below_cell hB1 c4'
  have hT1 := (HT.out.below hb0).below hB1
  have c5'' := hT1.cs.2.2.2.2.2.1
  have cf'' := hT1.cs.2.2.2.2.2.2.2.2
  have hle := val_le HT.out.rise hk
  rw [← HL.out] at hle
  have HV := Lib.hid (hT1.val c.key)
  have HVl := hT1.val_len c.key
  have HM := Lib.hid hT1.map
  have HK := Lib.hid ((HC.out.key.below hb0).below hB1)
  have hd : decide (c.key ∈ keysP T.ps) = true := decide_eq_true hk
  have e1 : (T.live : Int) - (pairN c.key (valP T.ps c.key) : Int) = ((T.live - pairN c.key (valP T.ps c.key) : Nat) : Int) := by omega
  have e2 := (IntWalk.i64_in ((T.live : Int) - (pairN c.key (valP T.ps c.key) : Int)) (by have := HL.out; omega)).trans e1
  have hkl := HC.out.kl
  have hkb := HC.out.kb
  have hqt := hlt q.t (.inl rfl)
  have hqm := hlt q.m (.inr (.inl rfl))
  have hwt : ¬ w.heap.size = q.t := by omega
  have HT1 := Lib.hid hT1
  clear hT1 e1
  clear c3' c4' k0 k1 k2 c3 c4 c5 cf hcv
  rw [hd]
  clear hd
  go_wp2_with fail
  refine wp_region_rg_tail 13 (fun i => if i = 12 then some (fun v _ => v = .int .i64 (pairN c.key (valP T.ps c.key))) else none) fol (by kernel_rfl) (fun W hW hh => ?_)
  clear hh
  simp only [List.take_succ_cons, List.take_zero, List.drop_succ_cons, List.drop_zero]
  have r0 := rcell hW k0'
  have r3 := rcell hW c3''
  have r5 := rcell hW c5''
  have hlk : ∀ w2, Below W.heap.size W w2 → Sem.run Tryz.prog (Instr.lookup 72 (.map (some q.m)) (.string (strOfNums c.key)) false) w2 = .ok (q.V c.key) w2 := fun w2 h2 => ((HT1.out.below hW).below h2).map.look c.key hkb (by omega)
  repeat ((first | refine lex_move _ (by first | exact Or.inl rfl | exact Or.inr rfl) rfl rfl ?_ | (refine lex_float ?_ rfl rfl (fun w1 hb1 hf1 => ?_) ?_; rotate_left; (go_simp; (try simp (disch := omega) only [IntWalk.i64_quo, IntWalk.rem_in, IntWalk.i64_in, IntWalk.u64_in, IntWalk.u32_in, IntWalk.u8_in, IntWalk.toNatUp, IntWalk.iteOmega]); (try go_simp); rfl)) | refine lex_skip rfl ?_); simp only [Act.put, Act.eval, Array.getD_eq_getD_getElem?, List.getElem?_toArray, List.getElem?_cons_zero, List.getElem?_cons_succ, Option.getD_some, List.setIfInBounds_toArray, List.set_cons_succ, List.set_cons_zero])
  refine lex_make _ rfl (by exact fun _ _ _ h _ => h) rfl (fun w1 hb1 hf1 => ?_) ?_
  · have hb1' := hb1
    (unfold makes; go_simp; simp only [makesUpon])
    refine (pairBytes_any va (q.V c.key) c.key (valP T.ps c.key) _ ((HK.out.below hW).below hb1') (((HT1.out.below hW).below hb1').val c.key) (by omega) (by omega)).mono ?_
    rintro e w' ⟨rfl, hB⟩
    exact ⟨_, rfl, hB, rfl⟩
  rintro v3 W3 hB3 rfl
  simp only [Act.put, Act.eval, Array.getD_eq_getD_getElem?, List.getElem?_toArray, List.getElem?_cons_zero, List.getElem?_cons_succ, Option.getD_some, List.setIfInBounds_toArray, List.set_cons_succ, List.set_cons_zero]
  repeat ((first | refine lex_move _ (by first | exact Or.inl rfl | exact Or.inr rfl) rfl rfl ?_ | (refine lex_float ?_ rfl rfl (fun w1 hb1 hf1 => ?_) ?_; rotate_left; (go_simp; (try simp (disch := omega) only [IntWalk.i64_quo, IntWalk.rem_in, IntWalk.i64_in, IntWalk.u64_in, IntWalk.u32_in, IntWalk.u8_in, IntWalk.toNatUp, IntWalk.iteOmega]); (try go_simp); rfl)) | refine lex_skip rfl ?_); simp only [Act.put, Act.eval, Array.getD_eq_getD_getElem?, List.getElem?_toArray, List.getElem?_cons_zero, List.getElem?_cons_succ, Option.getD_some, List.setIfInBounds_toArray, List.set_cons_succ, List.set_cons_zero])
  refine lex_nil ?_
  have hBW := below_trans hW hB3
  clear r0 r3 r5 hlk hW hB3
  have k0 := below_cell hBW k0'
  have k1 := below_cell hBW k1'
  have k2 := below_cell hBW k2'
  have HT3 := Lib.hid (HT1.out.below hBW)
  have HK3 := Lib.hid (HK.out.below hBW)
  have H03 := Lib.hid ((hb0.trans (hB1.mono hb0.size)).trans (hBW.mono (Nat.le_trans hb0.size hB1.size)))
  have hs3 := H03.out.size
  have hbw := Nat.le_trans hB1.size hBW.size
  have c3 := HT3.out.cs.2.2.2.1
  have c4 := HT3.out.cs.2.2.2.2.1
  have c5 := HT3.out.cs.2.2.2.2.2.1
  have cf := HT3.out.cs.2.2.2.2.2.2.2.2
  clear k0' k1' k2' c3'' c4'' c5'' cf'' HT1 HK HM HV hBW hB1
  have hT4 := HT3.out.head 5 (.int .i64 ((T.live - pairN c.key (valP T.ps c.key) : Nat) : Int)) { T with live := T.live - pairN c.key (valP T.ps c.key) } rfl rfl
  have hP4 := HT3.out.head_post 5 (.int .i64 ((T.live - pairN c.key (valP T.ps c.key) : Nat) : Int)) { T with live := T.live - pairN c.key (valP T.ps c.key) } rfl rfl
  obtain ⟨W4, hr4, hm4, hX4⟩ := hT4.map.drop c.key hkb (by omega) hk 0
  have hT5 := hT4.del c.key hk hm4 hX4
  obtain ⟨g, cap, hqs⟩ : ∃ g cap, q.s = .slice (some ⟨g, 0, none⟩) (keysP T.ps).length cap := by
    rcases hT4.keys.2 with ⟨h1, h2⟩ | ⟨g, cap, cur, h1, -⟩
    · rw [List.length_eq_zero_iff.1 h2] at hk; cases hk
    · exact ⟨g, cap, h1⟩
  have hpos := posK_at HT3.out.rise hk
  have hposl := (List.getElem?_eq_some_iff.1 hpos).1
  have hlen : (keysP T.ps).length ≤ 549755813888 := by have := len_live T.ps; rw [keysP_length]; omega
  have HD := Lib.hid (SS.delete_any 0 g (keysP T.ps).length cap (posK (keysP T.ps) c.key) (strs (keysP T.ps)) W4 (by have := hT5.keys; rw [← hqs]; exact this) hlen hposl (strs_one _))
  have HX := Lib.hid (And.intro hT5 (And.intro hP4 hX4))
  have c4a := hT5.cs.2.2.2.2.1
  have cfa := hT5.cs.2.2.2.2.2.2.2.2
  simp only at c4a cfa
  clear hT4 hT5 hP4 hm4 hX4 hpos
  have Hqs := Lib.hid hqs
  clear hqs
  go_wp2_with fail
  rw [Hqs.out]
  refine HD.out.mono ?_
  rintro e W5 ⟨rfl, hown5, hX5⟩
  have hlt5 := HX.out.1.lt q.t (.inl rfl)
  have hne5 : ¬ g = q.t := fun e => (HX.out.1.ne1.2 g (by rw [Hqs.out, e]; rfl)).1 e
  have c4b : W5.cell? ⟨q.t, 4, none⟩ = some q.s := hX5.cell_some c4a (fun e => hne5 e.symm)
  have cfb : ∀ j, W5.frozen? ⟨q.t, j, none⟩ = false := fun j => by
    have := hX5.block q.t hlt5 (fun e => hne5 e.symm)
    have h2 := cfa j
    simp only [World.frozen?] at h2 ⊢
    rw [this]
    exact h2
  have e3 : (keysP (delP T.ps c.key)).length = (keysP T.ps).length - 1 := by
    rw [keys_del, if_pos hk, List.length_append, List.length_take, List.length_drop]
    omega
  have hR := HX.out.1.rekey (.slice (some ⟨g, 0, none⟩) ((keysP T.ps).length - 1) cap) (ks' := keysP (delP T.ps c.key)) (w1 := W5) (by
    rw [e3]
    have e4 : strs (keysP (delP T.ps c.key)) = (strs (keysP T.ps)).take (posK (keysP T.ps) c.key * 1) ++ (strs (keysP T.ps)).drop ((posK (keysP T.ps) c.key + 1) * 1) := by
      rw [keys_del, if_pos hk, Nat.mul_one, Nat.mul_one]
      simp [strs, List.map_take, List.map_drop]
    rw [e4]
    exact hown5) (hX5.mono fun j _ e => by subst e; show q.s.ownBlock = _; rw [Hqs.out]; rfl) (fun j e => .inl (by show q.s.ownBlock = _; rw [Hqs.out]; exact e))
  have HR := Lib.hid hR
  clear hR hown5
  go_wp2_with fail
  go_end0
  refine ⟨⟨_, rfl⟩, TPost.of_below H03.out ?_⟩
  refine TPost.trans rfl rfl (fun j h => .inl h) (Ext.setCell (S := q.all) (w := W3) (p := ⟨q.t, 5, none⟩) (.inl rfl) (.int .i64 ((T.live - pairN c.key (valP T.ps c.key) : Nat) : Int))) ?_
  refine TPost.trans (q1 := { q with V := setVK q.V c.key (.slice none 0 0) }) rfl rfl (fun j h => ?_) (HX.out.2.2.mono fun j _ e => .inr (.inl e)) HR.out
  rcases h with h | h | h | ⟨k, h⟩
  · exact .inl (.inl h)
  · exact .inl (.inr (.inl h))
  · exact .inl (.inr (.inr (.inl h)))
  · simp only [setVK] at h
    split at h
    · cases h
    · exact .inl (.inr (.inr (.inr ⟨k, h⟩)))
theorem pairN_le {k v : List Int} (hk : k.length ≤ 64) (hv : v.length ≤ 1024) : pairN k v ≤ 1108 := by
  unfold pairN lenText
  have := sdnv_length k.length (by omega)
  have := sdnv_length v.length (by omega)
  simp only [List.length_append, u8s_length]
  omega
theorem setVK_all {q : TBk} {k : List Int} {u : Value} {n : Nat} (hu : ∀ j, u.ownBlock = some j → n ≤ j) : ∀ j, ({ q with V := setVK q.V k u } : TBk).all j → q.all j ∨ n ≤ j := fun j h => by
  rcases h with h | h | h | ⟨i, h⟩
  · exact .inl (.inl h)
  · exact .inl (.inr (.inl h))
  · exact .inl (.inr (.inr (.inl h)))
  · simp only [setVK] at h
    split at h
    · exact .inr (hu j h)
    · exact .inl (.inr (.inr (.inr ⟨i, h⟩)))
/- the value is put; $1: live before; behind it HP: what has become of Wa, in W8 with cell 5 set -/
set_option maxHeartbeats 1000000 in
set_option maxRecDepth 100000 in
theorem change_in (d l : Nat) (q : TBk) (T : TblS) (c : Chg) (va vb : Value) (w : World) (h : TblAt w d l q T) (hlive : T.live = liveN T.ps) (hsum : liveN T.ps ≤ 1073741824) (hc : ChgAt w q c va vb) (hk : c.key ∈ keysP T.ps) :
    Calls Tryz.prog 65 #[.pointer (some ⟨q.t, 0, none⟩), .agg #[va, vb, .bool false]] w fun e w' => (∃ t, e = .returned t) ∧ TPost w d l q { T with ps := putP T.ps c.key c.value, live := T.live - pairN c.key (valP T.ps c.key) + pairN c.key c.value } (keysP T.ps) w' := by
  have HT := Lib.hid h
  have HC := Lib.hid hc
  have hlt := h.lt
  have hb0 := below_box w (.cells #[va, vb, .bool false] 78)
  have g0 := World.alloc_heap_new w (.cells #[va, vb, .bool false] 78)
  have hs0 : (w.alloc (.cells #[va, vb, .bool false] 78)).heap.size = w.heap.size + 1 := by simp
  have hl2 := len_live T.ps
  have HS := Lib.hid (search_str q.s (keysP T.ps) h.rise (fun k hk => by obtain ⟨v, hv⟩ := mem_keysP hk; exact (h.good _ hv).1) c.key hc.kb (w.alloc (.cells #[va, vb, .bool false] 78)) (Src.of_owns (h.below hb0).keys) (by rw [keysP_length]; omega))
  have hcv : Sem.run Tryz.prog (convert 52 9 va) (w.alloc (.cells #[va, vb, .bool false] 78)) = .ok (.string (strOfNums c.key)) (w.alloc (.cells #[va, vb, .bool false] 78)) := conv_src (hc.key.below hb0)
  obtain ⟨-, -, -, c3, c4, c5, -, -, cf⟩ := h.cs
  have c3' := below_cell hb0 c3
  have c4' := below_cell hb0 c4
  have k0 := box11 g0 0 va rfl
  have k1 := box11 g0 1 vb rfl
  have k2 := box11 g0 2 (.bool false) rfl
  clear g0
  generalize hw0 : w.alloc (.cells #[va, vb, .bool false] 78) = w0 at *
  clear h hc hl2
  go_enter Tryz.func65, Tryz.ntmps65
  go_wp2_with (simp only [hw0])
  refine HS.out.mono ?_
  rintro e w1 ⟨rfl, hB1⟩
  clear HS
  have HL := Lib.hid hlive; clear hlive
  have k0' := below_cell hB1 k0
  have k1' := below_cell hB1 k1
  have k2' := below_cell hB1 k2
  have c3'' := below_cell hB1 c3'
  have c4'' := below_cell hB1 c4'
  have hT1 := (HT.out.below hb0).below hB1
  have c5'' := hT1.cs.2.2.2.2.2.1
  have cf'' := hT1.cs.2.2.2.2.2.2.2.2
  have hle := val_le HT.out.rise hk
  rw [← HL.out] at hle
  have HV := Lib.hid (hT1.val c.key)
  have HVl := hT1.val_len c.key
  have HM := Lib.hid hT1.map
  have HK := Lib.hid ((HC.out.key.below hb0).below hB1)
  have hd : decide (c.key ∈ keysP T.ps) = true := decide_eq_true hk
  have e1 : (T.live : Int) - (pairN c.key (valP T.ps c.key) : Int) = ((T.live - pairN c.key (valP T.ps c.key) : Nat) : Int) := by omega
  have e2 := (IntWalk.i64_in ((T.live : Int) - (pairN c.key (valP T.ps c.key) : Int)) (by have := HL.out; omega)).trans e1
  have hkl := HC.out.kl
  have hkb := HC.out.kb
  have hqt := hlt q.t (.inl rfl)
  have hqm := hlt q.m (.inr (.inl rfl))
  have hwt : ¬ w.heap.size = q.t := by omega
  have HT1 := Lib.hid hT1
  clear hT1 e1
  clear c3' c4' k0 k1 k2 c3 c4 c5 cf hcv
  rw [hd]
  clear hd
  go_wp2_with fail
  refine wp_region_rg_tail 13 (fun i => if i = 12 then some (fun v _ => v = .int .i64 (pairN c.key (valP T.ps c.key))) else none) fol (by kernel_rfl) (fun W hW hh => ?_)
  clear hh
  simp only [List.take_succ_cons, List.take_zero, List.drop_succ_cons, List.drop_zero]
  have r0 := rcell hW k0'
  have r3 := rcell hW c3''
  have r5 := rcell hW c5''
  have hlk : ∀ w2, Below W.heap.size W w2 → Sem.run Tryz.prog (Instr.lookup 72 (.map (some q.m)) (.string (strOfNums c.key)) false) w2 = .ok (q.V c.key) w2 := fun w2 h2 => ((HT1.out.below hW).below h2).map.look c.key hkb (by omega)
  repeat ((first | refine lex_move _ (by first | exact Or.inl rfl | exact Or.inr rfl) rfl rfl ?_ | (refine lex_float ?_ rfl rfl (fun w1 hb1 hf1 => ?_) ?_; rotate_left; (go_simp; (try simp (disch := omega) only [IntWalk.i64_quo, IntWalk.rem_in, IntWalk.i64_in, IntWalk.u64_in, IntWalk.u32_in, IntWalk.u8_in, IntWalk.toNatUp, IntWalk.iteOmega]); (try go_simp); rfl)) | refine lex_skip rfl ?_); simp only [Act.put, Act.eval, Array.getD_eq_getD_getElem?, List.getElem?_toArray, List.getElem?_cons_zero, List.getElem?_cons_succ, Option.getD_some, List.setIfInBounds_toArray, List.set_cons_succ, List.set_cons_zero])
  refine lex_make _ rfl (by exact fun _ _ _ h _ => h) rfl (fun w1 hb1 hf1 => ?_) ?_
  · have hb1' := hb1
    (unfold makes; go_simp; simp only [makesUpon])
    refine (pairBytes_any va (q.V c.key) c.key (valP T.ps c.key) _ ((HK.out.below hW).below hb1') (((HT1.out.below hW).below hb1').val c.key) (by omega) (by omega)).mono ?_
    rintro e w' ⟨rfl, hB⟩
    exact ⟨_, rfl, hB, rfl⟩
  rintro v3 W3 hB3 rfl
  simp only [Act.put, Act.eval, Array.getD_eq_getD_getElem?, List.getElem?_toArray, List.getElem?_cons_zero, List.getElem?_cons_succ, Option.getD_some, List.setIfInBounds_toArray, List.set_cons_succ, List.set_cons_zero]
  repeat ((first | refine lex_move _ (by first | exact Or.inl rfl | exact Or.inr rfl) rfl rfl ?_ | (refine lex_float ?_ rfl rfl (fun w1 hb1 hf1 => ?_) ?_; rotate_left; (go_simp; (try simp (disch := omega) only [IntWalk.i64_quo, IntWalk.rem_in, IntWalk.i64_in, IntWalk.u64_in, IntWalk.u32_in, IntWalk.u8_in, IntWalk.toNatUp, IntWalk.iteOmega]); (try go_simp); rfl)) | refine lex_skip rfl ?_); simp only [Act.put, Act.eval, Array.getD_eq_getD_getElem?, List.getElem?_toArray, List.getElem?_cons_zero, List.getElem?_cons_succ, Option.getD_some, List.setIfInBounds_toArray, List.set_cons_succ, List.set_cons_zero])
  refine lex_nil ?_
  have hBW := below_trans hW hB3
  clear r0 r3 r5 hlk hW hB3
  have k0 := below_cell hBW k0'
  have k1 := below_cell hBW k1'
  have k2 := below_cell hBW k2'
  have HT3 := Lib.hid (HT1.out.below hBW)
  have HK3 := Lib.hid (HK.out.below hBW)
  have H03 := Lib.hid ((hb0.trans (hB1.mono hb0.size)).trans (hBW.mono (Nat.le_trans hb0.size hB1.size)))
  have hs3 := H03.out.size
  have hbw := Nat.le_trans hB1.size hBW.size
  have c3 := HT3.out.cs.2.2.2.1
  have c4 := HT3.out.cs.2.2.2.2.1
  have c5 := HT3.out.cs.2.2.2.2.2.1
  have cf := HT3.out.cs.2.2.2.2.2.2.2.2
  clear k0' k1' k2' c3'' c4'' c5'' cf'' HT1 HK HM HV hBW hB1
  have HTa := Lib.hid (HT3.out.head 5 (.int .i64 ((T.live - pairN c.key (valP T.ps c.key) : Nat) : Int)) { T with live := T.live - pairN c.key (valP T.ps c.key) } rfl rfl)
  have hXa := Ext.setCell (S := (· = q.t)) (w := W3) (p := ⟨q.t, 5, none⟩) rfl (.int .i64 ((T.live - pairN c.key (valP T.ps c.key) : Nat) : Int))
  have k0a := hXa.cell_some k0 hwt
  have k1a := hXa.cell_some k1 hwt
  have k2a := hXa.cell_some k2 hwt
  have HKa := Lib.hid (src_ext HK3.out hXa (fun j hj e => HC.out.far j (.inl hj) (.inl e)))
  have HVa := Lib.hid (src_ext (HC.out.value.below H03.out) hXa (fun j hj e => HC.out.far j (.inr hj) (.inl e)))
  have HXa := Lib.hid (hXa.mono (S' := q.all) fun j _ e => .inl e)
  have hsa := Nat.le_trans hs3 hXa.size
  have HLV : T.live - pairN c.key (valP T.ps c.key) ≤ 1073741824 := by have := HL.out; omega
  clear hXa
  go_wp2_with fail
  generalize W3.setCell ⟨q.t, 5, none⟩ (.int .i64 ((T.live - pairN c.key (valP T.ps c.key) : Nat) : Int)) = Wa at *
  generalize hlv : T.live - pairN c.key (valP T.ps c.key) = lv at *
  have HLE := Lib.hid hlv
  clear hlv
  clear k0 k1 k2 c3 c4 c5 cf e2 hle
  have k0 := k0a
  have k1 := k1a
  have hlta := HTa.out.lt
  have c3 := HTa.out.cs.2.2.2.1
  have hpl := pairN_le HC.out.kl HC.out.vl
  have e5 := IntWalk.i64_in ((lv : Int) + (pairN c.key c.value : Int)) (by omega)
  have hkl := HC.out.kl
  have hvl := HC.out.vl
  have hkb := HC.out.kb
  refine wp_region_rg_tail 8 (fun i => if i = 7 then some (fun v w' => w'.ownsRow Wa.heap.size 5 1 v (u8s c.value).length (u8s c.value)) else none) fol (by kernel_rfl) (fun W hW hh => ?_)
  clear hh
  simp only [List.take_succ_cons, List.take_zero, List.drop_succ_cons, List.drop_zero]
  have r1 := rcell hW k1
  have r3 := rcell hW c3
  have hsz6 := hW.size
  repeat ((first | refine lex_move _ (by first | exact Or.inl rfl | exact Or.inr rfl) rfl rfl ?_ | (refine lex_float ?_ rfl rfl (fun w1 hb1 hf1 => ?_) ?_; rotate_left; (go_simp; (try simp (disch := omega) only [IntWalk.i64_quo, IntWalk.rem_in, IntWalk.i64_in, IntWalk.u64_in, IntWalk.u32_in, IntWalk.u8_in, IntWalk.toNatUp, IntWalk.iteOmega]); (try go_simp); rfl)) | refine lex_skip rfl ?_); simp only [Act.put, Act.eval, Array.getD_eq_getD_getElem?, List.getElem?_toArray, List.getElem?_cons_zero, List.getElem?_cons_succ, Option.getD_some, List.setIfInBounds_toArray, List.set_cons_succ, List.set_cons_zero])
  refine lex_make _ rfl (by exact fun _ _ _ h hb => owns_below h hb) rfl (fun w1 hb1 hf1 => ?_) ?_
  · have hb1' := hb1
    (unfold makes; go_simp; simp only [makesUpon])
    refine (clone_any vb (u8s c.value) _ ((HVa.out.below hW).below hb1') (u8s_one _) (by rw [u8s_length]; omega)).mono ?_
    rintro e w' ⟨u, rfl, hown, hB⟩
    exact ⟨u, rfl, hB, owns_base hown fun j hj => Nat.le_trans (Nat.le_trans hsz6 hb1'.size) (hown.lt j hj).1⟩
  rintro v6 W6 hB6 hown6
  simp only [Act.put, Act.eval, Array.getD_eq_getD_getElem?, List.getElem?_toArray, List.getElem?_cons_zero, List.getElem?_cons_succ, Option.getD_some, List.setIfInBounds_toArray, List.set_cons_succ, List.set_cons_zero]
  refine lex_nil ?_
  have hBa := below_trans hW hB6
  clear r1 r3
  have HT6 := Lib.hid (HTa.out.below hBa)
  have hfr6 := fun j hj => (hown6.lt j hj).1
  obtain ⟨W7, hr7, hm7, hX7⟩ := HT6.out.map.store (by have := len_live T.ps; show (keysP T.ps).length ≤ _; rw [keysP_length]; omega) c.key hkb (by omega) v6
  rw [u8s_length] at hown6
  have HT7 := Lib.hid (HT6.out.put c.key c.value hkb HC.out.vb' hkl hvl v6 hown6 (fun j hj e => by have := hlta j e; have := hfr6 j hj; omega) hm7 hX7)
  have k06 := below_cell hBa k0
  have k16 := below_cell hBa k1
  have hwm : ¬ w.heap.size = q.m := by have := hlt q.m (.inr (.inl rfl)); omega
  have k07 : W7.cell? ⟨w.heap.size, 0, none⟩ = some va := hX7.cell_some k06 hwm
  have k17 : W7.cell? ⟨w.heap.size, 1, none⟩ = some vb := hX7.cell_some k16 hwm
  have HK7 := Lib.hid (src_ext (HKa.out.below hBa) hX7 (fun j hj e => HC.out.far j (.inl hj) (.inr (.inl e))))
  have HV7 := Lib.hid (src_ext (HVa.out.below hBa) hX7 (fun j hj e => HC.out.far j (.inr hj) (.inr (.inl e))))
  have c57 := HT7.out.cs.2.2.2.2.2.1
  simp only at c57
  have HX7 := Lib.hid (And.intro hBa (And.intro hX7 hfr6))
  have hsz7 := Nat.le_trans hBa.size hX7.size
  clear hown6 hm7 k06 k16 hX7 hBa hW hB6 k0 k1 c3 hfr6 hsz6
  go_wp2_with fail
  clear hr7
  refine wp_region_rg_tail 9 (fun i => if i = 8 then some (fun v _ => v = .int .i64 (pairN c.key c.value)) else none) fol (by kernel_rfl) (fun W hW hh => ?_)
  clear hh
  simp only [List.take_succ_cons, List.take_zero, List.drop_succ_cons, List.drop_zero]
  have r0 := rcell hW k07
  have r1 := rcell hW k17
  have r5 := rcell hW c57
  repeat ((first | refine lex_move _ (by first | exact Or.inl rfl | exact Or.inr rfl) rfl rfl ?_ | (refine lex_float ?_ rfl rfl (fun w1 hb1 hf1 => ?_) ?_; rotate_left; (go_simp; (try simp (disch := omega) only [IntWalk.i64_quo, IntWalk.rem_in, IntWalk.i64_in, IntWalk.u64_in, IntWalk.u32_in, IntWalk.u8_in, IntWalk.toNatUp, IntWalk.iteOmega]); (try go_simp); rfl)) | refine lex_skip rfl ?_); simp only [Act.put, Act.eval, Array.getD_eq_getD_getElem?, List.getElem?_toArray, List.getElem?_cons_zero, List.getElem?_cons_succ, Option.getD_some, List.setIfInBounds_toArray, List.set_cons_succ, List.set_cons_zero])
  refine lex_make _ rfl (by exact fun _ _ _ h _ => h) rfl (fun w1 hb1 hf1 => ?_) ?_
  · have hb1' := hb1
    (unfold makes; go_simp; simp only [makesUpon])
    refine (pairBytes_any va vb c.key c.value _ ((HK7.out.below hW).below hb1') ((HV7.out.below hW).below hb1') (by omega) (by omega)).mono ?_
    rintro e w' ⟨rfl, hB⟩
    exact ⟨_, rfl, hB, rfl⟩
  rintro v8 W8 hB8 rfl
  simp only [Act.put, Act.eval, Array.getD_eq_getD_getElem?, List.getElem?_toArray, List.getElem?_cons_zero, List.getElem?_cons_succ, Option.getD_some, List.setIfInBounds_toArray, List.set_cons_succ, List.set_cons_zero]
  repeat ((first | refine lex_move _ (by first | exact Or.inl rfl | exact Or.inr rfl) rfl rfl ?_ | (refine lex_float ?_ rfl rfl (fun w1 hb1 hf1 => ?_) ?_; rotate_left; (go_simp; (try simp (disch := omega) only [IntWalk.i64_quo, IntWalk.rem_in, IntWalk.i64_in, IntWalk.u64_in, IntWalk.u32_in, IntWalk.u8_in, IntWalk.toNatUp, IntWalk.iteOmega]); (try go_simp); rfl)) | refine lex_skip rfl ?_); simp only [Act.put, Act.eval, Array.getD_eq_getD_getElem?, List.getElem?_toArray, List.getElem?_cons_zero, List.getElem?_cons_succ, Option.getD_some, List.setIfInBounds_toArray, List.set_cons_succ, List.set_cons_zero])
  refine lex_nil ?_
  have hB78 := below_trans hW hB8
  have HT8 := Lib.hid (HT7.out.below hB78)
  clear r0 r1 r5 k07 k17 c57 hW hB8
  have c58 := HT8.out.cs.2.2.2.2.2.1
  have cf8 := HT8.out.cs.2.2.2.2.2.2.2.2
  simp only at c58 cf8
  have HP := Lib.hid (show ∀ T2 ks2 WZ, TPost (W8.setCell ⟨q.t, 5, none⟩ (.int .i64 ((lv : Int) + (pairN c.key c.value : Int)))) d l { q with V := setVK q.V c.key v6 } T2 ks2 WZ → TPost Wa d l q T2 ks2 WZ from fun T2 ks2 WZ h => by
    refine TPost.trans (q1 := { q with V := setVK q.V c.key v6 }) rfl rfl (setVK_all HX7.out.2.2) ?_ h
    exact (((Ext.of_below (S := q.all) HX7.out.1).trans (HX7.out.2.1.mono (S' := q.all) fun j _ e => .inr (.inl e)) (fun _ _ h => h)).trans (Ext.of_below (S := q.all) hB78) (fun _ _ h => h)).trans (Ext.setCell (S := q.all) (.inl rfl) _) (fun _ _ h => h))
  have HT9 := Lib.hid (HT8.out.head 5 (.int .i64 ((lv : Int) + (pairN c.key c.value : Int))) { T with ps := putP T.ps c.key c.value, live := lv + pairN c.key c.value } rfl (by simp [tblCells]))
  go_wp2_with fail
  go_end0
  rw [HLE.out]
  exact ⟨⟨_, rfl⟩, TPost.of_below H03.out (TPost.trans (q1 := q) rfl rfl (fun j h => .inl h) HXa.out (HP.out _ _ _ (TPost.same HT9.out (Below.refl _ _))))⟩
theorem insert_keys (v : Value) (ks : List (List Int)) (k : List Int) (i gv : Nat) (w : World) (hown : w.ownsRow 0 9 1 v ks.length (strs ks)) (hn : ks.length ≤ 549755813888) (hi : i ≤ ks.length) (hg : w.heap[gv]? = some (.cells #[.string (strOfNums k)] 9 (0, 0))) (hne : v.ownBlock ≠ some gv) :
    Calls Tryz.prog 106 #[v, .int .i64 i, .slice (some ⟨gv, 0, none⟩) 1 1] w fun e w' => ∃ u, e = .returned u ∧ w'.ownsRow 0 9 1 u (ks.take i ++ k :: ks.drop i).length (strs (ks.take i ++ k :: ks.drop i)) ∧ Ext (fun j => v.ownBlock = some j) w w' ∧ ∀ j, u.ownBlock = some j → v.ownBlock = some j ∨ w.heap.size ≤ j := by
  have hv : Row w gv 9 [.string (strOfNums k)] := hg
  have hl : (ks.take i ++ k :: ks.drop i).length = ks.length + 1 := by simp; omega
  have hs : strs (ks.take i ++ k :: ks.drop i) = (strs ks).take i ++ ([.string (strOfNums k)] ++ (strs ks).drop i) := by simp [strs, List.map_take, List.map_drop]
  rw [hl, hs]
  rcases hown.2 with ⟨rfl, h0⟩ | ⟨g, cap, cur, rfl, -⟩
  · obtain rfl : i = 0 := by omega
    obtain rfl := List.eq_nil_of_length_eq_zero h0
    refine (SS.insert_nil gv _ w hv rfl (fun u hu => by rw [List.mem_singleton.1 hu]; rfl)).mono ?_
    rintro e w' ⟨u, rfl, h1, h2⟩
    exact ⟨u, rfl, owns_base (by simpa [strs] using h1) fun j hj => Nat.zero_le _, Ext.of_below h2, fun j hj => .inr (h1.lt j hj).1⟩
  · refine (SS.insert_any 0 g ks.length cap i gv (strs ks) _ w hown (Nat.zero_le _) hn hi hv (fun e => hne (by rw [e]; rfl)) rfl (fun u hu => by rw [List.mem_singleton.1 hu]; rfl) (strs_one _)).mono ?_
    rintro e w' ⟨u, rfl, h1, h2, h3⟩
    exact ⟨u, rfl, h1, h2.mono fun j _ e => (by rw [e]; rfl), fun j hj => (h3 j hj).imp (fun e => (by rw [e]; rfl)) id⟩
set_option maxHeartbeats 1000000 in
set_option maxRecDepth 100000 in
theorem change_new (d l : Nat) (q : TBk) (T : TblS) (c : Chg) (va vb : Value) (w : World) (h : TblAt w d l q T) (hlive : T.live ≤ 1073741824) (hsum : liveN T.ps ≤ 1073741824) (hc : ChgAt w q c va vb) (hk : c.key ∉ keysP T.ps) :
    Calls Tryz.prog 65 #[.pointer (some ⟨q.t, 0, none⟩), .agg #[va, vb, .bool false]] w fun e w' => (∃ t, e = .returned t) ∧ TPost w d l q { T with ps := putP T.ps c.key c.value, live := T.live + pairN c.key c.value } (keysP (putP T.ps c.key c.value)) w' := by
  have HT := Lib.hid h
  have HC := Lib.hid hc
  have hlt := h.lt
  have hb0 := below_box w (.cells #[va, vb, .bool false] 78)
  have g0 := World.alloc_heap_new w (.cells #[va, vb, .bool false] 78)
  have hs0 : (w.alloc (.cells #[va, vb, .bool false] 78)).heap.size = w.heap.size + 1 := by simp
  have hl2 := len_live T.ps
  have HS := Lib.hid (search_str q.s (keysP T.ps) h.rise (fun k hk => by obtain ⟨v, hv⟩ := mem_keysP hk; exact (h.good _ hv).1) c.key hc.kb (w.alloc (.cells #[va, vb, .bool false] 78)) (Src.of_owns (h.below hb0).keys) (by rw [keysP_length]; omega))
  have hcv : Sem.run Tryz.prog (convert 52 9 va) (w.alloc (.cells #[va, vb, .bool false] 78)) = .ok (.string (strOfNums c.key)) (w.alloc (.cells #[va, vb, .bool false] 78)) := conv_src (hc.key.below hb0)
  obtain ⟨-, -, -, c3, c4, c5, -, -, cf⟩ := h.cs
  have c3' := below_cell hb0 c3
  have c4' := below_cell hb0 c4
  have k0 := box11 g0 0 va rfl
  have k1 := box11 g0 1 vb rfl
  have k2 := box11 g0 2 (.bool false) rfl
  clear g0
  generalize hw0 : w.alloc (.cells #[va, vb, .bool false] 78) = w0 at *
  clear h hc hl2
  go_enter Tryz.func65, Tryz.ntmps65
  go_wp2_with (simp only [hw0])
  refine HS.out.mono ?_
  rintro e w1 ⟨rfl, hB1⟩
  clear HS
  have hd : decide (c.key ∈ keysP T.ps) = false := decide_eq_false hk
  have k0a := below_cell hB1 k0
  have k1a := below_cell hB1 k1
  have k2a := below_cell hB1 k2
  have H0 := Lib.hid (hb0.trans (hB1.mono hb0.size))
  have HTa := Lib.hid (HT.out.below H0.out)
  have HKa := Lib.hid (HC.out.key.below H0.out)
  have HVa := Lib.hid (HC.out.value.below H0.out)
  have hsa := H0.out.size
  have hwq : ¬ w.heap.size = q.t := by have := hlt q.t (.inl rfl); omega
  rw [hd]
  clear hd k0 k1 k2 c3' c4' c3 c4 c5 cf hcv hb0 hB1 hs0 hw0
  go_wp2_with fail
  generalize w1 = Wa at *
  have k0 := k0a
  have k1 := k1a
  have hlta := HTa.out.lt
  have c3 := HTa.out.cs.2.2.2.1
  have hpl := pairN_le HC.out.kl HC.out.vl
  have e5 := IntWalk.i64_in ((T.live : Int) + (pairN c.key c.value : Int)) (by omega)
  have hkl := HC.out.kl
  have hvl := HC.out.vl
  have hkb := HC.out.kb
  refine wp_region_rg_tail 8 (fun i => if i = 7 then some (fun v w' => w'.ownsRow Wa.heap.size 5 1 v (u8s c.value).length (u8s c.value)) else none) fol (by kernel_rfl) (fun W hW hh => ?_)
  clear hh
  simp only [List.take_succ_cons, List.take_zero, List.drop_succ_cons, List.drop_zero]
  have r1 := rcell hW k1
  have r3 := rcell hW c3
  have hsz6 := hW.size
  repeat ((first | refine lex_move _ (by first | exact Or.inl rfl | exact Or.inr rfl) rfl rfl ?_ | (refine lex_float ?_ rfl rfl (fun w1 hb1 hf1 => ?_) ?_; rotate_left; (go_simp; (try simp (disch := omega) only [IntWalk.i64_quo, IntWalk.rem_in, IntWalk.i64_in, IntWalk.u64_in, IntWalk.u32_in, IntWalk.u8_in, IntWalk.toNatUp, IntWalk.iteOmega]); (try go_simp); rfl)) | refine lex_skip rfl ?_); simp only [Act.put, Act.eval, Array.getD_eq_getD_getElem?, List.getElem?_toArray, List.getElem?_cons_zero, List.getElem?_cons_succ, Option.getD_some, List.setIfInBounds_toArray, List.set_cons_succ, List.set_cons_zero])
  refine lex_make _ rfl (by exact fun _ _ _ h hb => owns_below h hb) rfl (fun w1 hb1 hf1 => ?_) ?_
  · have hb1' := hb1
    (unfold makes; go_simp; simp only [makesUpon])
    refine (clone_any vb (u8s c.value) _ ((HVa.out.below hW).below hb1') (u8s_one _) (by rw [u8s_length]; omega)).mono ?_
    rintro e w' ⟨u, rfl, hown, hB⟩
    exact ⟨u, rfl, hB, owns_base hown fun j hj => Nat.le_trans (Nat.le_trans hsz6 hb1'.size) (hown.lt j hj).1⟩
  rintro v6 W6 hB6 hown6
  simp only [Act.put, Act.eval, Array.getD_eq_getD_getElem?, List.getElem?_toArray, List.getElem?_cons_zero, List.getElem?_cons_succ, Option.getD_some, List.setIfInBounds_toArray, List.set_cons_succ, List.set_cons_zero]
  refine lex_nil ?_
  have hBa := below_trans hW hB6
  clear r1 r3
  have HT6 := Lib.hid (HTa.out.below hBa)
  have hfr6 := fun j hj => (hown6.lt j hj).1
  obtain ⟨W7, hr7, hm7, hX7⟩ := HT6.out.map.store (by have := len_live T.ps; show (keysP T.ps).length ≤ _; rw [keysP_length]; omega) c.key hkb (by omega) v6
  rw [u8s_length] at hown6
  have HT7 := Lib.hid (HT6.out.put c.key c.value hkb HC.out.vb' hkl hvl v6 hown6 (fun j hj e => by have := hlta j e; have := hfr6 j hj; omega) hm7 hX7)
  have k06 := below_cell hBa k0
  have k16 := below_cell hBa k1
  have hwm : ¬ w.heap.size = q.m := by have := hlt q.m (.inr (.inl rfl)); omega
  have k07 : W7.cell? ⟨w.heap.size, 0, none⟩ = some va := hX7.cell_some k06 hwm
  have k17 : W7.cell? ⟨w.heap.size, 1, none⟩ = some vb := hX7.cell_some k16 hwm
  have HK7 := Lib.hid (src_ext (HKa.out.below hBa) hX7 (fun j hj e => HC.out.far j (.inl hj) (.inr (.inl e))))
  have HV7 := Lib.hid (src_ext (HVa.out.below hBa) hX7 (fun j hj e => HC.out.far j (.inr hj) (.inr (.inl e))))
  have c57 := HT7.out.cs.2.2.2.2.2.1
  simp only at c57
  have HX7 := Lib.hid (And.intro hBa (And.intro hX7 hfr6))
  have hsz7 := Nat.le_trans hBa.size hX7.size
  clear hown6 hm7 k06 k16 hX7 hBa hW hB6 k0 k1 c3 hfr6 hsz6
  go_wp2_with fail
  clear hr7
  refine wp_region_rg_tail 9 (fun i => if i = 8 then some (fun v _ => v = .int .i64 (pairN c.key c.value)) else none) fol (by kernel_rfl) (fun W hW hh => ?_)
  clear hh
  simp only [List.take_succ_cons, List.take_zero, List.drop_succ_cons, List.drop_zero]
  have r0 := rcell hW k07
  have r1 := rcell hW k17
  have r5 := rcell hW c57
  repeat ((first | refine lex_move _ (by first | exact Or.inl rfl | exact Or.inr rfl) rfl rfl ?_ | (refine lex_float ?_ rfl rfl (fun w1 hb1 hf1 => ?_) ?_; rotate_left; (go_simp; (try simp (disch := omega) only [IntWalk.i64_quo, IntWalk.rem_in, IntWalk.i64_in, IntWalk.u64_in, IntWalk.u32_in, IntWalk.u8_in, IntWalk.toNatUp, IntWalk.iteOmega]); (try go_simp); rfl)) | refine lex_skip rfl ?_); simp only [Act.put, Act.eval, Array.getD_eq_getD_getElem?, List.getElem?_toArray, List.getElem?_cons_zero, List.getElem?_cons_succ, Option.getD_some, List.setIfInBounds_toArray, List.set_cons_succ, List.set_cons_zero])
  refine lex_make _ rfl (by exact fun _ _ _ h _ => h) rfl (fun w1 hb1 hf1 => ?_) ?_
  · have hb1' := hb1
    (unfold makes; go_simp; simp only [makesUpon])
    refine (pairBytes_any va vb c.key c.value _ ((HK7.out.below hW).below hb1') ((HV7.out.below hW).below hb1') (by omega) (by omega)).mono ?_
    rintro e w' ⟨rfl, hB⟩
    exact ⟨_, rfl, hB, rfl⟩
  rintro v8 W8 hB8 rfl
  simp only [Act.put, Act.eval, Array.getD_eq_getD_getElem?, List.getElem?_toArray, List.getElem?_cons_zero, List.getElem?_cons_succ, Option.getD_some, List.setIfInBounds_toArray, List.set_cons_succ, List.set_cons_zero]
  repeat ((first | refine lex_move _ (by first | exact Or.inl rfl | exact Or.inr rfl) rfl rfl ?_ | (refine lex_float ?_ rfl rfl (fun w1 hb1 hf1 => ?_) ?_; rotate_left; (go_simp; (try simp (disch := omega) only [IntWalk.i64_quo, IntWalk.rem_in, IntWalk.i64_in, IntWalk.u64_in, IntWalk.u32_in, IntWalk.u8_in, IntWalk.toNatUp, IntWalk.iteOmega]); (try go_simp); rfl)) | refine lex_skip rfl ?_); simp only [Act.put, Act.eval, Array.getD_eq_getD_getElem?, List.getElem?_toArray, List.getElem?_cons_zero, List.getElem?_cons_succ, Option.getD_some, List.setIfInBounds_toArray, List.set_cons_succ, List.set_cons_zero])
  refine lex_nil ?_
  have hB78 := below_trans hW hB8
  have HT8 := Lib.hid (HT7.out.below hB78)
  clear r0 r1 r5 k07 k17 c57 hW hB8
  have c58 := HT8.out.cs.2.2.2.2.2.1
  have cf8 := HT8.out.cs.2.2.2.2.2.2.2.2
  simp only at c58 cf8
  have HP := Lib.hid (show ∀ T2 ks2 WZ, TPost (W8.setCell ⟨q.t, 5, none⟩ (.int .i64 ((T.live : Int) + (pairN c.key c.value : Int)))) d l { q with V := setVK q.V c.key v6 } T2 ks2 WZ → TPost Wa d l q T2 ks2 WZ from fun T2 ks2 WZ h => by
    refine TPost.trans (q1 := { q with V := setVK q.V c.key v6 }) rfl rfl (setVK_all HX7.out.2.2) ?_ h
    exact (((Ext.of_below (S := q.all) HX7.out.1).trans (HX7.out.2.1.mono (S' := q.all) fun j _ e => .inr (.inl e)) (fun _ _ h => h)).trans (Ext.of_below (S := q.all) hB78) (fun _ _ h => h)).trans (Ext.setCell (S := q.all) (.inl rfl) _) (fun _ _ h => h))
  have HT9 := Lib.hid (HT8.out.head 5 (.int .i64 ((T.live : Int) + (pairN c.key c.value : Int))) { T with ps := putP T.ps c.key c.value, live := T.live + pairN c.key c.value } rfl (by simp [tblCells]))
  have c48 := HT8.out.cs.2.2.2.2.1
  simp only at c48
  go_wp2_with fail
  generalize hW9 : W8.setCell ⟨q.t, 5, none⟩ (.int .i64 ((T.live : Int) + (pairN c.key c.value : Int))) = W9 at *
  have hb9 := below_box W9 (.cells #[.string (strOfNums c.key)] 9)
  have g9 := World.alloc_heap_new W9 (.cells #[.string (strOfNums c.key)] 9)
  have hT10 := HT9.out.below hb9
  have hq9 := HT9.out.lt
  have HI := Lib.hid (insert_keys q.s (keysP T.ps) c.key (posK (keysP T.ps) c.key) W9.heap.size _ hT10.keys (by have := len_live T.ps; rw [keysP_length]; omega) (posK_le _ _) g9 (fun e => by have := hq9 _ (.inr (.inr (.inl e))); omega))
  have hsz9 : W9.heap.size = W8.heap.size := by rw [← hW9]; simp
  rw [hsz9] at HI
  have c40 := hT10.cs.2.2.2.2.1
  have cf0 := hT10.cs.2.2.2.2.2.2.2.2
  have HT10 := Lib.hid hT10
  have HB9 := Lib.hid hb9
  have hlt10 := hT10.lt q.t (.inl rfl)
  simp only at c40 cf0
  clear hT10 hb9 g9
  refine HI.out.mono ?_
  rintro e W11 ⟨u, rfl, hown, hX11, hu⟩
  obtain ⟨ua, uc, rfl, -⟩ := owns_shape hown
  generalize hul : (List.take (posK (keysP T.ps) c.key) (keysP T.ps) ++ c.key :: List.drop (posK (keysP T.ps) c.key) (keysP T.ps)).length = ul at *
  have hne : ¬ q.s.ownBlock = some q.t := fun e => (HT10.out.ne1.2 q.t e).1 rfl
  have c41 := hX11.cell_some c40 hne
  have cf1 : ∀ j, W11.frozen? ⟨q.t, j, none⟩ = false := fun j => by
    have := hX11.block q.t hlt10 hne
    have h2 := cf0 j
    simp only [World.frozen?] at h2 ⊢
    rw [this]
    exact h2
  have HR := Lib.hid (HT10.out.rekey _ (ks' := keysP (putP T.ps c.key c.value)) (w1 := W11) (by rw [keys_put, if_neg hk, hul]; exact hown) hX11 hu)
  clear hul hown hX11 hu c40 cf0 HI
  go_wp2_with fail
  go_end0
  exact ⟨⟨_, rfl⟩, TPost.of_below H0.out (HP.out _ _ _ (TPost.of_below HB9.out HR.out))⟩
theorem change_any (d l : Nat) (q : TBk) (T : TblS) (c : Chg) (va vb : Value) (w : World) (h : TblAt w d l q T) (hlive : T.live = liveN T.ps) (hsum : liveN T.ps ≤ 1073741824) (hc : ChgAt w q c va vb) :
    Calls Tryz.prog 65 #[.pointer (some ⟨q.t, 0, none⟩), .agg #[va, vb, .bool c.gone]] w fun e w' => (∃ t, e = .returned t) ∧ TPost w d l q (T.change c) (keysP (T.change c).ps) w' := by
  by_cases hk : c.key ∈ keysP T.ps <;> cases hg : c.gone
  · have e1 : T.change c = { T with ps := putP T.ps c.key c.value, live := T.live - pairN c.key (valP T.ps c.key) + pairN c.key c.value } := by
      unfold TblS.change chgP
      rw [hg]
      have h1 := live_put (v := c.value) h.rise hk
      have h2 := val_le h.rise hk
      have h3 : liveN (putP T.ps c.key c.value) = T.live - pairN c.key (valP T.ps c.key) + pairN c.key c.value := by omega
      simp [h3]
    rw [e1]
    have e2 : keysP (putP T.ps c.key c.value) = keysP T.ps := by rw [keys_put, if_pos hk]
    simp only [e2]
    exact change_in d l q T c va vb w h hlive hsum hc hk
  · have e1 : T.change c = { T with ps := delP T.ps c.key, live := T.live - pairN c.key (valP T.ps c.key) } := by
      unfold TblS.change chgP
      rw [hg]
      have h1 := live_del h.rise hk
      have h3 : liveN (delP T.ps c.key) = T.live - pairN c.key (valP T.ps c.key) := by omega
      simp [h3]
    rw [e1]
    exact change_del d l q T c va vb w h hlive hsum hc hk
  · have e1 : T.change c = { T with ps := putP T.ps c.key c.value, live := T.live + pairN c.key c.value } := by
      unfold TblS.change chgP
      rw [hg]
      have h1 := live_ins (v := c.value) hk
      have h3 : liveN (putP T.ps c.key c.value) = T.live + pairN c.key c.value := by omega
      simp [h3]
    rw [e1]
    exact change_new d l q T c va vb w h (by omega) hsum hc hk
  · have e1 : T.change c = T := by
      unfold TblS.change chgP
      rw [hg]
      have h3 : delP T.ps c.key = T.ps := by unfold delP; rw [if_neg hk]
      simp only [h3, if_true, ← hlive]
    rw [e1]
    exact change_none d l q T c va vb w h hsum hc hk
end Go.Proofs.YtbjofbhhnmehgaaGreatDoor.TT
namespace Go.Proofs.YtbjofbhhnmehgaaGreatDoor.TT
open Go.RowKit Go.RG Go.Hp Go.Proofs.YtbjofbhhnmehgaaGreatDoor


set_option maxRecDepth 100000 in
theorem room_any (d l : Nat) (q : TBk) (T : TblS) (w : World) (h : TblAt w d l q T) (h1 : T.cap ≤ 1073741824) (h2 : T.live ≤ 1073741824) :
    Calls Tryz.prog 17 #[.pointer (some ⟨q.t, 0, none⟩)] w fun e w' => e = .returned (.int .i64 ((T.cap : Int) - (T.live : Int))) ∧ Below w.heap.size w w' := by
  obtain ⟨-, -, c2, -, -, c5, -⟩ := h.cs
  have e1 := IntWalk.i64_in ((T.cap : Int) - (T.live : Int)) (by omega)
  clear h
  go_enter Tryz.func17, Tryz.ntmps17
  go_wp2_with fail
  refine wp_region_rg (fun _ => none) fol (by kernel_rfl) (fun W hW hh => ?_)
  clear hh
  have r2 := rcell hW c2
  have r5 := rcell hW c5
  repeat ((first | refine lex_move _ (by first | exact Or.inl rfl | exact Or.inr rfl) rfl rfl ?_ | (refine lex_float ?_ rfl rfl (fun w1 hb1 hf1 => ?_) ?_; rotate_left; (go_simp; (try simp (disch := omega) only [IntWalk.i64_quo, IntWalk.rem_in, IntWalk.i64_in, IntWalk.u64_in, IntWalk.u32_in, IntWalk.u8_in, IntWalk.toNatUp, IntWalk.iteOmega]); (try go_simp); rfl)) | refine lex_skip rfl ?_); simp only [Act.put, Act.eval, Array.getD_eq_getD_getElem?, List.getElem?_toArray, List.getElem?_cons_zero, List.getElem?_cons_succ, Option.getD_some, List.setIfInBounds_toArray, List.set_cons_succ, List.set_cons_zero])
  refine lex_nil ?_
  clear r2 r5
  go_wp2_with fail
  go_ret
  exact ⟨rfl, hW⟩
set_option maxRecDepth 100000 in
theorem live_any (d l : Nat) (q : TBk) (T : TblS) (w : World) (h : TblAt w d l q T) :
    Calls Tryz.prog 26 #[.pointer (some ⟨q.t, 0, none⟩)] w fun e w' => e = .returned (.int .i64 T.live) ∧ w = w' := by
  obtain ⟨-, -, -, -, -, c5, -⟩ := h.cs
  clear h
  go_enter Tryz.func26, Tryz.ntmps26
  go_wp2_with fail
  go_ret
  exact ⟨rfl, rfl⟩
set_option maxRecDepth 100000 in
theorem unflushed_any (d l : Nat) (q : TBk) (T : TblS) (w : World) (h : TblAt w d l q T) :
    Calls Tryz.prog 34 #[.pointer (some ⟨q.t, 0, none⟩)] w fun e w' => e = .returned (.int .i64 T.pending) ∧ w = w' := by
  obtain ⟨-, -, -, -, -, -, c6, -⟩ := h.cs
  clear h
  go_enter Tryz.func34, Tryz.ntmps34
  go_wp2_with fail
  go_ret
  exact ⟨rfl, rfl⟩
set_option maxRecDepth 100000 in
theorem len_any (d l : Nat) (q : TBk) (T : TblS) (w : World) (h : TblAt w d l q T) :
    Calls Tryz.prog 33 #[.pointer (some ⟨q.t, 0, none⟩)] w fun e w' => e = .returned (.int .i64 T.ps.length) ∧ w = w' := by
  obtain ⟨-, -, -, -, c4, -⟩ := h.cs
  obtain ⟨a, c, hs, -⟩ := owns_shape h.keys
  rw [hs, keysP_length] at c4
  clear h hs
  go_enter Tryz.func33, Tryz.ntmps33
  go_wp2_with fail
  go_ret
  exact ⟨rfl, rfl⟩
set_option maxRecDepth 100000 in
theorem tepoch_any (d first size : Nat) (k : LBk) (L : LogS) (q : TBk) (T : TblS) (w : World) (h : TblAt w d k.l q T) (hl : LogAt w d first size k L) :
    Calls Tryz.prog 35 #[.pointer (some ⟨q.t, 0, none⟩)] w fun e w' => e = .returned (.int .u64 L.head.epoch) ∧ w = w' := by
  obtain ⟨-, c1, -⟩ := h.cs
  have HE := Lib.hid (epoch_any d first size k L w hl)
  clear h hl
  go_enter Tryz.func35, Tryz.ntmps35
  go_wp2_with fail
  refine HE.out.mono ?_
  rintro e w' ⟨rfl, rfl⟩
  go_wp2_with fail
  go_ret
  exact ⟨rfl, rfl⟩
set_option maxRecDepth 100000 in
theorem tget_any (d l : Nat) (q : TBk) (T : TblS) (v : Value) (key : List Int) (w : World) (h : TblAt w d l q T) (hv : Src w v (u8s key)) (hkb : isBytes key) (hkl : key.length ≤ 549755813888) :
    Calls Tryz.prog 31 #[.pointer (some ⟨q.t, 0, none⟩), v] w fun e w' => ∃ u, e = .returned (.tuple #[u, .bool (decide (key ∈ keysP T.ps))]) ∧ w'.ownsRow w.heap.size 5 1 u (valP T.ps key).length (u8s (valP T.ps key)) ∧ Below w.heap.size w w' := by
  obtain ⟨-, -, -, c3, -⟩ := h.cs
  obtain ⟨a, c, rfl, hc⟩ := hv.shape
  rw [u8s_length] at hv hc ⊢
  have HV := Lib.hid hv
  have HT := Lib.hid h
  clear h hv
  go_enter Tryz.func31, Tryz.ntmps31
  go_wp2_with fail
  refine wp_region_rg (fun _ => none) fol (by kernel_rfl) (fun W hW hh => ?_)
  clear hh
  have r3 := rcell hW c3
  have hcv : ∀ w2, Below W.heap.size W w2 → Sem.run Tryz.prog (convert 52 9 (.slice a key.length c)) w2 = .ok (.string (strOfNums key)) w2 := fun w2 h2 => conv_src ((HV.out.below hW).below h2)
  have hlk : ∀ w2, Below W.heap.size W w2 → Sem.run Tryz.prog (Instr.lookup 72 (.map (some q.m)) (.string (strOfNums key)) true) w2 = .ok (.tuple #[q.V key, .bool (decide (key ∈ keysP T.ps))]) w2 := fun w2 h2 => ((HT.out.below hW).below h2).map.look_ok key hkb hkl
  repeat ((first | refine lex_move _ (by first | exact Or.inl rfl | exact Or.inr rfl) rfl rfl ?_ | (refine lex_float ?_ rfl rfl (fun w1 hb1 hf1 => ?_) ?_; rotate_left; (go_simp; (try simp (disch := omega) only [IntWalk.i64_quo, IntWalk.rem_in, IntWalk.i64_in, IntWalk.u64_in, IntWalk.u32_in, IntWalk.u8_in, IntWalk.toNatUp, IntWalk.iteOmega]); (try go_simp); rfl)) | refine lex_skip rfl ?_); simp only [Act.put, Act.eval, Array.getD_eq_getD_getElem?, List.getElem?_toArray, List.getElem?_cons_zero, List.getElem?_cons_succ, Option.getD_some, List.setIfInBounds_toArray, List.set_cons_succ, List.set_cons_zero])
  refine lex_nil ?_
  clear r3 hcv hlk
  have HT1 := Lib.hid (HT.out.below hW)
  have hval := HT1.out.val key
  have hvl := HT1.out.val_len key
  obtain ⟨va, vc, hsh, -⟩ := hval.shape
  rw [hsh] at hval ⊢
  rw [u8s_length] at hval ⊢
  have Hval := Lib.hid hval
  have hs1 := hW.size
  have hown0 : W.ownsRow w.heap.size 5 1 (.slice none 0 0) 0 [] := World.ownsRow_nil _ _ _ _
  clear hval hsh
  go_wp2_with (at_builtin; go_loud (refine own_append_src rfl _ _ rfl w.heap.size 0 _ _ [] (u8s (valP T.ps key)) rfl hown0 rfl Hval.out (u8s_one _) (by rw [u8s_length]; omega) hs1 ?_; intro v2 w2 hown2 hg2; have Hg2 := Lib.hid hg2; have Hown2 := Lib.hid hown2; clear hown2 hg2))
  go_ret2
  have := Hown2.out
  rw [u8s_length, Nat.zero_add, List.nil_append] at this
  exact ⟨_, rfl, this, hW.trans Hg2.out⟩
end Go.Proofs.YtbjofbhhnmehgaaGreatDoor.TT
namespace Go.Proofs.YtbjofbhhnmehgaaGreatDoor.TT
open Go.RowKit Go.RG Go.Hp Go.Proofs.YtbjofbhhnmehgaaGreatDoor


def lenB (bs : List Int) : List Int := sdnv bs.length ++ bs
theorem lenB_u8s (bs : List Int) : u8s (lenB bs) = lenText (u8s bs) := by simp [lenB, lenText, u8s_append, u8s_length]
def pairB (p : Pr) : List Int := lenB p.1 ++ lenB p.2
theorem pairB_length (p : Pr) : (pairB p).length = pairN p.1 p.2 := by
  unfold pairB pairN
  rw [← lenB_u8s, ← lenB_u8s, u8s_length, u8s_length, List.length_append]
def textB (ps : List Pr) : List Int := ps.flatMap pairB
theorem textB_append (a b : List Pr) : textB (a ++ b) = textB a ++ textB b := by simp [textB]
theorem textB_length : ∀ (ps : List Pr), (textB ps).length = liveN ps
  | [] => rfl
  | p :: ps => by rw [show textB (p :: ps) = pairB p ++ textB ps from rfl, List.length_append, textB_length ps, pairB_length, liveN_cons]
theorem textB_succ {ps : List Pr} {i : Nat} {p : Pr} (h : ps[i]? = some p) : textB (ps.take (i + 1)) = textB (ps.take i) ++ pairB p := by
  rw [List.take_add_one, h, textB_append]
  simp [textB]
theorem make_room (n : Nat) (hn : n ≤ 1099511627776) (w : World) : ∃ cs : Array Value, Sem.run Tryz.prog (Instr.makeSlice 52 (.int .i64 0) (.int .i64 n)) w = .ok (.slice (some ⟨w.heap.size, 0, none⟩) 0 n) (w.alloc (.cells cs 5)) ∧ cs.size = n := by
  obtain ⟨i0, hi, hz0, hz1, hz2⟩ := info_parts info_byte
  have := run_make (P := Tryz.prog) w 52 5 i0 (.int .u8 0) und_bytes hi hz0 .i64 .i64 0 (n : Int) (by omega) (by omega) (by rw [hz2]; omega) (by omega)
  refine ⟨_, this, ?_⟩
  rw [hz1]
  simp [madeCells]
theorem conv_back (s : List Int) (w : World) (hb : isBytes s) (hl : s.length ≤ 549755813888) : ∃ u W, Sem.run Tryz.prog (convert 9 52 (.string (strOfNums s))) w = .ok u W ∧ Src W u (u8s s) ∧ (∀ j, u.ownBlock = some j → w.heap.size ≤ j) ∧ Below w.heap.size w W := by
  refine ⟨_, _, Lib.run_convert_string_bytes w 9 52 5 (strOfNums s) und_string und_bytes (by kernel_rfl), ?_, fun j hj => ?_, ⟨rfl, rfl, rfl, by rw [Lib.bytesWorld_size]; omega, fun k hk => Lib.bytesWorld_at_old _ _ _ _ hk⟩⟩
  · refine .inl ⟨w.heap.size, 0, _, by rw [strOfNums_size, u8s_length], ?_, fun j u hu => ?_⟩
    · have := grownCap_ge w (strOfNums s).size 0 5
      rw [strOfNums_size] at this
      rw [u8s_length]
      simpa [strOfNums_size] using this
    · have hj := (List.getElem?_eq_some_iff.1 hu).1
      rw [u8s_length] at hj
      rw [Nat.zero_add, Lib.bytesWorld_cell w 5 (strOfNums s) j (by rw [strOfNums_size]; exact hj), ← hu]
      have h1 := hb _ (List.getElem_mem hj)
      simp [u8s, strOfNums_data, List.getD, hj]
      omega
  · exact Nat.le_of_eq (Option.some.inj hj)
set_option maxHeartbeats 1000000 in
set_option maxRecDepth 100000 in
theorem text_any (d l : Nat) (q : TBk) (T : TblS) (w : World) (h : TblAt w d l q T) (hlive : T.live = liveN T.ps) (hsum : liveN T.ps ≤ 1073741824) :
    Calls Tryz.prog 98 #[.pointer (some ⟨q.t, 0, none⟩)] w fun e w' => ∃ u, e = .returned u ∧ w'.ownsRow w.heap.size 5 1 u (textB T.ps).length (u8s (textB T.ps)) ∧ Below w.heap.size w w' := by
  have HT := Lib.hid h
  obtain ⟨-, -, -, c3, c4, c5, -⟩ := h.cs
  obtain ⟨a, c, hs, -⟩ := owns_shape h.keys
  obtain ⟨n, hn⟩ : ∃ n, T.ps.length = n := ⟨_, rfl⟩
  have hl2 := len_live T.ps
  rw [hn] at hl2
  rw [hs, keysP_length, hn] at c4
  obtain ⟨cs, hmk, hcs⟩ := make_room T.live (by omega) w
  have hb0 := below_box w (.cells cs 5)
  have g0 := World.alloc_heap_new w (.cells cs 5)
  have hcell : ∀ (i : Nat) (p : Pr), T.ps[i]? = some p → ∃ g o, a = some ⟨g, o, none⟩ ∧ ∀ W, Below w.heap.size w W → W.cell? ⟨g, o + i, none⟩ = some (.string (strOfNums p.1)) := fun i p hp => by
    have hk : (strs (keysP T.ps))[i]? = some (.string (strOfNums p.1)) := strs_get (by simp [keysP, hp])
    rcases Src.of_owns h.keys with ⟨g, o, c', e1, -, h⟩ | ⟨e1, e2⟩
    · rw [hs] at e1
      injection e1 with e1 _ _
      exact ⟨g, o, e1, fun W hW => below_cell hW (h i _ hk)⟩
    · rw [e2] at hk; cases hk
  have Hc := Lib.hid hcell
  have HL := Lib.hid hlive
  have HN := Lib.hid hn
  have hown0 : (w.alloc (.cells cs 5)).ownsRow w.heap.size 5 1 (.slice (some ⟨w.heap.size, 0, none⟩) 0 T.live) 0 [] := ⟨rfl, .inr ⟨w.heap.size, T.live, cs, rfl, Nat.le_refl _, g0, Nat.zero_le _, by unfold maxLen; omega, by rw [hcs]; simp, by simp⟩⟩
  have Hown0 := Lib.hid hown0
  have c4' := below_cell hb0 c4
  have Hmk := Lib.hid hmk
  generalize hw0 : w.alloc (.cells cs 5) = w0 at *
  have hn5 : n ≤ 536870912 := by omega
  clear hcell hlive hn g0 h hown0 hs hl2 hcs hmk
  go_enter Tryz.func98, Tryz.ntmps98
  go_wp2_with (simp only [Hmk.out])
  go_loopw [3, 16] (fun vb vi wr => ∃ i : Nat, vi = .int .i64 i ∧ i ≤ n ∧ wr.ownsRow w.heap.size 5 1 vb (textB (T.ps.take i)).length (u8s (textB (T.ps.take i))) ∧ Below w.heap.size w wr) (fun _ vi _ => n - (intOf vi).toNat)
  case atStart => exact ⟨0, rfl, Nat.zero_le _, Hown0.out, hb0⟩
  case round =>
    obtain ⟨i, rfl, hi, hown, hB⟩ := hrel
    by_cases hin : i < n
    · have hin' : (i : Int) < (n : Int) := by omega
      obtain ⟨p, hpi⟩ : ∃ p, T.ps[i]? = some p := ⟨_, List.getElem?_eq_getElem (by rw [HN.out]; exact hin)⟩
      obtain ⟨g, o, rfl, hk⟩ := Hc.out i p hpi
      replace hk := hk wr hB
      have HTr := Lib.hid (HT.out.below hB)
      obtain ⟨hkb, hvb, hl1, hl2⟩ := HT.out.good p (List.mem_of_getElem? hpi)
      have hval : valP T.ps p.1 = p.2 := by
        obtain ⟨v, -, hm, hv⟩ := pair_at HT.out.rise (mem_keys (List.mem_of_getElem? hpi))
        rw [hv]
        exact pair_at.snd_of_nodup (krising_nodup HT.out.rise) hm (List.mem_of_getElem? hpi)
      have c3r := HTr.out.cs.2.2.2.1
      have hle : (textB (T.ps.take i)).length + pairN p.1 p.2 ≤ 1073741824 := by
        have h1 := liveN_take i hpi
        rw [textB_length]
        omega
      have Hown := Lib.hid hown
      have Hpi := Lib.hid hpi
      clear hown hpi
      obtain ⟨ua, uc, rfl, -⟩ := owns_shape Hown.out
      have hbs := hB.size
      go_wp2_with fail
      refine wp_region_rg_tail 11 (fun j => if j = 2 then some (fun v w' => Src w' v (u8s p.1)) else if j = 3 then some (fun v w' => w'.ownsRow wr.heap.size 5 1 v (lenText (u8s p.1)).length (lenText (u8s p.1))) else if j = 10 then some (fun v w' => w'.ownsRow wr.heap.size 5 1 v (u8s (pairB p)).length (u8s (pairB p))) else none) fol (by kernel_rfl) (fun W hW hh => ?_)
      clear hh
      simp only [List.take_succ_cons, List.take_zero, List.drop_succ_cons, List.drop_zero]
      have r3 := rcell hW c3r
      have hlk : ∀ w2, Below W.heap.size W w2 → Sem.run Tryz.prog (Instr.lookup 72 (.map (some q.m)) (.string (strOfNums p.1)) false) w2 = .ok (q.V p.1) w2 := fun w2 h2 => ((HTr.out.below hW).below h2).map.look p.1 hkb (by omega)
      have hsz := hW.size
      repeat ((first | refine lex_move _ (by first | exact Or.inl rfl | exact Or.inr rfl) rfl rfl ?_ | (refine lex_float ?_ rfl rfl (fun w1 hb1 hf1 => ?_) ?_; rotate_left; (go_simp; (try simp (disch := omega) only [IntWalk.i64_quo, IntWalk.rem_in, IntWalk.i64_in, IntWalk.u64_in, IntWalk.u32_in, IntWalk.u8_in, IntWalk.toNatUp, IntWalk.iteOmega]); (try go_simp); rfl)) | refine lex_skip rfl ?_); simp only [Act.put, Act.eval, Array.getD_eq_getD_getElem?, List.getElem?_toArray, List.getElem?_cons_zero, List.getElem?_cons_succ, Option.getD_some, List.setIfInBounds_toArray, List.set_cons_succ, List.set_cons_zero])
      refine lex_make _ rfl (by exact fun _ _ _ h hb => h.below hb) rfl (fun w1 hb1 hf1 => ?_) ?_
      · have hb1' := hb1
        obtain ⟨u, W2, hcv, hs2, -, hb2'⟩ := conv_back p.1 w1 hkb (by omega)
        (unfold makes; go_simp; simp only [makesUpon])
        exact ⟨hb2', hs2⟩
      rintro v2 W2 hB2 hs2
      simp only [Act.put, Act.eval, Array.getD_eq_getD_getElem?, List.getElem?_toArray, List.getElem?_cons_zero, List.getElem?_cons_succ, Option.getD_some, List.setIfInBounds_toArray, List.set_cons_succ, List.set_cons_zero]
      refine lex_make _ rfl (by exact fun _ _ _ h hb => owns_below h hb) rfl (fun w1 hb1 hf1 => ?_) ?_
      · have hb1' := hb1
        have f2 : Src w1 v2 (u8s p.1) := hf1 22 (by decide) (by simp)
        clear hf1
        (unfold makes; go_simp; simp only [makesUpon])
        refine (appendBytes_any (.slice none 0 0) v2 [] (u8s p.1) _ (.inr ⟨rfl, rfl⟩) f2 (fun u h => by cases h) (u8s_one _) (by decide) (by rw [u8s_length]; omega)).mono ?_
        rintro e w' ⟨u, rfl, hown, hB⟩
        rw [List.nil_append] at hown
        exact ⟨u, rfl, hB, owns_base hown fun j hj => Nat.le_trans (Nat.le_trans hsz hb1'.size) (hown.lt j hj).1⟩
      rintro v3 W3 hB3 hs3
      simp only [Act.put, Act.eval, Array.getD_eq_getD_getElem?, List.getElem?_toArray, List.getElem?_cons_zero, List.getElem?_cons_succ, Option.getD_some, List.setIfInBounds_toArray, List.set_cons_succ, List.set_cons_zero]
      have hW3 := below_trans hW (below_trans hB2 hB3)
      have hsz3 := hW3.size
      repeat ((first | refine lex_move _ (by first | exact Or.inl rfl | exact Or.inr rfl) rfl rfl ?_ | (refine lex_float ?_ rfl rfl (fun w1 hb1 hf1 => ?_) ?_; rotate_left; (go_simp; (try simp (disch := omega) only [IntWalk.i64_quo, IntWalk.rem_in, IntWalk.i64_in, IntWalk.u64_in, IntWalk.u32_in, IntWalk.u8_in, IntWalk.toNatUp, IntWalk.iteOmega]); (try go_simp); rfl)) | refine lex_skip rfl ?_); simp only [Act.put, Act.eval, Array.getD_eq_getD_getElem?, List.getElem?_toArray, List.getElem?_cons_zero, List.getElem?_cons_succ, Option.getD_some, List.setIfInBounds_toArray, List.set_cons_succ, List.set_cons_zero])
      refine lex_make _ rfl (by exact fun _ _ _ h hb => owns_below h hb) rfl (fun w1 hb1 hf1 => ?_) ?_
      · have hb1' := hb1
        have f3 : w1.ownsRow wr.heap.size 5 1 v3 (lenText (u8s p.1)).length (lenText (u8s p.1)) := hf1 23 (by decide) (by simp)
        clear hf1
        (unfold makes; go_simp; simp only [makesUpon])
        have hv3 := Src.of_owns f3
        have hval3 := ((HTr.out.below hW).below hb1').val p.1
        rw [hval] at hval3
        refine (appendBytes_any v3 (q.V p.1) (lenText (u8s p.1)) (u8s p.2) _ hv3 hval3 (lenText_one (u8s_one _)) (u8s_one _) (by rw [← lenB_u8s, u8s_length]; unfold lenB; rw [List.length_append]; have := sdnv_length p.1.length (by omega); omega) (by rw [u8s_length]; omega)).mono ?_
        rintro e w' ⟨u, rfl, hown, hB⟩
        have e1 : lenText (u8s p.1) ++ lenText (u8s p.2) = u8s (pairB p) := by unfold pairB; rw [u8s_append, lenB_u8s, lenB_u8s]
        rw [e1] at hown
        exact ⟨u, rfl, hB, owns_base hown fun j hj => Nat.le_trans (Nat.le_trans hsz hb1'.size) (hown.lt j hj).1⟩
      rintro v10 W10 hB10 hs10
      simp only [Act.put, Act.eval, Array.getD_eq_getD_getElem?, List.getElem?_toArray, List.getElem?_cons_zero, List.getElem?_cons_succ, Option.getD_some, List.setIfInBounds_toArray, List.set_cons_succ, List.set_cons_zero]
      refine lex_nil ?_
      have hW10 := below_trans hW3 hB10
      have HOW := Lib.hid (owns_below Hown.out hW10)
      have HSV := Lib.hid (Src.of_owns hs10)
      have hs10' : w.heap.size ≤ W10.heap.size := Nat.le_trans hbs hW10.size
      have HB := Lib.hid (below_trans hB hW10)
      have hlu : (u8s (pairB p)).length = pairN p.1 p.2 := by rw [u8s_length, pairB_length]
      obtain ⟨pa, pc, rfl, -⟩ := owns_shape hs10
      clear hs10 hs3 hs2 r3 hlk
      go_wp2_with (at_builtin; go_loud (refine own_append_src rfl _ _ rfl w.heap.size _ _ _ _ (u8s (pairB p)) rfl HOW.out rfl HSV.out (u8s_one _) (by omega) hs10' ?_; intro v2 w2 hown2 hg2; have Hg2 := Lib.hid hg2; have Hown2 := Lib.hid hown2; clear hown2 hg2))
      refine ⟨⟨i + 1, by simp, by omega, ?_, HB.out.trans Hg2.out⟩, ?_⟩
      · rw [textB_succ Hpi.out, u8s_append, List.length_append, ← u8s_length (pairB p)]
        exact Hown2.out
      · show n - ((i : Int) + 1).toNat < n - (i : Int).toNat
        omega
    · obtain rfl : i = n := by omega
      have hin' : ¬ (i : Int) < (i : Int) := by omega
      go_wp2_with fail
      go_ret
      rw [List.take_of_length_le (by rw [HN.out]; exact Nat.le_refl _)] at hown
      exact ⟨_, rfl, hown, hB⟩
end Go.Proofs.YtbjofbhhnmehgaaGreatDoor.TT
namespace Go.Proofs.YtbjofbhhnmehgaaGreatDoor.TT
open Go.RowKit Go.RG Go.Hp Go.Proofs.YtbjofbhhnmehgaaGreatDoor


def chgB (c : Chg) : List Int := if c.gone then 0 :: lenB c.key else 1 :: (lenB c.key ++ lenB c.value)
def recPre (cs : List Chg) (i : Nat) : List Int := (1 :: sdnv cs.length) ++ (cs.take i).flatMap chgB
def recB (cs : List Chg) : List Int := (1 :: sdnv cs.length) ++ cs.flatMap chgB
theorem recPre_all (cs : List Chg) : recPre cs cs.length = recB cs := by simp [recPre, recB]
theorem recPre_succ {cs : List Chg} {i : Nat} {c : Chg} (h : cs[i]? = some c) : recPre cs (i + 1) = recPre cs i ++ chgB c := by
  unfold recPre
  rw [List.take_add_one, h]
  simp
theorem lenB_length {bs : List Int} (h : bs.length ≤ 4096) : (lenB bs).length ≤ bs.length + 10 := by
  unfold lenB
  have := sdnv_length bs.length (by omega)
  rw [List.length_append]
  omega
/-- the changes that a slice holds; F: what may be written meanwhile -/
def BatchAt (w : World) (F : Nat → Prop) (v : Value) (cs : List Chg) : Prop := ∃ a cap, v = .slice a cs.length cap ∧ ∀ i c, cs[i]? = some c →
  ∃ g o va vb, a = some ⟨g, o, none⟩ ∧ w.cell? ⟨g, o + i * 3, none⟩ = some va ∧ w.cell? ⟨g, o + i * 3 + 1, none⟩ = some vb ∧ w.cell? ⟨g, o + i * 3 + 2, none⟩ = some (.bool c.gone) ∧ Src w va (u8s c.key) ∧ Src w vb (u8s c.value) ∧ ¬ F g ∧ ∀ j, va.ownBlock = some j ∨ vb.ownBlock = some j → j < w.heap.size ∧ ¬ F j
theorem BatchAt.ext {w w' : World} {F S : Nat → Prop} {v : Value} {cs : List Chg} (h : BatchAt w F v cs) (hX : Ext S w w') (hS : ∀ j, S j → F j) : BatchAt w' F v cs := by
  obtain ⟨a, cap, rfl, h⟩ := h
  refine ⟨a, cap, rfl, fun i c hc => ?_⟩
  obtain ⟨g, o, va, vb, rfl, h1, h2, h3, h4, h5, h6, h7⟩ := h i c hc
  exact ⟨g, o, va, vb, rfl, hX.cell_some h1 fun e => h6 (hS _ e), hX.cell_some h2 fun e => h6 (hS _ e), hX.cell_some h3 fun e => h6 (hS _ e), src_ext h4 hX fun j hj e => (h7 j (.inl hj)).2 (hS _ e), src_ext h5 hX fun j hj e => (h7 j (.inr hj)).2 (hS _ e), h6, fun j hj => ⟨Nat.lt_of_lt_of_le (h7 j hj).1 hX.size, (h7 j hj).2⟩⟩
theorem BatchAt.below {w w' : World} {F : Nat → Prop} {v : Value} {cs : List Chg} (h : BatchAt w F v cs) (hb : Below w.heap.size w w') : BatchAt w' F v cs :=
  h.ext (S := fun _ => False) (Ext.of_below hb) fun _ e => e.elim
theorem BatchAt.mono {w : World} {F G : Nat → Prop} {v : Value} {cs : List Chg} (h : BatchAt w F v cs) (hF : ∀ j, G j → F j ∨ w.heap.size ≤ j) : BatchAt w G v cs := by
  obtain ⟨a, cap, rfl, h⟩ := h
  refine ⟨a, cap, rfl, fun i c hc => ?_⟩
  obtain ⟨g, o, va, vb, rfl, h1, h2, h3, h4, h5, h6, h7⟩ := h i c hc
  have hg := block_lt_of_cell h1
  have hno : ∀ j, j < w.heap.size → ¬ F j → ¬ G j := fun j hj hf hG => (hF j hG).elim hf fun e => by omega
  exact ⟨g, o, va, vb, rfl, h1, h2, h3, h4, h5, hno g hg h6, fun j hj => ⟨(h7 j hj).1, hno j (h7 j hj).1 (h7 j hj).2⟩⟩
theorem chgB_length {c : Chg} (hk : c.key.length ≤ 64) (hv : c.value.length ≤ 1024) : (chgB c).length ≤ 1200 := by
  have h1 := lenB_length (show c.key.length ≤ 4096 by omega)
  have h2 := lenB_length (show c.value.length ≤ 4096 by omega)
  unfold chgB
  split
  · simp only [List.length_cons]; omega
  · simp only [List.length_cons, List.length_append]; omega
theorem recPre_length {cs : List Chg} (hg : ∀ c ∈ cs, c.key.length ≤ 64 ∧ c.value.length ≤ 1024) (hn : cs.length ≤ 1000000) (i : Nat) : (recPre cs i).length ≤ 11 + i * 1200 := by
  induction i with
  | zero =>
    have := sdnv_length cs.length (by omega)
    unfold recPre
    rw [List.take_zero, List.flatMap_nil, List.append_nil, List.length_cons]
    omega
  | succ i ih =>
    rcases Nat.lt_or_ge i cs.length with h | h
    · have h1 := hg cs[i] (List.getElem_mem h)
      rw [recPre_succ (List.getElem?_eq_getElem h), List.length_append]
      have := chgB_length h1.1 h1.2
      omega
    · have e : recPre cs (i + 1) = recPre cs i := by unfold recPre; rw [List.take_of_length_le h, List.take_of_length_le (Nat.le_succ_of_le h)]
      rw [e]
      exact Nat.le_trans ih (Nat.add_le_add_left (Nat.mul_le_mul_right 1200 (Nat.le_succ i)) 11)
end Go.Proofs.YtbjofbhhnmehgaaGreatDoor.TT
namespace Go.Proofs.YtbjofbhhnmehgaaGreatDoor.TT
open Go.RowKit Go.RG Go.Hp Go.Proofs.YtbjofbhhnmehgaaGreatDoor


/-- what stands under a key -/
def atP (ps : List Pr) (k : List Int) : Option (List Int) := (ps.find? fun p => decide (p.1 = k)).map Prod.snd
theorem valP_at (ps : List Pr) (k : List Int) : valP ps k = (atP ps k).getD [] := rfl
theorem atP_none {ps : List Pr} {k : List Int} : atP ps k = none ↔ k ∉ keysP ps := by
  unfold atP
  rw [Option.map_eq_none_iff, List.find?_eq_none]
  constructor
  · intro h hk
    obtain ⟨v, hv⟩ := mem_keysP hk
    exact h _ hv (by simp)
  · intro h p hp e
    rw [decide_eq_true_iff] at e
    exact h (e ▸ mem_keys hp)
theorem rise_chg {ps : List Pr} {c : Chg} (hr : KRising (keysP ps)) : KRising (keysP (chgP ps c)) := by
  unfold chgP
  split
  · exact rise_del hr
  · exact rise_put hr
/-- how many bytes stand under a key -/
def curN (ps : List Pr) (k : List Int) : Nat := match atP ps k with
  | none => 0
  | some v => pairN k v
theorem live_chg {ps : List Pr} (hr : KRising (keysP ps)) (c : Chg) : liveN (chgP ps c) + curN ps c.key = liveN ps + (if c.gone then 0 else pairN c.key c.value) := by
  have hcur : ∀ {k}, k ∈ keysP ps → curN ps k = pairN k (valP ps k) := fun {k} hk => by
    unfold curN
    rw [valP_at]
    cases e : atP ps k with
    | none => exact absurd hk (atP_none.1 e)
    | some v => rfl
  have hcur0 : ∀ {k}, k ∉ keysP ps → curN ps k = 0 := fun {k} hk => by
    unfold curN
    rw [atP_none.2 hk]
  unfold chgP
  by_cases hk : c.key ∈ keysP ps <;> cases hg : c.gone
  · simp only [Bool.false_eq_true, if_false]
    rw [hcur hk, live_put hr hk]
  · simp only [if_true]
    rw [hcur hk, live_del hr hk]
    rfl
  · simp only [Bool.false_eq_true, if_false]
    rw [hcur0 hk, live_ins hk]
    rfl
  · simp only [if_true]
    rw [hcur0 hk]
    unfold delP
    rw [if_neg hk]
/-- all changes of a batch -/
def chgsP (ps : List Pr) (cs : List Chg) : List Pr := cs.foldl chgP ps
theorem rise_chgs {ps : List Pr} (hr : KRising (keysP ps)) (cs : List Chg) : KRising (keysP (chgsP ps cs)) := by
  induction cs generalizing ps with
  | nil => exact hr
  | cons c cs ih => exact ih (rise_chg hr)
theorem chgsP_succ {ps : List Pr} {cs : List Chg} {i : Nat} {c : Chg} (h : cs[i]? = some c) : chgsP ps (cs.take (i + 1)) = chgP (chgsP ps (cs.take i)) c := by
  unfold chgsP
  rw [List.take_add_one, h, List.foldl_append]
  rfl
end Go.Proofs.YtbjofbhhnmehgaaGreatDoor.TT
namespace Go.Proofs.YtbjofbhhnmehgaaGreatDoor.TT
open Go.RowKit Go.RG Go.Hp Go.Proofs.YtbjofbhhnmehgaaGreatDoor


theorem live_chgs_le {ps : List Pr} (hr : KRising (keysP ps)) {cs : List Chg} (hg : ∀ c ∈ cs, c.key.length ≤ 64 ∧ c.value.length ≤ 1024) (i : Nat) : liveN (chgsP ps (cs.take i)) ≤ liveN ps + i * 1108 := by
  induction i with
  | zero => simp [chgsP]
  | succ i ih =>
    rcases Nat.lt_or_ge i cs.length with h | h
    · rw [chgsP_succ (List.getElem?_eq_getElem h)]
      have h1 := live_chg (rise_chgs hr (cs.take i)) cs[i]
      have h2 := hg cs[i] (List.getElem_mem h)
      have h3 := pairN_le h2.1 h2.2
      split at h1 <;> omega
    · have e : cs.take (i + 1) = cs.take i := by rw [List.take_of_length_le h, List.take_of_length_le (Nat.le_succ_of_le h)]
      rw [e]
      exact Nat.le_trans ih (Nat.add_le_add_left (Nat.mul_le_mul_right 1108 (Nat.le_succ i)) _)
end Go.Proofs.YtbjofbhhnmehgaaGreatDoor.TT
namespace Go.Proofs.YtbjofbhhnmehgaaGreatDoor.TT
open Go.RowKit Go.RG Go.Hp Go.Proofs.YtbjofbhhnmehgaaGreatDoor


structure TSys (w : World) (b : Bks) (x : Dsk) (N first size : Nat) (k : LBk) (L : LogS) (q : TBk) (T : TblS) : Prop where
  lsys : LSys w b x N first size k L
  tbl : TblAt w b.d k.l q T
  apart : ∀ j, q.all j → ¬ b.all j ∧ ¬ k.all j
  far : ∀ j, q.all j → 10 ≤ j
/-- all blocks -/
def allB (b : Bks) (k : LBk) (q : TBk) (j : Nat) : Prop := (b.all j ∨ k.all j) ∨ q.all j
section
variable {w w' w1 w2 : World} {b : Bks} {x x' : Dsk} {N N' first size : Nat} {k : LBk} {L L' : LogS} {q : TBk} {T T' : TblS}
theorem TSys.lt (h : TSys w b x N first size k L q T) : ∀ j, allB b k q j → j < w.heap.size := fun j hj => hj.elim (h.lsys.lt j) (h.tbl.lt j)
theorem TSys.below (h : TSys w b x N first size k L q T) (hb : Below w.heap.size w w') : TSys w' b x N first size k L q T := ⟨h.lsys.below hb, h.tbl.below hb, h.apart, h.far⟩
theorem TSys.ext {S : Nat → Prop} (h : TSys w b x N first size k L q T) (hX : Ext S w w') (hS : ∀ j, S j → 10 ≤ j ∧ ¬ allB b k q j) : TSys w' b x N first size k L q T :=
  ⟨h.lsys.ext hX fun j hj => ⟨(hS j hj).1, fun e => (hS j hj).2 (.inl (.inl e)), fun e => (hS j hj).2 (.inl (.inr e))⟩, h.tbl.ext hX fun j hj e => (hS j e).2 (.inr hj), h.apart, h.far⟩
theorem TSys.mono {M : Nat} (h : TSys w b x N first size k L q T) (hm : N ≤ M) : TSys w b x M first size k L q T := ⟨h.lsys.mono hm, h.tbl, h.apart, h.far⟩
/-- disk, log and table have changed, and nothing else that was there -/
def TSPost (w : World) (b : Bks) (k : LBk) (q : TBk) (x' : Dsk) (N' first size : Nat) (L' : LogS) (T' : TblS) (w' : World) : Prop :=
  ∃ (b' : Bks) (k' : LBk) (q' : TBk), b'.d = b.d ∧ k'.l = k.l ∧ q'.t = q.t ∧ (∀ j, allB b' k' q' j → allB b k q j ∨ w.heap.size ≤ j) ∧ Ext (allB b k q) w w' ∧ TSys w' b' x' N' first size k' L' q' T'
theorem TSPost.trans {b1 : Bks} {k1 : LBk} {q1 : TBk} (hd : b1.d = b.d) (hl : k1.l = k.l) (ht : q1.t = q.t) (ha : ∀ j, allB b1 k1 q1 j → allB b k q j ∨ w.heap.size ≤ j) (hX : Ext (allB b k q) w w1) (h2 : TSPost w1 b1 k1 q1 x' N' first size L' T' w2) : TSPost w b k q x' N' first size L' T' w2 := by
  obtain ⟨b2, k2, q2, d2, l2, t2, a2, X2, S2⟩ := h2
  refine ⟨b2, k2, q2, d2.trans hd, l2.trans hl, t2.trans ht, fun j hj => ?_, hX.trans X2 fun j hj h => ?_, S2⟩
  · rcases a2 j hj with h | h
    · exact ha j h
    · exact .inr (Nat.le_trans hX.size h)
  · rcases ha j h with h | h
    · exact h
    · omega
theorem TSPost.of_below (hb : Below w.heap.size w w1) (h2 : TSPost w1 b k q x' N' first size L' T' w2) : TSPost w b k q x' N' first size L' T' w2 :=
  .trans rfl rfl rfl (fun j h => .inl h) (Ext.of_below hb) h2
theorem TSPost.mono {M : Nat} (h : TSPost w b k q x' N' first size L' T' w') (hm : N' ≤ M) : TSPost w b k q x' M first size L' T' w' := by
  obtain ⟨b2, k2, q2, d2, l2, t2, a2, X2, S2⟩ := h
  exact ⟨b2, k2, q2, d2, l2, t2, a2, X2, S2.mono hm⟩
/-- the log has done something -/
theorem TSys.logged (h : TSys w b x N first size k L q T) (hP : LPost w b k x' N' first size L' w') : TSPost w b k q x' N' first size L' T w' := by
  obtain ⟨b', k', hd, hl, ha, hX, hS⟩ := hP
  have hlt := h.tbl.lt
  have hno : ∀ j, q.all j → ¬ (b'.all j ∨ k'.all j) := fun j hj e => (ha j e).elim (fun e => e.elim (h.apart j hj).1 (h.apart j hj).2) fun e => by have := hlt j hj; omega
  refine ⟨b', k', q, hd, hl, rfl, fun j hj => ?_, hX.mono fun j _ e => .inl e, hS, ?_, fun j hj => ⟨fun e => hno j hj (.inl e), fun e => hno j hj (.inr e)⟩, h.far⟩
  · rcases hj with hj | hj
    · exact (ha j hj).imp .inl id
    · exact .inl (.inr hj)
  · rw [hd, hl]
    exact h.tbl.ext hX fun j hj e => e.elim (h.apart j hj).1 (h.apart j hj).2
/-- the table has done something -/
theorem TSys.tabled (h : TSys w b x N first size k L q T) (hP : TPost w b.d k.l q T' (keysP T'.ps) w') : TSPost w b k q x N first size L T' w' := by
  obtain ⟨q', ht, hm, ha, hX, hS⟩ := hP
  have hlt := h.lsys.lt
  have h10 := h.lsys.sys.pkg.lt
  have hno : ∀ j, q'.all j → ¬ (b.all j ∨ k.all j) := fun j hj e => (ha j hj).elim (fun e2 => e.elim (h.apart j e2).1 (h.apart j e2).2) fun e2 => by have := hlt j e; omega
  refine ⟨b, k, q', rfl, rfl, ht, fun j hj => ?_, hX.mono fun j _ e => .inr e, ?_, hS, fun j hj => ⟨fun e => hno j hj (.inl e), fun e => hno j hj (.inr e)⟩, fun j hj => ?_⟩
  · rcases hj with hj | hj
    · exact .inl (.inl hj)
    · exact (ha j hj).imp .inr id
  · exact h.lsys.ext hX fun j hj => ⟨h.far j hj, (h.apart j hj).1, (h.apart j hj).2⟩
  · rcases ha j hj with e | e
    · exact h.far j e
    · omega
theorem TSys.headed (h : TSys w b x N first size k L q T) (j : Nat) (u : Value) (T' : TblS) (hps : T'.ps = T.ps) (hc : (tblCells b.d k.l q T).setIfInBounds j u = tblCells b.d k.l q T') : TSPost w b k q x N first size L T' (w.setCell ⟨q.t, j, none⟩ u) :=
  h.tabled (by rw [hps]; exact h.tbl.head_post j u T' hps hc)
end
end Go.Proofs.YtbjofbhhnmehgaaGreatDoor.TT
namespace Go.RG
open Go.RowKit

section
variable (P : Program) (ops : Array Oper) (CB : World → Prop) (lt : Nat → Option Spec)

def qStep (i : Nat) (o : Oper) (K : Act → World → Prop) (a : Act) (w : World) : Prop :=
  match lt i with
  | none => ∃ v, YB P ops CB o a v ∧ K (a.put o.dst v) w
  | some R => Region.wanted o (yielded ops a.tmps) = true ∧ makes P o a w (fun v w' => CB w' ∧ R v w') ∧ ∀ v w', CB w' → R v w' → K (a.put o.dst v) w'

def rqAny (md : Region.Mode) (n : Nat) (L : Array Bool → Act → World → Prop) : Nat → Array Bool → Act → World → Prop
  | 0, listed, a, w => L listed a w
  | f + 1, listed, a, w =>
    Region.ready md ops listed ≠ [] ∧ ∀ i ∈ Region.ready md ops listed, i < n ∧ ∃ o, ops[i]? = some o ∧
      qStep P ops CB lt i o (rqAny md n L f (listed.setIfInBounds i true)) a w

def rqLex (Q : Act → World → Prop) : List Oper → Nat → Act → World → Prop
  | [], _, a, w => Q a w
  | o :: rest, k, a, w => qStep P ops CB lt k o (rqLex Q rest (k + 1)) a w
end

section
variable {P : Program} {ops : Array Oper} {CB : World → Prop} {lt : Nat → Option Spec} {md : Region.Mode} {n : Nat}

structure QSides (md : Region.Mode) (ops : Array Oper) (lt : Nat → Option Spec) (n : Nat) : Prop where
  sel : ∀ (j : Nat) (o : Oper) cs b, ops[j]? = some o → o.op ≠ .select cs b
  head : ∀ i, i < n → ∀ listed, HeadInv md ops n listed → listed.getD i true = false → ∀ j ∈ Region.ready md ops listed, j < n
  one : ∀ i j, i < n → j < n → i ≠ j → (lt i).isSome = true → (lt j).isSome = true → ∀ listed, HeadInv md ops n listed → i ∈ Region.ready md ops listed → j ∉ Region.ready md ops listed

theorem wpAny_of_rq {g : Nat} {L : Array Bool → Act → World → Prop} {Q : Exit → Act → World → Prop}
    (hL : ∀ listed a w, L listed a w → wpAny P md ops Q g listed a w) :
    ∀ (f : Nat) (listed : Array Bool) (a : Act) (w : World), HeadInv md ops n listed → CB w → rqAny P ops CB lt md n L f listed a w → wpAny P md ops Q (f + g) listed a w
  | 0, listed, a, w, _, _, h => by rw [Nat.zero_add]; exact hL _ _ _ h
  | f + 1, listed, a, w, inv, hcb, h => by
    rw [show f + 1 + g = (f + g) + 1 by omega]
    refine ⟨fun h0 => absurd h0 h.1, fun i hi => ?_⟩
    obtain ⟨hin, o, ho, hs⟩ := h.2 i hi
    have hgo := fun a' w' => wpAny_of_rq hL f (listed.setIfInBounds i true) a' w' (inv.set hi hin)
    unfold wpOp
    simp only [ho]
    unfold qStep at hs
    split at hs
    · obtain ⟨v, hy, hK⟩ := hs
      have hnext := hgo _ _ hcb hK
      rcases hy with ⟨hw, hr⟩ | ⟨hw, rfl⟩
      · rw [if_pos hw]
        refine .inl ?_
        unfold Oper.wp
        rw [hr w hcb]
        exact hnext
      · rw [if_neg (by simp [hw])]
        exact hnext
    · obtain ⟨hw, hm, hK⟩ := hs
      rw [if_pos hw]
      exact .inl (wp_of_makes hm fun v w' ⟨hb, hS⟩ => hgo _ _ hb (hK v w' hb hS))

theorem rq_first {i : Nat} {oi : Oper} {L : Array Bool → Act → World → Prop} (sd : QSides md ops lt n) (hi : ops[i]? = some oi) (hin : i < n)
    (hdone : ∀ listed a w, L listed a w → ∀ j ∈ Region.ready md ops listed, n ≤ j) :
    ∀ (f : Nat) (listed : Array Bool) (a : Act) (w : World), HeadInv md ops n listed →
      (∀ j oj, ops[j]? = some oj → j ≠ i → listed.getD j true = false → (∀ e ∈ oj.after, Region.binds md e = true → e.on ≠ i) → oi.apart ops oj = true) →
      i ∈ Region.ready md ops listed → CB w →
      qStep P ops CB lt i oi (rqAny P ops CB lt md n L f (listed.setIfInBounds i true)) a w → rqAny P ops CB lt md n L (f + 1) listed a w := by
  have ex : ∀ (K : Act → World → Prop) (a : Act) (w : World), CB w → qStep P ops CB lt i oi K a w → ∃ a' w', CB w' ∧ K a' w' := by
    intro K a w hcb H
    unfold qStep at H
    split at H
    · obtain ⟨v, _, h⟩ := H; exact ⟨_, _, hcb, h⟩
    · obtain ⟨_, hm, hK⟩ := H
      obtain ⟨v, w', hb, hS⟩ := makes_exists hm
      exact ⟨_, _, hb, hK v w' hb hS⟩
  intro f
  induction f with
  | zero =>
    intro listed a w inv _ hr hcb H
    have hun := (mem_ready.1 hr).1
    refine ⟨fun h => (by rw [h] at hr; cases hr), fun j hj => ?_⟩
    have hjn : j < n := sd.head i hin listed inv hun j hj
    refine ⟨hjn, ?_⟩
    by_cases hji : j = i
    · subst hji; exact ⟨oi, hi, H⟩
    · exfalso
      obtain ⟨a', w', _, hL⟩ := ex _ a w hcb H
      have := hdone _ _ _ hL j (ready_mono hj hji)
      omega
  | succ f ih =>
    intro listed a w inv hfree hr hcb H
    have hun := (mem_ready.1 hr).1
    refine ⟨fun h => (by rw [h] at hr; cases hr), fun j hj => ?_⟩
    have hjn : j < n := sd.head i hin listed inv hun j hj
    refine ⟨hjn, ?_⟩
    by_cases hji : j = i
    · subst hji; exact ⟨oi, hi, H⟩
    obtain ⟨hjun, oj, hoj, hall⟩ := mem_ready.1 hj
    refine ⟨oj, hoj, ?_⟩
    have hnot : ∀ e ∈ oj.after, Region.binds md e = true → e.on ≠ i := fun e he hb heq => by
      have h1 := hall e he hb
      rw [heq, getD_both hun] at h1
      cases h1
    obtain ⟨ap1, ap2, ap3⟩ := Oper.apart_spec (hfree j oj hoj hji hjun hnot)
    have hsi := fun cs b => sd.sel i oi cs b hi
    have hsj := fun cs b => sd.sel j oj cs b hoj
    have hfree' : ∀ k ok, ops[k]? = some ok → k ≠ i → (listed.setIfInBounds j true).getD k true = false →
        (∀ e ∈ ok.after, Region.binds md e = true → e.on ≠ i) → oi.apart ops ok = true := fun k ok hk hki hun hno => by
      refine hfree k ok hk hki ?_ hno
      by_cases hjk : j = k
      · subst hjk; exact hjun
      · rw [getD_set_ne true hjk] at hun; exact hun
    have inv' := inv.set hj hjn
    have IH := fun a' w' => ih (listed.setIfInBounds j true) a' w' inv' hfree' (ready_mono hr (Ne.symm hji))
    have hjr := ready_mono hj hji
    have hcomm : (listed.setIfInBounds j true).setIfInBounds i true = (listed.setIfInBounds i true).setIfInBounds j true := Array.setIfInBounds_comm _ _ hji
    cases hki : lt i with
    | none =>
      unfold qStep at H
      rw [hki] at H
      obtain ⟨v, hy, hK⟩ := H
      obtain ⟨oj', hoj', hj1⟩ := (hK.2 j hjr).2
      obtain rfl : oj' = oj := Option.some.inj (hoj'.symm.trans hoj)
      have back : ∀ (u : Value) (w' : World), rqAny P ops CB lt md n L f ((listed.setIfInBounds i true).setIfInBounds j true) ((a.put oi.dst v).put oj'.dst u) w' →
          qStep P ops CB lt i oi (rqAny P ops CB lt md n L f ((listed.setIfInBounds j true).setIfInBounds i true)) (a.put oj'.dst u) w' := by
        intro u w' h
        unfold qStep
        rw [hki]
        refine ⟨v, (YB_put hsi ap3).2 hy, ?_⟩
        rw [hcomm, ← Act.put_comm a v u ap2]; exact h
      cases hkj : lt j with
      | none =>
        unfold qStep at hj1 ⊢
        rw [hkj] at hj1 ⊢
        obtain ⟨u, hyj, hKj⟩ := hj1
        exact ⟨u, (YB_put hsj ap1).1 hyj, IH _ _ hcb (back u w hKj)⟩
      | some R =>
        unfold qStep at hj1 ⊢
        rw [hkj] at hj1 ⊢
        obtain ⟨hw, hm, hKj⟩ := hj1
        exact ⟨by rw [wanted_put oj' a oi.dst v ap1] at hw; exact hw, (makes_put hsj ap1).1 hm, fun u w' hb hT => IH _ _ hb (back u w' (hKj u w' hb hT))⟩
    | some R =>
      have hkj : lt j = none := by
        cases h : lt j with
        | none => rfl
        | some R' => exact absurd hj (sd.one i j hin hjn (Ne.symm hji) (by rw [hki]; rfl) (by rw [h]; rfl) listed inv hr)
      unfold qStep at H
      rw [hki] at H
      obtain ⟨hw, hm, hK⟩ := H
      obtain ⟨v0, w0, hb0, hS0⟩ := makes_exists hm
      obtain ⟨oj', hoj', hj1⟩ := ((hK v0 w0 hb0 hS0).2 j hjr).2
      obtain rfl : oj' = oj := Option.some.inj (hoj'.symm.trans hoj)
      unfold qStep at hj1 ⊢
      rw [hkj] at hj1 ⊢
      obtain ⟨u, hyj, -⟩ := hj1
      have hyj' := (YB_put hsj ap1).1 hyj
      refine ⟨u, hyj', IH _ _ hcb ?_⟩
      unfold qStep
      rw [hki]
      refine ⟨by rw [wanted_put oi a oj'.dst u ap3]; exact hw, (makes_put hsi ap3).2 hm, fun v w' hb hS => ?_⟩
      obtain ⟨oj2, hoj2, hj2⟩ := ((hK v w' hb hS).2 j hjr).2
      obtain rfl : oj2 = oj' := Option.some.inj (hoj2.symm.trans hoj)
      unfold qStep at hj2
      rw [hkj] at hj2
      obtain ⟨u', hyu, hKu⟩ := hj2
      have e : u' = u := YB_unique hb ((YB_put hsj ap1).1 hyu) hyj'
      subst e
      rw [hcomm, ← Act.put_comm a v u' ap2]
      exact hKu

theorem rq_lex {g : Nat} {Lq : Act → World → Prop} (sd : QSides md ops lt n) (L : Array Bool → Act → World → Prop)
    (hdone : ∀ listed a w, L listed a w → ∀ j ∈ Region.ready md ops listed, n ≤ j)
    (hend : ∀ listed a w, Region.seqB md ops g n listed = true → Lq a w → L listed a w) :
    ∀ (ls : List Oper) (k : Nat) (listed : Array Bool) (a : Act) (w : World), (∀ j, j < ls.length → ls[j]? = ops[k + j]?) → k + ls.length = n → HeadInv md ops n listed →
    Region.lexHead md ops g ls.length k listed = true → CB w → rqLex P ops CB lt Lq ls k a w → rqAny P ops CB lt md n L ls.length listed a w
  | [], k, listed, a, w, _, hk, _, hB, _, h => by
    have : k = n := by simpa using hk
    subst this
    exact hend _ _ _ (by simpa [Region.lexHead] using hB) h
  | o :: ls, k, listed, a, w, hl, hk, inv, hB, hcb, h => by
    have h0 : ops[k]? = some o := by simpa using (hl 0 (by simp)).symm
    simp only [List.length_cons, Region.lexHead, Bool.and_eq_true] at hB
    obtain ⟨⟨hr, hf⟩, hB'⟩ := hB
    have hkn : k < n := by simp only [List.length_cons] at hk; omega
    have hr' : k ∈ Region.ready md ops listed := by simpa using hr
    have hgo := fun a' w' => rq_lex sd L hdone hend ls (k + 1) (listed.setIfInBounds k true) a' w' (fun j hj => by have := hl (j + 1) (by simp; omega); simpa [Nat.add_assoc, Nat.add_comm 1 j] using this)
      (by simp only [List.length_cons] at hk; omega) (inv.set hr' hkn) hB'
    have h' : qStep P ops CB lt k o (rqLex P ops CB lt Lq ls (k + 1)) a w := h
    refine rq_first sd h0 hkn hdone ls.length listed a w inv (Region.free_spec h0 hf) hr' hcb ?_
    unfold qStep at h' ⊢
    split at h'
    · obtain ⟨v, h1, h2⟩ := h'
      exact ⟨v, h1, hgo _ _ hcb h2⟩
    · exact ⟨h'.1, h'.2.1, fun v w' hb hS => hgo _ _ hb (h'.2.2 v w' hb hS)⟩
end

section
variable {P : Program} {id : Nat} {Q : Exit → Act → World → Prop} {a : Act} {w : World} {ls : List Oper}

/-- the static checks: n operations ahead of the forced tail, the late ones of which wait for each other -/
def seqLateB (ops : Array Oper) (lates : List Nat) (n : Nat) : Bool :=
  Region.lexTailB .any ops n && lates.all fun i => lates.all fun j => i == j || behind ops .any j ops.size i || behind ops .any i ops.size j

def latesOf (lates : List Nat) (R : Nat → Spec) (i : Nat) : Option Spec := if lates.contains i then some (R i) else none

/-- **A region that draws; of the first n operations the late ones change what was there; then the forced tail.** -/
theorem wp_region_seq (n : Nat) (lates : List Nat) (CB : World → Prop) (R : Nat → Spec) (hm : P.follows .mixedOrders = true) (hB : seqLateB ls.toArray lates n = true)
    (h : ∀ b, Below w.heap.size w b → b.heap = w.heap → CB b ∧ rqLex P ls.toArray CB (latesOf lates R) (fun a' w' => wpList P ls.toArray Q (ls.drop n) a' w') (ls.take n) 0 a b) :
    (Code.region id ls.toArray true).wp P Q a w := by
  simp only [seqLateB, Bool.and_eq_true] at hB
  obtain ⟨hB1, hone⟩ := hB
  simp only [Region.lexTailB, Bool.and_eq_true, decide_eq_true_eq] at hB1
  obtain ⟨⟨⟨⟨hsel, hn⟩, hs⟩, hc⟩, hlex⟩ := hB1
  have htl : (ls.take n).length = n := by simp at hn; simp; omega
  have hdl : (ls.drop n).length = ls.toArray.size - n := by simp
  have inv0 : HeadInv .any ls.toArray n (Array.replicate ls.toArray.size false) :=
    ⟨by simp, fun j oj _ hl => (by rw [getD_replicate_false] at hl; cases hl), fun t _ ht => getD_in (by simpa using ht) (getD_replicate_false _ _)⟩
  have sd : QSides .any ls.toArray (latesOf lates R) n := by
    refine ⟨Region.noSelect_spec hsel, fun i hin listed inv hun j hj => ?_, fun i j hin hjn hij hi hj listed inv hr hr2 => ?_⟩
    · rcases Nat.lt_or_ge j n with h | h
      · exact h
      · exact absurd hj (tail_waits hs hc hn inv _ i rfl hin hun j h)
    · have h1 : lates.contains i = true := by
        unfold latesOf at hi
        split at hi
        · assumption
        · cases hi
      have h2 : lates.contains j = true := by
        unfold latesOf at hj
        split at hj
        · assumption
        · cases hj
      have := List.all_eq_true.1 (List.all_eq_true.1 hone i (by simpa using h1)) j (by simpa using h2)
      simp only [Bool.or_eq_true, beq_iff_eq] at this
      rcases this with (h3 | h3) | h3
      · exact hij h3
      · exact (behind_spec inv _ i h3 (un_of (mem_ready.1 hr).1)).2 hr2
      · exact (behind_spec inv _ j h3 (un_of (mem_ready.1 hr2).1)).2 hr
  have hw0 : Below w.heap.size w { w with drawn := w.drawn + 1 } := (Below.refl _ w).drew
  obtain ⟨hcb, hlx⟩ := h { w with drawn := w.drawn + 1 } hw0 rfl
  have H := rq_lex (md := .any) (g := ls.toArray.size - n) (Lq := fun a' w' => wpList P ls.toArray Q (ls.drop n) a' w') sd
    (fun listed' a' w' => Region.seqB .any ls.toArray (ls.toArray.size - n) n listed' = true ∧ wpList P ls.toArray Q (ls.drop n) a' w')
    (fun listed a w hL => seqB_ready hL.1) (fun _ _ _ h1 h2 => ⟨h1, h2⟩)
    (ls.take n) 0 _ a { w with drawn := w.drawn + 1 } (fun j hj => by
      have hj' : j < n := by rw [htl] at hj; exact hj
      simp [hj']) (by simpa using htl) inv0 (by rw [htl]; exact hlex) hcb hlx
  refine wp_region_any hm ?_
  have := wpAny_of_rq (Q := Q) (g := ls.toArray.size - n) (CB := CB) (fun listed a' w' hL => by
    have := wpAny_of_seq (md := .any) (Q' := Q) (ls.drop n) n listed a' w' (fun j => by simp [List.getElem?_drop]) (by rw [hdl]; exact hL.1) hL.2
    rwa [hdl] at this) _ _ _ _ inv0 hcb H
  rw [htl, show n + (ls.toArray.size - n) = ls.toArray.size by simp at hn; simp; omega] at this
  exact this

variable {ops : Array Oper} {q : Act → World → Prop} {o : Oper} {rest : List Oper} {k : Nat} {CB : World → Prop} {lt : Nat → Option Spec}
theorem rq_nil (h : q a w) : rqLex P ops CB lt q [] k a w := h
theorem rq_big (v : Value) (hs : lt k = none) (hw : Region.wanted o (yielded ops a.tmps) = true) (h : ∀ w1, CB w1 → (execOp a.eval o).run P w1 = .ok (.value v) w1)
    (hn : rqLex P ops CB lt q rest (k + 1) (a.put o.dst v) w) : rqLex P ops CB lt q (o :: rest) k a w := by
  show qStep _ _ _ _ _ _ _ _ _
  unfold qStep
  rw [hs]
  exact ⟨v, .inl ⟨hw, h⟩, hn⟩
theorem rq_skip (hs : lt k = none) (hw : Region.wanted o (yielded ops a.tmps) = false)
    (hn : rqLex P ops CB lt q rest (k + 1) (a.put o.dst undef) w) : rqLex P ops CB lt q (o :: rest) k a w := by
  show qStep _ _ _ _ _ _ _ _ _
  unfold qStep
  rw [hs]
  exact ⟨undef, .inr ⟨hw, rfl⟩, hn⟩
theorem rq_move (x : Operand) (ho : o.op = .move x ∨ o.op = .assign x) (hs : lt k = none) (hw : Region.wanted o (yielded ops a.tmps) = true)
    (hn : rqLex P ops CB lt q rest (k + 1) (a.put o.dst (a.eval x)) w) : rqLex P ops CB lt q (o :: rest) k a w :=
  rq_big (a.eval x) hs hw (fun w1 _ => by rcases ho with h | h <;> simp [execOp, h]) hn
theorem rq_late (R : Spec) (hs : lt k = some R) (hw : Region.wanted o (yielded ops a.tmps) = true) (h : makes P o a w fun v w' => CB w' ∧ R v w')
    (hn : ∀ v w', CB w' → R v w' → rqLex P ops CB lt q rest (k + 1) (a.put o.dst v) w') : rqLex P ops CB lt q (o :: rest) k a w := by
  show qStep _ _ _ _ _ _ _ _ _
  unfold qStep
  rw [hs]
  exact ⟨hw, h, hn⟩
end
end Go.RG
namespace Go.Proofs.YtbjofbhhnmehgaaGreatDoor.TT
open Go.RowKit Go.RG Go.Hp Go.Proofs.YtbjofbhhnmehgaaGreatDoor


def ckUp (x : Dsk) (first size : Nat) (L : LogS) (bs : List Int) (h : Nat) : Nat → Dsk × LogS × Int
  | 0 => (x, L, 0)
  | j + 1 =>
    if (ckUp x first size L bs h j).2.2 ≠ 0 then ckUp x first size L bs h j else
    ((appendR (ckUp x first size L bs h j).1 first size (ckUp x first size L bs h j).2.1 (partB bs (h + j))).1,
      (appendR (ckUp x first size L bs h j).1 first size (ckUp x first size L bs h j).2.1 (partB bs (h + j))).2.1,
      (appendR (ckUp x first size L bs h j).1 first size (ckUp x first size L bs h j).2.1 (partB bs (h + j))).2.2.2)
theorem ckUp_stuck {x : Dsk} {first size : Nat} {L : LogS} {bs : List Int} {h j : Nat} (hj : (ckUp x first size L bs h j).2.2 ≠ 0) : ∀ m, ckUp x first size L bs h (j + m) = ckUp x first size L bs h j
  | 0 => rfl
  | m + 1 => by
    rw [← Nat.add_assoc]
    show (if (ckUp x first size L bs h (j + m)).2.2 ≠ 0 then _ else _) = _
    rw [ckUp_stuck hj m, if_pos hj]
def ckAll (x : Dsk) (first size : Nat) (L : LogS) (T : TblS) (h : Nat) : Dsk × LogS × Int := ckUp x first size L (textB T.ps) h (partsN (liveN T.ps) - h)
def ckptR (x : Dsk) (first size : Nat) (L : LogS) (T : TblS) (h n : Nat) : Dsk × LogS × TblS × Int :=
  let p := ckAll x first size L T h
  if p.2.2 ≠ 0 then (p.1, p.2.1, T, p.2.2) else
  let f := lflushR p.1 p.2.1
  if f.2.2 ≠ 0 then (f.1, f.2.1, T, f.2.2) else
  let t := trimR f.1 first size f.2.1 n
  (t.1, t.2.1, { T with pending := 0 }, t.2.2)
theorem isBytes_lenB {bs : List Int} (hb : isBytes bs) (hl : bs.length < 18446744073709551616) : isBytes (lenB bs) := (isBytes_sdnv _ hl).append hb
theorem isBytes_text {ps : List Pr} (h : ∀ p ∈ ps, isBytes p.1 ∧ isBytes p.2 ∧ p.1.length ≤ 64 ∧ p.2.length ≤ 1024) : isBytes (textB ps) := by
  intro b hb
  obtain ⟨p, hp, hb⟩ := List.mem_flatMap.1 hb
  obtain ⟨h1, h2, h3, h4⟩ := h p hp
  exact ((isBytes_lenB h1 (by omega)).append (isBytes_lenB h2 (by omega))) b hb
theorem ckUp_ok {x : Dsk} {first size : Nat} {L : LogS} {bs : List Int} {h : Nat} (ho : L.ok size) (hs : size ≤ 65536) (hl : bs.length ≤ 1073741824) (hh : h ≤ 1000000) : ∀ j, j ≤ 1000000 → (ckUp x first size L bs h j).2.1.ok size
  | 0, _ => ho
  | j + 1, hj => by
    have ih := ckUp_ok (x := x) (first := first) (bs := bs) (h := h) ho hs hl hh j (by omega)
    unfold ckUp
    split
    · exact ih
    · have := partB_len bs (h + j) (by omega) hl
      exact appendR_ok ih hs (by omega)
theorem TSPost.log_cell {w w' : World} {b : Bks} {x' : Dsk} {N' first size : Nat} {k : LBk} {L' : LogS} {q : TBk} {T' : TblS} (h : TSPost w b k q x' N' first size L' T' w') : w'.cell? ⟨q.t, 1, none⟩ = some (.pointer (some ⟨k.l, 0, none⟩)) := by
  obtain ⟨b2, k2, q2, d2, l2, t2, a2, X2, S2⟩ := h
  have := S2.tbl.cs.2.1
  rwa [t2, l2] at this
set_option maxHeartbeats 4000000 in
set_option maxRecDepth 100000 in
theorem checkpoint_any (b : Bks) (x : Dsk) (N first size : Nat) (k : LBk) (L : LogS) (q : TBk) (T : TblS) (h n : Nat) (w : World) (hS : TSys w b x N first size k L q T) (hlive : T.live = liveN T.ps) (hsum : liveN T.ps ≤ 1073741824)
    (ho : L.ok size) (hN : N ≤ 1090000000000) (hh : h ≤ partsN (liveN T.ps)) (hn : n ≤ 9223372036854775807) :
    Calls Tryz.prog 52 #[.pointer (some ⟨q.t, 0, none⟩), .int .i64 h, .int .u64 n] w fun e w' => e = .returned (.int .i64 (ckptR x first size L T h n).2.2.2) ∧ TSPost w b k q (ckptR x first size L T h n).1 (N + 79 * (partsN (liveN T.ps)) + 1) first size (ckptR x first size L T h n).2.1 (ckptR x first size L T h n).2.2.1 w' := by
  have HS0 := Lib.hid hS
  have Ho := Lib.hid ho
  have hle := hS.lsys.le
  have HX := Lib.hid (text_any b.d k.l q T w hS.tbl hlive hsum)
  have hpl := partsN_le (liveN T.ps)
  have hbl := textB_length T.ps
  have hbb := isBytes_text hS.tbl.good
  have hat : ∀ i, i < partsN (liveN T.ps) → i * 8112 ≤ (textB T.ps).length := fun i hi => by rw [hbl]; exact parts_at hi
  have hlt0 := hS.lt
  have Hck := Lib.hid (show ckAll x first size L T h = ckUp x first size L (textB T.ps) h (partsN (liveN T.ps) - h) from rfl)
  have HR := Lib.hid (show ∀ p, ckAll x first size L T h = p → ckptR x first size L T h n = (if p.2.2 ≠ 0 then (p.1, p.2.1, T, p.2.2) else if (lflushR p.1 p.2.1).2.2 ≠ 0 then ((lflushR p.1 p.2.1).1, (lflushR p.1 p.2.1).2.1, T, (lflushR p.1 p.2.1).2.2) else ((trimR (lflushR p.1 p.2.1).1 first size (lflushR p.1 p.2.1).2.1 n).1, (trimR (lflushR p.1 p.2.1).1 first size (lflushR p.1 p.2.1).2.1 n).2.1, { T with pending := 0 }, (trimR (lflushR p.1 p.2.1).1 first size (lflushR p.1 p.2.1).2.1 n).2.2)) from fun p hp => by unfold ckptR; rw [hp])
  have HP := Lib.hid fun w' => parts_any (liveN T.ps) (by omega) w'
  obtain ⟨K, hK⟩ : ∃ K, partsN (liveN T.ps) = K := ⟨_, rfl⟩
  rw [hK] at hpl hat Hck HP hh
  rw [hK]
  obtain ⟨bs, hbs⟩ : ∃ bs, textB T.ps = bs := ⟨_, rfl⟩
  rw [hbs] at hbl HX hbb hat Hck
  have hbs2 : bs.length ≤ 1073741824 := by omega
  have Hok := Lib.hid (ckUp_ok (x := x) (first := first) (bs := bs) (h := h) ho (by omega) hbs2 (by omega))
  have Hat := Lib.hid hat
  have Hbl := Lib.hid hbl
  have Hbb := Lib.hid hbb
  clear hS ho hat hbl hbb hbs hK
  go_enter Tryz.func52, Tryz.ntmps52
  go_wp2_with fail
  refine HX.out.mono ?_
  rintro e w1 ⟨tv, rfl, hown, hB1⟩
  obtain ⟨ta, tc, rfl, -⟩ := owns_shape hown
  have htv : ∀ i, (Value.slice ta bs.length tc).ownBlock = some i → w.heap.size ≤ i := fun i hi => (hown.lt i hi).1
  have Hown := Lib.hid hown
  clear hown HX
  go_wp2_with fail
  go_loopw [8] (fun vi wr => ∃ (i : Nat) (b1 : Bks) (k1 : LBk) (q1 : TBk), vi = .int .i64 i ∧ h ≤ i ∧ i ≤ K ∧ (ckUp x first size L bs h (i - h)).2.2 = 0 ∧ b1.d = b.d ∧ k1.l = k.l ∧ q1.t = q.t ∧ (∀ i, allB b1 k1 q1 i → allB b k q i ∨ w.heap.size ≤ i) ∧ Ext (allB b k q) w wr ∧
    TSys wr b1 (ckUp x first size L bs h (i - h)).1 (N + 79 * (i - h)) first size k1 (ckUp x first size L bs h (i - h)).2.1 q1 T ∧ wr.ownsRow w.heap.size 5 1 (.slice ta bs.length tc) bs.length (u8s bs) ∧ ∀ i, (Value.slice ta bs.length tc).ownBlock = some i → ¬ allB b1 k1 q1 i)
    (fun vi _ => K - (intOf vi).toNat)
  case atStart =>
    refine ⟨h, b, k, q, rfl, Nat.le_refl _, hh, ?_, rfl, rfl, rfl, fun i hi => .inl hi, Ext.of_below hB1, ?_, Hown.out, fun i hi e => by have := htv i hi; have := hlt0 i e; omega⟩
    · rw [Nat.sub_self]; rfl
    · rw [Nat.sub_self]; exact HS0.out.below hB1
  case round =>
    obtain ⟨i, b1, k1, q1, rfl, hhi, hi, hck, hd1, hl1, ht1, ha1, hX1, hS1, hown1, hno1⟩ := hrel
    have c1 := hS1.tbl.cs.2.1
    rw [ht1, hl1] at c1
    rw [← Hbl.out] at HP
    have hsz1 := hX1.size
    by_cases hik : i < K
    · have hik' : (i : Int) < (K : Int) := by omega
      have hst : ckUp x first size L bs h (i + 1 - h) = ((appendR (ckUp x first size L bs h (i - h)).1 first size (ckUp x first size L bs h (i - h)).2.1 (partB bs i)).1,
          (appendR (ckUp x first size L bs h (i - h)).1 first size (ckUp x first size L bs h (i - h)).2.1 (partB bs i)).2.1,
          (appendR (ckUp x first size L bs h (i - h)).1 first size (ckUp x first size L bs h (i - h)).2.1 (partB bs i)).2.2.2) := by
        rw [show i + 1 - h = (i - h) + 1 by omega]
        show (if (ckUp x first size L bs h (i - h)).2.2 ≠ 0 then _ else _) = _
        rw [if_neg (by rw [hck]; decide), show h + (i - h) = i by omega]
      have hok := Hok.out (i - h) (by omega)
      have hstk : (ckUp x first size L bs h (i + 1 - h)).2.2 ≠ 0 → ckUp x first size L bs h (K - h) = ckUp x first size L bs h (i + 1 - h) := fun hne => by
        have := ckUp_stuck hne (K - h - (i + 1 - h))
        rwa [show i + 1 - h + (K - h - (i + 1 - h)) = K - h by omega] at this
      obtain ⟨y, M, e0, hp⟩ : ∃ y M e, ckUp x first size L bs h (i - h) = (y, M, e) := ⟨_, _, _, rfl⟩
      rw [hp] at hst hok hS1 hck
      simp only at hst hok hS1 hck
      have hpb := partB_len bs i (by omega) hbs2
      have hpbb := isBytes_part Hbb.out i (by omega) hbs2
      have HPR := Lib.hid fun W (hW : Src W (.slice ta bs.length tc) (u8s bs)) => partRecord_any (.slice ta bs.length tc) bs i (Hat.out i hik) hbs2 W hW
      have htwo := appendR_err (x := y) (first := first) (size := size) (L := M) (rec := partB bs i)
      obtain ⟨r, hr⟩ : ∃ r, appendR y first size M (partB bs i) = r := ⟨_, rfl⟩
      rw [hr] at hst htwo
      rw [hst] at hstk
      have HAP := Lib.hid fun (W : World) (b2 : Bks) (k2 : LBk) (u : Value) (hS2 : LSys W b2 y (N + 79 * (i - h)) first size k2 M) (hu : W.ownsRow wr.heap.size 5 1 u (partB bs i).length (u8s (partB bs i))) (hf : ∀ j, u.ownBlock = some j → ¬ b2.all j ∧ ¬ k2.all j) =>
        append_any b2 y (N + 79 * (i - h)) first size k2 M u (partB bs i) W hS2 (by omega) hok (Src.of_owns hu) hf hpbb (by omega) (by omega)
      rw [hr] at HAP
      have HST := Lib.hid (And.intro hst hstk)
      have HQ := Lib.hid (And.intro hd1 (And.intro hl1 (And.intro ht1 (And.intro ha1 (And.intro hX1 (And.intro hS1 (And.intro hown1 hno1)))))))
      have hlt1 := hS1.lt
      clear hst hstk hp hck hd1 hl1 ht1 ha1 hX1 hS1 hown1 hno1 hok hpbb hr
      go_wp2_with fail
      refine (HP.out _).mono ?_
      rintro e w2 ⟨rfl, rfl⟩
      go_wp2_with fail
      refine wp_region_seq 12 [6, 7] (fun w' => w'.cell? ⟨q.t, 1, none⟩ = some (.pointer (some ⟨k.l, 0, none⟩)))
        (fun m v w' => if m = 6 then w'.ownsRow wr.heap.size 5 1 v (partB bs i).length (u8s (partB bs i)) ∧ Below wr.heap.size wr w' else v = .tuple #[.int .u64 r.2.2.1, .int .i64 r.2.2.2] ∧ TSPost wr b1 k1 q1 r.1 (N + 79 * (i - h) + 79) first size r.2.1 T w' ∧ w'.ownsRow w.heap.size 5 1 (.slice ta bs.length tc) bs.length (u8s bs)) fol (by kernel_rfl) (fun W hW hh => ⟨below_cell hW c1, ?_⟩)
      clear hh
      simp only [List.take_succ_cons, List.take_zero, List.drop_succ_cons, List.drop_zero]
      repeat (first
        | (refine rq_move _ (by first | exact Or.inl rfl | exact Or.inr rfl) rfl rfl ?_
           simp only [Act.put, Act.eval, Array.getD_eq_getD_getElem?, List.getElem?_toArray, List.getElem?_cons_zero, List.getElem?_cons_succ, Option.getD_some, List.setIfInBounds_toArray, List.set_cons_succ, List.set_cons_zero]
          )
        | (refine rq_big ?_ rfl rfl (fun w1 hcb1 => ?_) ?_
           rotate_left
           ((try obtain ⟨hcb1, hcb2, hcb3⟩ := hcb1); go_simp; (try simp (disch := omega) only [IntWalk.i64_quo, IntWalk.rem_in, IntWalk.i64_in, IntWalk.u64_in, IntWalk.u32_in, IntWalk.u8_in, IntWalk.toNatUp, IntWalk.iteOmega]); (try go_simp); rfl)
           simp only [Act.put, Act.eval, Array.getD_eq_getD_getElem?, List.getElem?_toArray, List.getElem?_cons_zero, List.getElem?_cons_succ, Option.getD_some, List.setIfInBounds_toArray, List.set_cons_succ, List.set_cons_zero]
          )
        | (refine rq_skip rfl rfl ?_
           simp only [Act.put, Act.eval, Array.getD_eq_getD_getElem?, List.getElem?_toArray, List.getElem?_cons_zero, List.getElem?_cons_succ, Option.getD_some, List.setIfInBounds_toArray, List.set_cons_succ, List.set_cons_zero]
          ))
      refine rq_late _ rfl rfl ?_ ?_
      · (unfold makes; go_simp; simp only [makesUpon])
        refine (HPR.out W (Src.of_owns (owns_below HQ.out.2.2.2.2.2.2.1 hW))).mono ?_
        rintro e w' ⟨u, rfl, hown, hB⟩
        exact ⟨u, rfl, below_cell (below_trans hW hB) c1, owns_base hown fun j hj => Nat.le_trans hW.size (hown.lt j hj).1, below_trans hW hB⟩
      rintro v6 W6 hc6 hR6
      obtain ⟨hown6, hB6⟩ : W6.ownsRow wr.heap.size 5 1 v6 (partB bs i).length (u8s (partB bs i)) ∧ Below wr.heap.size wr W6 := hR6
      obtain ⟨ua, uc, rfl, -⟩ := owns_shape hown6
      have hCA := HAP.out W6 b1 k1 _ (HQ.out.2.2.2.2.2.1.lsys.below hB6) hown6 (fun j hj => ⟨fun e => by have := (hown6.lt j hj).1; have := hlt1 j (.inl (.inl e)); omega, fun e => by have := (hown6.lt j hj).1; have := hlt1 j (.inl (.inr e)); omega⟩)
      rw [HQ.out.2.1] at hCA
      have HCA := Lib.hid hCA
      clear hCA
      simp only [Act.put, Act.eval, Array.getD_eq_getD_getElem?, List.getElem?_toArray, List.getElem?_cons_zero, List.getElem?_cons_succ, Option.getD_some, List.setIfInBounds_toArray, List.set_cons_succ, List.set_cons_zero]
      refine rq_late _ rfl rfl ?_ ?_
      · (unfold makes; go_simp; simp only [makesUpon])
        refine HCA.out.mono ?_
        rintro e w' ⟨rfl, hP⟩
        have hTS := TSPost.of_below hB6 ((HQ.out.2.2.2.2.2.1.below hB6).logged hP)
        obtain ⟨b9, k9, -, -, -, hX9, -⟩ := hP
        have htv9 : w'.ownsRow w.heap.size 5 1 (.slice ta bs.length tc) bs.length (u8s bs) := owns_ext (owns_below HQ.out.2.2.2.2.2.2.1 hB6) hX9 fun j hj e => HQ.out.2.2.2.2.2.2.2 j hj (.inl e)
        have hcl := hTS.log_cell
        rw [HQ.out.2.2.1, HQ.out.2.1] at hcl
        exact ⟨_, rfl, hcl, rfl, hTS, htv9⟩
      rintro v7 W7 hc7 hR7
      obtain ⟨rfl, hTS, htv7⟩ : v7 = .tuple #[.int .u64 r.2.2.1, .int .i64 r.2.2.2] ∧ TSPost wr b1 k1 q1 r.1 (N + 79 * (i - h) + 79) first size r.2.1 T W7 ∧ W7.ownsRow w.heap.size 5 1 (.slice ta bs.length tc) bs.length (u8s bs) := hR7
      simp only [Act.put, Act.eval, Array.getD_eq_getD_getElem?, List.getElem?_toArray, List.getElem?_cons_zero, List.getElem?_cons_succ, Option.getD_some, List.setIfInBounds_toArray, List.set_cons_succ, List.set_cons_zero]
      repeat (first
        | (refine rq_move _ (by first | exact Or.inl rfl | exact Or.inr rfl) rfl rfl ?_
           simp only [Act.put, Act.eval, Array.getD_eq_getD_getElem?, List.getElem?_toArray, List.getElem?_cons_zero, List.getElem?_cons_succ, Option.getD_some, List.setIfInBounds_toArray, List.set_cons_succ, List.set_cons_zero]
          )
        | (refine rq_big ?_ rfl rfl (fun w1 hcb1 => ?_) ?_
           rotate_left
           ((try obtain ⟨hcb1, hcb2, hcb3⟩ := hcb1); go_simp; (try simp (disch := omega) only [IntWalk.i64_quo, IntWalk.rem_in, IntWalk.i64_in, IntWalk.u64_in, IntWalk.u32_in, IntWalk.u8_in, IntWalk.toNatUp, IntWalk.iteOmega]); (try go_simp); rfl)
           simp only [Act.put, Act.eval, Array.getD_eq_getD_getElem?, List.getElem?_toArray, List.getElem?_cons_zero, List.getElem?_cons_succ, Option.getD_some, List.setIfInBounds_toArray, List.set_cons_succ, List.set_cons_zero]
          )
        | (refine rq_skip rfl rfl ?_
           simp only [Act.put, Act.eval, Array.getD_eq_getD_getElem?, List.getElem?_toArray, List.getElem?_cons_zero, List.getElem?_cons_succ, Option.getD_some, List.setIfInBounds_toArray, List.set_cons_succ, List.set_cons_zero]
          ))
      refine rq_nil ?_
      obtain ⟨b2, k2, q2, hd2, hl2, ht2, ha2, hX2, hS2⟩ := hTS
      have HS2 := Lib.hid (And.intro hd2 (And.intro hl2 (And.intro ht2 (And.intro ha2 (And.intro hX2 hS2)))))
      clear hd2 hl2 ht2 ha2 hX2 hS2 hc7 HCA hown6 hc6 HAP HPR
      obtain ⟨r1, r2, r3, r4⟩ := r
      simp only at HS2 HST htwo
      have HH := Lib.hid HQ.out
      have ha3 : ∀ j, allB b2 k2 q2 j → allB b k q j ∨ w.heap.size ≤ j := fun j hj => by
        rcases HS2.out.2.2.2.1 j hj with e | e
        · exact HH.out.2.2.2.1 j e
        · exact .inr (Nat.le_trans hsz1 e)
      have hX3 : Ext (allB b k q) w W7 := HH.out.2.2.2.2.1.trans HS2.out.2.2.2.2.1 fun j hj e => by
        rcases HH.out.2.2.2.1 j e with e | e
        · exact e
        · omega
      have HF := Lib.hid (And.intro (HS2.out.1.trans HH.out.1) (And.intro (HS2.out.2.1.trans HH.out.2.1) (And.intro (HS2.out.2.2.1.trans HH.out.2.2.1) (And.intro ha3 (And.intro hX3 HS2.out.2.2.2.2.2)))))
      clear ha3 hX3
      by_cases h0 : r4 = 0
      · subst h0
        go_wp2_with fail
        refine ⟨⟨i + 1, b2, k2, q2, by simp, by omega, by omega, ?_, HF.out.1, HF.out.2.1, HF.out.2.2.1, HF.out.2.2.2.1, HF.out.2.2.2.2.1, ?_, htv7, fun j hj e => ?_⟩, ?_⟩
        · rw [HST.out.1]
        · rw [HST.out.1, show 79 * (i + 1 - h) = 79 * (i - h) + 79 by omega, ← Nat.add_assoc]
          exact HF.out.2.2.2.2.2
        · rcases HS2.out.2.2.2.1 j e with e2 | e2
          · exact HH.out.2.2.2.2.2.2.2 j hj e2
          · have := owns_lt HH.out.2.2.2.2.2.2.1 hj
            omega
        · show K - ((i : Int) + 1).toNat < K - (i : Int).toNat
          omega
      · have hne : (r4 == 0) = false := by rw [beq_eq_false_iff_ne]; exact h0
        have hne2 : (r4 != 0) = true := by rw [bne, hne]; rfl
        go_wp2_with fail
        go_ret
        have hfin := HR.out _ (Hck.out.trans (HST.out.2 h0))
        simp only [ne_eq, h0, not_false_eq_true, if_true] at hfin
        rw [hfin]
        refine ⟨rfl, b2, k2, q2, HF.out.1, HF.out.2.1, HF.out.2.2.1, HF.out.2.2.2.1, HF.out.2.2.2.2.1, HF.out.2.2.2.2.2.mono ?_⟩
        have : 79 * (i - h) + 79 ≤ 79 * K := by omega
        omega
    · obtain rfl : i = K := by omega
      have hik' : ¬ (i : Int) < (i : Int) := by omega
      go_wp2_with fail
      refine (HP.out _).mono ?_
      rintro e w2 ⟨rfl, rfl⟩
      have hlN := lflushN_le (ckUp x first size L bs h (i - h)).1 (ckUp x first size L bs h (i - h)).2.1 (N + 79 * (i - h))
      have hokF := lflushR_ok (x := (ckUp x first size L bs h (i - h)).1) (Hok.out (i - h) (by omega))
      have hfin := HR.out _ Hck.out
      rw [if_neg (by rw [hck]; decide)] at hfin
      have HFL := Lib.hid (lflush_any b1 (ckUp x first size L bs h (i - h)).1 (N + 79 * (i - h)) first size k1 (ckUp x first size L bs h (i - h)).2.1 wr hS1.lsys)
      rw [hl1] at HFL
      obtain ⟨N2, hN2⟩ : ∃ m, lflushN (ckUp x first size L bs h (i - h)).1 (ckUp x first size L bs h (i - h)).2.1 (N + 79 * (i - h)) = m := ⟨_, rfl⟩
      obtain ⟨f, hf⟩ : ∃ f, lflushR (ckUp x first size L bs h (i - h)).1 (ckUp x first size L bs h (i - h)).2.1 = f := ⟨_, rfl⟩
      rw [hN2, hf] at HFL
      rw [hN2] at hlN
      rw [hf] at hokF hfin
      have HFIN := Lib.hid hfin
      have HQ := Lib.hid (And.intro hd1 (And.intro hl1 (And.intro ht1 (And.intro ha1 (And.intro hX1 hS1)))))
      clear hfin hd1 hl1 ht1 ha1 hX1 hS1 hown1 hno1 hck hN2 hf c1
      have c1 := HQ.out.2.2.2.2.2.tbl.cs.2.1
      rw [HQ.out.2.2.1, HQ.out.2.1] at c1
      go_wp2_with fail
      refine HFL.out.mono ?_
      rintro e w3 ⟨rfl, hP⟩
      obtain ⟨b3, k3, q3, hd3, hl3, ht3, ha3, hX3, hS3⟩ := HQ.out.2.2.2.2.2.logged hP
      clear hP HFL
      have ht3' := ht3.trans HQ.out.2.2.1
      have hl3' := hl3.trans HQ.out.2.1
      have c13 := hS3.tbl.cs.2.1
      have c63 := hS3.tbl.cs.2.2.2.2.2.2.1
      have cf3 := hS3.tbl.cs.2.2.2.2.2.2.2.2
      rw [ht3', hl3'] at c13
      rw [ht3'] at c63 cf3
      obtain ⟨f1, f2, f3⟩ := f
      simp only at HFIN hS3 hokF
      have H3 := Lib.hid (And.intro hd3 (And.intro hl3 (And.intro ht3 (And.intro ha3 (And.intro hX3 hS3)))))
      have HT3 := Lib.hid (And.intro ht3' hl3')
      clear hd3 hl3 ht3 ha3 hX3 hS3 ht3' hl3'
      by_cases h0 : f3 = 0
      · subst h0
        have hS4 := H3.out.2.2.2.2.2.headed 6 (.int .i64 0) { T with pending := 0 } rfl rfl
        rw [HT3.out.1] at hS4
        obtain ⟨b4, k4, q4, hd4, hl4, ht4, ha4, hX4, hS4⟩ := hS4
        have hl4' := hl4.trans HT3.out.2
        have HTR := Lib.hid (trim_any b4 f1 N2 first size k4 f2 n hn _ hS4.lsys (by omega) hokF)
        rw [hl4'] at HTR
        have H4 := Lib.hid (And.intro hd4 (And.intro hl4 (And.intro ht4 (And.intro ha4 (And.intro hX4 hS4)))))
        clear hd4 hl4 ht4 ha4 hX4 hS4 hl4'
        go_wp2_with fail
        refine HTR.out.mono ?_
        rintro e w5 ⟨rfl, hP⟩
        have hP5 := H4.out.2.2.2.2.2.logged hP
        clear hP HTR
        go_wp2_with fail
        go_ret
        have hfin := HFIN.out
        simp only [ne_eq, not_true_eq_false, if_false] at hfin
        rw [hfin]
        refine ⟨rfl, ?_⟩
        refine .trans HQ.out.1 HQ.out.2.1 HQ.out.2.2.1 HQ.out.2.2.2.1 HQ.out.2.2.2.2.1 ?_
        refine .trans H3.out.1 H3.out.2.1 H3.out.2.2.1 H3.out.2.2.2.1 H3.out.2.2.2.2.1 ?_
        refine .trans H4.out.1 H4.out.2.1 H4.out.2.2.1 H4.out.2.2.2.1 H4.out.2.2.2.2.1 ?_
        exact hP5.mono (by omega)
      · have hne : (f3 == 0) = false := by rw [beq_eq_false_iff_ne]; exact h0
        have hne2 : (f3 != 0) = true := by rw [bne, hne]; rfl
        go_wp2_with fail
        go_ret
        have hfin := HFIN.out
        simp only [ne_eq, h0, not_false_eq_true, if_true] at hfin
        rw [hfin]
        refine ⟨rfl, ?_⟩
        refine .trans HQ.out.1 HQ.out.2.1 HQ.out.2.2.1 HQ.out.2.2.2.1 HQ.out.2.2.2.2.1 ?_
        refine ⟨b3, k3, q3, H3.out.1, H3.out.2.1, H3.out.2.2.1, H3.out.2.2.2.1, H3.out.2.2.2.2.1, H3.out.2.2.2.2.2.mono (by omega)⟩
end Go.Proofs.YtbjofbhhnmehgaaGreatDoor.TT
namespace Go.Proofs.YtbjofbhhnmehgaaGreatDoor.TT
open Go.RowKit Go.RG Go.Hp Go.Proofs.YtbjofbhhnmehgaaGreatDoor


def Chg.good (c : Chg) : Bool := decide (0 < c.key.length) && decide (c.key.length ≤ 64) && (c.gone || decide (c.value.length ≤ 1024))
set_option maxRecDepth 100000 in
theorem good_any (va vb : Value) (c : Chg) (w : World) (hk : Src w va (u8s c.key)) (hv : Src w vb (u8s c.value)) :
    Calls Tryz.prog 57 #[.agg #[va, vb, .bool c.gone]] w fun e w' => e = .returned (.bool c.good) ∧ Below w.heap.size w w' := by
  obtain ⟨aa, ca, rfl, -⟩ := hk.shape
  obtain ⟨ab, cb, rfl, -⟩ := hv.shape
  rw [u8s_length, u8s_length]
  have hb0 := below_box w (.cells #[.slice aa c.key.length ca, .slice ab c.value.length cb, .bool c.gone] 78)
  clear hk hv
  obtain ⟨key, value, gone⟩ := c
  simp only at hb0 ⊢
  obtain ⟨n, hn⟩ : ∃ n, key.length = n := ⟨_, rfl⟩
  obtain ⟨m, hm⟩ : ∃ m, value.length = m := ⟨_, rfl⟩
  rw [hn, hm] at hb0
  rw [hn, hm]
  have hG : Chg.good ⟨key, value, gone⟩ = (decide (0 < n) && decide (n ≤ 64) && (gone || decide (m ≤ 1024))) := by unfold Chg.good; rw [hn, hm]
  have HG := Lib.hid hG
  clear hG hn hm
  by_cases h1 : 0 < n
  · by_cases h2 : n ≤ 64
    · cases gone with
      | true =>
        go_enter Tryz.func57, Tryz.ntmps57
        go_wp2_with fail
        go_ret
        exact ⟨by rw [HG.out]; simp [h1, h2], hb0⟩
      | false =>
        by_cases h3 : m ≤ 1024
        · have h3' : (m : Int) ≤ 1024 := by omega
          go_enter Tryz.func57, Tryz.ntmps57
          go_wp2_with fail
          go_ret
          exact ⟨by rw [HG.out]; simp [h1, h2, h3], hb0⟩
        · have h3' : ¬ (m : Int) ≤ 1024 := by omega
          go_enter Tryz.func57, Tryz.ntmps57
          go_wp2_with fail
          go_ret
          exact ⟨by rw [HG.out]; simp [h1, h2, h3], hb0⟩
    · have h2' : ¬ (n : Int) ≤ 64 := by omega
      go_enter Tryz.func57, Tryz.ntmps57
      go_wp2_with fail
      go_ret
      exact ⟨by rw [HG.out]; simp [h2], hb0⟩
  · have h1' : ¬ (0 : Int) < (n : Int) := by omega
    go_enter Tryz.func57, Tryz.ntmps57
    go_wp2_with fail
    go_ret
    exact ⟨by rw [HG.out]; simp [h1], hb0⟩
end Go.Proofs.YtbjofbhhnmehgaaGreatDoor.TT
namespace Go.Proofs.YtbjofbhhnmehgaaGreatDoor.TT
open Go.RowKit Go.RG Go.Hp Go.Proofs.YtbjofbhhnmehgaaGreatDoor


def badB (cs : List Chg) : Prop := 80 < cs.length ∨ (cs.any fun c => !c.good) = true
instance (cs : List Chg) : Decidable (badB cs) := by unfold badB; infer_instance
theorem BatchAt.shape {w : World} {F : Nat → Prop} {v : Value} {cs : List Chg} (h : BatchAt w F v cs) : ∃ a cap, v = .slice a cs.length cap := by
  obtain ⟨a, cap, rfl, -⟩ := h
  exact ⟨a, cap, rfl⟩
theorem isBytes_chg {c : Chg} (hk : isBytes c.key) (hv : isBytes c.value) (hkl : c.key.length ≤ 64) (hvl : c.value.length ≤ 1024) : isBytes (chgB c) := by
  have h1 := isBytes_lenB hk (by omega)
  have h2 := isBytes_lenB hv (by omega)
  unfold chgB
  split
  · intro b hb
    rcases List.mem_cons.1 hb with rfl | hb
    · omega
    · exact h1 b hb
  · intro b hb
    rcases List.mem_cons.1 hb with rfl | hb
    · omega
    · exact (h1.append h2) b hb
theorem isBytes_rec {cs : List Chg} (hl : cs.length ≤ 80) (h : ∀ c ∈ cs, c.key.length ≤ 64 ∧ c.value.length ≤ 1024) (hv : ∀ c ∈ cs, isBytes c.key ∧ isBytes c.value ∧ c.value.length ≤ 1024) : isBytes (recB cs) := by
  unfold recB
  refine isBytes.append ?_ ?_
  · intro b hb
    rcases List.mem_cons.1 hb with rfl | hb
    · omega
    · exact isBytes_sdnv _ (by omega) b hb
  · intro b hb
    obtain ⟨c, hc, hb⟩ := List.mem_flatMap.1 hb
    exact isBytes_chg (hv c hc).1 (hv c hc).2.1 (h c hc).1 (h c hc).2 b hb
theorem recB_pos (cs : List Chg) : 0 < (recB cs).length := by unfold recB; simp
end Go.Proofs.YtbjofbhhnmehgaaGreatDoor.TT
