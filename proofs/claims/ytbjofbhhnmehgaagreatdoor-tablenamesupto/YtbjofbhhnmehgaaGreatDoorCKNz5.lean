/-
  seglog.Open.
-/
import Derived.Test.YtbjofbhhnmehgaaGreatDoorCKNz4
import Derived.WalkMore
import Derived.Test.YtbjofbhhnmehgaaGreatDoorRows
import Derived.Test.YtbjofbhhnmehgaaGreatDoorCKNz0
import Derived.Laws.CopyOwn
import Derived.Lib.Overlaps
set_option linter.unusedSimpArgs false
set_option linter.unusedVariables false
namespace Go.Proofs.YtbjofbhhnmehgaaGreatDoor.TT
open Go.RowKit Go.RG Go.Hp Go.Proofs.YtbjofbhhnmehgaaGreatDoor


/-- the log while it is scanned -/
def scanL (s : Scan) : LogS := ⟨noHead, s.next, s.starts, s.epochs, false⟩
/-- what Open hands back -/
def OpenPost (w : World) (b : Bks) (x : Dsk) (N first size : Nat) (e : Ending) (w' : World) : Prop :=
  if (openR x first size).2.1 = 0 then ∃ (b' : Bks) (k' : LBk), e = .returned (.tuple #[.pointer (some ⟨k'.l, 0, none⟩), .int .i64 0]) ∧ b'.d = b.d ∧ (∀ j, b'.all j ∨ k'.all j → b.all j ∨ w.heap.size ≤ j) ∧ Ext b.all w w' ∧ LSys w' b' (openR x first size).1 (N + 1) first size k' (openR x first size).2.2
  else e = .returned (.tuple #[.pointer none, .int .i64 (openR x first size).2.1]) ∧ SysPost w b (openR x first size).1 (N + 1) w'
set_option maxHeartbeats 4000000 in
set_option maxRecDepth 100000 in
theorem open_any (b : Bks) (x : Dsk) (N first size : Nat) (h1 : 2 < size) (h2 : first + size ≤ x.dur.length) (w : World) (h : Sys w b x N) (hN : N ≤ 1099511000000) :
    Calls Tryz.prog 45 #[.pointer (some ⟨b.d, 0, none⟩), .int .i64 first, .int .i64 size] w fun e w' => OpenPost w b x N first size e w' := by
  have hlim := h.dsk.lim
  have hb0 := below_box w (.cells #[.pointer (some ⟨b.d, 0, none⟩), .int .i64 first, .int .i64 size] 126)
  have g0 := World.alloc_heap_new w (.cells #[.pointer (some ⟨b.d, 0, none⟩), .int .i64 first, .int .i64 size] 126)
  have hlt := h.dsk.lt
  have H := Lib.hid h
  have HR := Lib.hid (ready_any b x first size _ (h.below hb0).dsk h1 h2)
  have hful := h.dsk.full
  have hkk := h.ok.ok
  have HFK := Lib.hid (And.intro hful hkk)
  have Hlow := Lib.hid (show (countsR x first size).1.low from runR_low hful hkk first size 2)
  clear h hful hkk
  unfold placeV at HR
  go_enter Tryz.func45, Tryz.ntmps45
  go_wp2_with fail
  go_step3
  go_wp2_with fail
  generalize World.alloc w _ = w1 at hb0 g0 HR ⊢
  refine HR.out.mono ?_
  rintro e w2 ⟨rfl, hB2⟩
  have gp := below_heap hB2 g0
  have hB2 := below_trans hb0 hB2
  have hf0 : ∀ o, x.off = o → openR x first size = if o then (x, 5, openL x first size noHead) else
    if (countsR x first size).2 < 0 then (x, 50, openL x first size noHead) else
    if (countsR x first size).1.gen = 281474976710655 ∨ (countsR x first size).1.epoch = 281474976710655 then (x, 6, openL x first size noHead) else
    (turnX x first size (openL x first size (countsR x first size).1) (openH (countsR x first size).1), turnE x first size (openL x first size (countsR x first size).1) (openH (countsR x first size).1), turnL x first size (openL x first size (countsR x first size).1) (openH (countsR x first size).1)) := fun o h => by unfold openR; rw [h]
  obtain ⟨o, hoff⟩ : ∃ o, x.off = o := ⟨_, rfl⟩
  have Hf0 := Lib.hid (hf0 o hoff)
  have hre : readyE x = if o then 5 else 0 := by unfold readyE; rw [hoff]
  rw [hre]
  clear hf0 hre hoff HR g0
  cases o
  · rw [if_neg (by decide)]
    have HC := Lib.hid (counts_any b x first size (by omega) (by omega) w2 (H.out.below hB2).dsk H.out.ok.ok (H.out.below hB2).pkg)
    have Hf1 := Lib.hid (Hf0.out.trans (if_neg (by decide)))
    generalize countsR x first size = cr at HC Hf1 Hlow
    obtain ⟨⟨cg, ce, cf, cl⟩, at'⟩ := cr
    unfold headV placeV at HC
    simp only at HC Hf1 Hlow
    obtain ⟨p0, p1, p2⟩ : w2.cell? ⟨w.heap.size, 0, none⟩ = some (.pointer (some ⟨b.d, 0, none⟩)) ∧ w2.cell? ⟨w.heap.size, 1, none⟩ = some (.int .i64 first) ∧ w2.cell? ⟨w.heap.size, 2, none⟩ = some (.int .i64 size) := by simp [World.cell?, gp]
    clear Hf0
    go_wp2_with fail
    refine HC.out.mono ?_
    clear HC p0 p1 p2
    rintro e w4 ⟨rfl, hB4⟩
    have gp4 := below_heap hB4 gp
    have hBw4 := below_trans hB2 hB4
    have hB5 := below_box w4 (.cells #[.int .u64 cg, .int .u64 ce, .int .u64 cf, .int .u64 cl] 128)
    have gp5 := below_heap hB5 gp4
    have gh5 := World.alloc_heap_new w4 (.cells #[.int .u64 cg, .int .u64 ce, .int .u64 cf, .int .u64 cl] 128)
    have hB5' := below_trans hB2 (below_trans hB4 hB5)
    obtain ⟨l1, l2, l3, l4⟩ := Hlow.out
    simp only at l1 l2 l3 l4
    clear gp
    by_cases c1 : at' < 0
    · have Hf2 := Lib.hid (Hf1.out.trans (if_pos c1))
      go_wp2_with fail
      go_ret2
      unfold OpenPost
      rw [Hf2.out, if_neg (show ¬ (50 : Int) = 0 by decide)]
      exact ⟨rfl, .mono (.same H.out hB5') (by omega)⟩
    · have Hf2 := Lib.hid (Hf1.out.trans (if_neg c1))
      clear Hf1 hB4
      by_cases c2 : cg = 281474976710655
      · have Hf3 := Lib.hid (Hf2.out.trans (if_pos (.inl c2)))
        subst c2
        go_wp2_with fail
        go_ret2
        unfold OpenPost
        rw [Hf3.out, if_neg (show ¬ (6 : Int) = 0 by decide)]
        exact ⟨rfl, .mono (.same H.out hB5') (by omega)⟩
      · have c2' : ((cg : Int) == 281474976710655) = false := by rw [beq_eq_false_iff_ne]; omega
        by_cases c3 : ce = 281474976710655
        · have Hf3 := Lib.hid (Hf2.out.trans (if_pos (.inr c3)))
          subst c3
          go_wp2_with fail
          go_ret2
          unfold OpenPost
          rw [Hf3.out, if_neg (show ¬ (6 : Int) = 0 by decide)]
          exact ⟨rfl, .mono (.same H.out hB5') (by omega)⟩
        · have c3' : ((ce : Int) == 281474976710655) = false := by rw [beq_eq_false_iff_ne]; omega
          have Hf3 := Lib.hid (Hf2.out.trans (if_neg fun h => h.elim c2 c3))
          clear Hf2 Hlow
          obtain ⟨p0, p1, p2⟩ : w4.cell? ⟨w.heap.size, 0, none⟩ = some (.pointer (some ⟨b.d, 0, none⟩)) ∧ w4.cell? ⟨w.heap.size, 1, none⟩ = some (.int .i64 first) ∧ w4.cell? ⟨w.heap.size, 2, none⟩ = some (.int .i64 size) := by simp [World.cell?, gp4]
          have hw4 := block_lt_of_heap gp4
          clear gp4
          go_wp2_with fail
          go_step3
          go_wp2_with fail
          obtain ⟨hbl, glh, gll⟩ := allocs2 w4 (.cells #[.int .u64 cg, .int .u64 ce, .int .u64 cf, .int .u64 cl] 128) (.cells #[.pointer (some ⟨b.d, 0, none⟩), .int .i64 first, .int .i64 size, .int .u64 0, .int .u64 0, .int .u64 0, .int .u64 0, .int .u64 cf, .slice none 0 0, .slice none 0 0, .bool false] 134)
          have glp := below_heap (below_box _ (.cells #[.pointer (some ⟨b.d, 0, none⟩), .int .i64 first, .int .i64 size, .int .u64 0, .int .u64 0, .int .u64 0, .int .u64 0, .int .u64 cf, .slice none 0 0, .slice none 0 0, .bool false] 134)) gp5
          have hBl := below_trans hBw4 hbl
          have hwls : ((w4.alloc (.cells #[.int .u64 cg, .int .u64 ce, .int .u64 cf, .int .u64 cl] 128)).alloc (.cells #[.pointer (some ⟨b.d, 0, none⟩), .int .i64 first, .int .i64 size, .int .u64 0, .int .u64 0, .int .u64 0, .int .u64 0, .int .u64 cf, .slice none 0 0, .slice none 0 0, .bool false] 134)).heap.size = w4.heap.size + 1 + 1 := by simp
          generalize World.alloc (World.alloc w4 _) _ = wl at hbl glh gll glp hBl hwls ⊢
          obtain ⟨k, hk⟩ : ∃ k : LBk, k = ⟨w4.heap.size + 1, .slice none 0 0, .slice none 0 0⟩ := ⟨_, rfl⟩
          have hkl : k.l = w4.heap.size + 1 := by rw [hk]
          have hw42 : w.heap.size ≤ w4.heap.size := Nat.le_of_lt hw4
          have hkall : ∀ j, k.all j → j = w4.heap.size + 1 := by
            rw [hk]
            rintro j (h | h | h)
            · exact h
            · cases h
            · cases h
          have hS0 : LSys wl b x N first size k (scanL ⟨[], [], cf, cl, true⟩) := by
            refine ⟨H.out.below hBl, ?_, fun j hj hb => ?_, h1, h2⟩
            · rw [hk]
              refine ⟨gll, World.ownsRow_nil _ _ _ _, World.ownsRow_nil _ _ _ _, (by intro h; cases h), (by intro h; cases h), (by intro j h; cases h), fun j hj => ?_⟩
              have := hkall j (by rw [hk]; exact hj)
              have := H.out.pkg.lt
              omega
            · have := hkall j hj
              have := hlt j hb
              omega
          have HS0 := Lib.hid (And.intro hS0 hkall)
          have Hwl := Lib.hid hwls
          have Hh := Lib.hid hk
          clear hS0 hkall hwls gll hk gp5 gh5 hB5 hB5' hbl p0 p1 p2
          rw [← hkl]
          have Hkl := Lib.hid hkl
          clear hkl
          go_loopw [13] (fun vl wr => ∃ j : Nat, (scanUp x first size ce cf cl j).go = true ∧ vl = .int .u64 (scanUp x first size ce cf cl j).least ∧ LPost wl b k x N first size (scanL (scanUp x first size ce cf cl j)) wr ∧ wr.heap[w.heap.size]? = some (.cells #[.pointer (some ⟨b.d, 0, none⟩), .int .i64 first, .int .i64 size] 126 (0, 0)) ∧ wr.heap[w4.heap.size]? = some (.cells #[.int .u64 cg, .int .u64 ce, .int .u64 cf, .int .u64 cl] 128 (0, 0)))
            (fun _ wr => 281474976710657 - (intOf ((wr.cell? ⟨k.l, 7, none⟩).getD undef)).toNat)
          case atStart => exact ⟨0, rfl, rfl, .same HS0.out.1 (Below.refl _ _), glp, glh⟩
          case round =>
            obtain ⟨j, hgo, rfl, ⟨b2, k2, hd2, hl2, ha2, hX2, hS2⟩, gp, gh⟩ := hrel
            clear glp glh
            have hok := scanUp_ok HFK.out.1 HFK.out.2 (first := first) (size := size) (most := ce) (l0 := cl) (show cf ≤ 281474976710656 by omega) j
            have Hsu := Lib.hid (show scanUp x first size ce cf cl j = scanUp x first size ce cf cl j from rfl)
            obtain ⟨s, hs⟩ : ∃ s, scanUp x first size ce cf cl j = s := ⟨_, rfl⟩
            rw [hs] at hgo hS2 hok ⊢
            have Hs := Lib.hid hs
            have hcs := hS2.log.cs
            rw [hl2, hd2] at hcs
            obtain ⟨y0, y1, y2, -, y4, -, -, y7, y8, y9, -, -⟩ := hcs
            obtain ⟨p0, p1, p2⟩ : wr.cell? ⟨w.heap.size, 0, none⟩ = some (.pointer (some ⟨b.d, 0, none⟩)) ∧ wr.cell? ⟨w.heap.size, 1, none⟩ = some (.int .i64 first) ∧ wr.cell? ⟨w.heap.size, 2, none⟩ = some (.int .i64 size) := by simp [World.cell?, gp]
            obtain ⟨q0, q1, q2, q3⟩ := box4 gh
            have y7 : wr.cell? ⟨k.l, 7, none⟩ = some (.int .u64 (s.next : Int)) := y7
            obtain ⟨n, hn⟩ : ∃ n, s.next = n := ⟨_, rfl⟩
            rw [hn] at y7
            have hnt := hok.top
            rw [hn] at hnt
            have HRc := Lib.hid fun w' (hw : Below wr.heap.size wr w') => record_any b2 x first size n s.least ce (by omega) h1 h2 w' (hS2.below hw).sys.dsk HFK.out.2 (hS2.below hw).sys.pkg
            unfold placeV at HRc
            rw [hd2] at HRc
            have HS2 := Lib.hid (And.intro hS2 (And.intro ha2 hX2))
            have HGh := Lib.hid (And.intro gp gh)
            have Hn := Lib.hid hn
            clear hS2 ha2 hX2 gp gh hs Hsu hn
            go_wp2_with fail
            have hstep : scanStep x first size ce cf s = match recordR x first size n s.least ce with
              | .error _ => { s with go := false }
              | .ok d => if 281474976710656 < n + need d.1.length ∨ size - 2 < n + need d.1.length - cf then { s with go := false } else ⟨s.starts ++ [n], s.epochs ++ [d.2], n + need d.1.length, d.2, true⟩ := by
              unfold scanStep
              rw [Hn.out]
              cases recordR x first size n s.least ce <;> rfl
            have Hstep := Lib.hid hstep
            have hrful := fun d hd => recordR_full HFK.out.1 HFK.out.2 (first := first) (size := size) (n := n) (least := s.least) (most := ce) (d := d) hd
            generalize recordR x first size n s.least ce = rc at HRc Hstep hrful
            clear hstep
            cases rc with
            | error c =>
              refine wp_region_rg (fun i => if i = 8 then some (fun v _ => c ≠ 0 ∧ v = .tuple #[.slice none 0 0, .int .u64 0, .int .i64 c]) else none) fol (by kernel_rfl) (fun W hW hh => ?_)
              clear hh
              have t0 := rcell hW p0
              have t1 := rcell hW p1
              have t2 := rcell hW p2
              have t7 := rcell hW y7
              have t5 := rcell hW q1
              repeat ((first | refine lex_move _ (by first | exact Or.inl rfl | exact Or.inr rfl) rfl rfl ?_ | (refine lex_float ?_ rfl rfl (fun w1 hb1 hf1 => ?_) ?_; rotate_left; (go_simp; (try simp (disch := omega) only [IntWalk.i64_quo, IntWalk.rem_in, IntWalk.i64_in, IntWalk.u64_in, IntWalk.u32_in, IntWalk.u8_in, IntWalk.toNatUp, IntWalk.iteOmega]); (try go_simp); rfl)) | refine lex_skip rfl ?_); simp only [Act.put, Act.eval, Array.getD_eq_getD_getElem?, List.getElem?_toArray, List.getElem?_cons_zero, List.getElem?_cons_succ, Option.getD_some, List.setIfInBounds_toArray, List.set_cons_succ, List.set_cons_zero])
              refine lex_make _ rfl (by exact fun _ _ _ h _ => h) rfl (fun w1 hb1 hf1 => ?_) ?_
              · (unfold makes; go_simp; simp only [makesUpon])
                refine (HRc.out _ (below_trans hW hb1)).mono ?_
                rintro e w' ⟨hpost, hbb⟩
                obtain ⟨hc, rfl⟩ : c ≠ 0 ∧ e = _ := hpost
                exact ⟨_, rfl, hbb, hc, rfl⟩
              rintro v8 W8 hB8 ⟨hc, rfl⟩
              simp only [Act.put, Act.eval, Array.getD_eq_getD_getElem?, List.getElem?_toArray, List.getElem?_cons_zero, List.getElem?_cons_succ, Option.getD_some, List.setIfInBounds_toArray, List.set_cons_succ, List.set_cons_zero]
              repeat ((first | refine lex_move _ (by first | exact Or.inl rfl | exact Or.inr rfl) rfl rfl ?_ | (refine lex_float ?_ rfl rfl (fun w1 hb1 hf1 => ?_) ?_; rotate_left; (go_simp; (try simp (disch := omega) only [IntWalk.i64_quo, IntWalk.rem_in, IntWalk.i64_in, IntWalk.u64_in, IntWalk.u32_in, IntWalk.u8_in, IntWalk.toNatUp, IntWalk.iteOmega]); (try go_simp); rfl)) | refine lex_skip rfl ?_); simp only [Act.put, Act.eval, Array.getD_eq_getD_getElem?, List.getElem?_toArray, List.getElem?_cons_zero, List.getElem?_cons_succ, Option.getD_some, List.setIfInBounds_toArray, List.set_cons_succ, List.set_cons_zero])
              refine lex_nil ?_
              clear t0 t1 t2 t7 t5
              have hW8 := below_trans hW hB8
              have y7' := below_cell hW8 y7
              have HNd := Lib.hid fun w' => need_any 0 (by decide) w'
              go_wp2_with fail
              refine wp_region_rg (fun i => if i = 6 then some (fun v _ => v = .int .i64 (need 0)) else none) fol (by kernel_rfl) (fun V hV hh => ?_)
              clear hh
              have hnd := (need_pos 0 (by omega)).2
              have e1 := IntWalk.u64_in ((n : Int) + (need 0 : Int)) (by omega)
              have t7 := rcell hV y7'
              repeat ((first | refine lex_move _ (by first | exact Or.inl rfl | exact Or.inr rfl) rfl rfl ?_ | (refine lex_float ?_ rfl rfl (fun w1 hb1 hf1 => ?_) ?_; rotate_left; (go_simp; (try simp (disch := omega) only [IntWalk.i64_quo, IntWalk.rem_in, IntWalk.i64_in, IntWalk.u64_in, IntWalk.u32_in, IntWalk.u8_in, IntWalk.toNatUp, IntWalk.iteOmega]); (try go_simp); rfl)) | refine lex_skip rfl ?_); simp only [Act.put, Act.eval, Array.getD_eq_getD_getElem?, List.getElem?_toArray, List.getElem?_cons_zero, List.getElem?_cons_succ, Option.getD_some, List.setIfInBounds_toArray, List.set_cons_succ, List.set_cons_zero])
              refine lex_make _ rfl (by exact fun _ _ _ h _ => h) rfl (fun w1 hb1 hf1 => ?_) ?_
              · (unfold makes; go_simp; simp only [makesUpon])
                refine (HNd.out _).mono ?_
                rintro e w' ⟨rfl, rfl⟩
                exact ⟨_, rfl, Below.refl _ _, rfl⟩
              rintro v9 W9 hB9 rfl
              simp only [Act.put, Act.eval, Array.getD_eq_getD_getElem?, List.getElem?_toArray, List.getElem?_cons_zero, List.getElem?_cons_succ, Option.getD_some, List.setIfInBounds_toArray, List.set_cons_succ, List.set_cons_zero]
              repeat ((first | refine lex_move _ (by first | exact Or.inl rfl | exact Or.inr rfl) rfl rfl ?_ | (refine lex_float ?_ rfl rfl (fun w1 hb1 hf1 => ?_) ?_; rotate_left; (go_simp; (try simp (disch := omega) only [IntWalk.i64_quo, IntWalk.rem_in, IntWalk.i64_in, IntWalk.u64_in, IntWalk.u32_in, IntWalk.u8_in, IntWalk.toNatUp, IntWalk.iteOmega]); (try go_simp); rfl)) | refine lex_skip rfl ?_); simp only [Act.put, Act.eval, Array.getD_eq_getD_getElem?, List.getElem?_toArray, List.getElem?_cons_zero, List.getElem?_cons_succ, Option.getD_some, List.setIfInBounds_toArray, List.set_cons_succ, List.set_cons_zero])
              refine lex_nil ?_
              clear t7
              have hW9 := below_trans hW8 (below_trans hV hB9)
              have hcb : (c != 0) = true := by simp [hc]
              have Hend := Lib.hid (scanR_of HFK.out.1 HFK.out.2 (first := first) (size := size) (hd := ⟨cg, ce, cf, cl⟩) (show cf ≤ 281474976710656 by omega) h1 (j := j) (by rw [Hs.out]; exact hgo) (by rw [Hs.out, Hstep.out]))
              rw [show scanUp x first size (⟨cg, ce, cf, cl⟩ : Head).epoch (⟨cg, ce, cf, cl⟩ : Head).first (⟨cg, ce, cf, cl⟩ : Head).least j = s from Hs.out] at Hend
              clear y0 y1 y2 y4 y7 y8 y9 p0 p1 p2 q0 q1 q2 q3 y7'
              have gh9 := below_heap hW9 HGh.out.2
              obtain ⟨z0, z1, z2, z3⟩ := box4 gh9
              have fz : ∀ j, W9.frozen? ⟨w4.heap.size, j, none⟩ = false := fun j => by simp [World.frozen?, gh9]
              have eg := IntWalk.u64_in ((cg : Int) + 1) (by omega)
              have ee := IntWalk.u64_in ((ce : Int) + 1) (by omega)
              have hX10 := (Ext.setCell (S := (· = w4.heap.size)) (w := W9) (p := ⟨w4.heap.size, 0, none⟩) rfl (.int .u64 ((cg : Int) + 1))).trans (Ext.setCell (S := (· = w4.heap.size)) (p := ⟨w4.heap.size, 1, none⟩) rfl (.int .u64 ((ce : Int) + 1))) (fun _ _ h => h)
              have hLS9 := HS2.out.1.below hW9
              have hbl4 : wl.heap.size = w4.heap.size + 1 + 1 := Hwl.out
              have hnb : 10 ≤ w4.heap.size ∧ ¬ b2.all w4.heap.size ∧ ¬ k2.all w4.heap.size := by
                have h10 := H.out.pkg.lt
                have hno : ¬ ((b.all w4.heap.size ∨ k.all w4.heap.size) ∨ wl.heap.size ≤ w4.heap.size) := by
                  rintro ((h | h) | h)
                  · have := hlt _ h; omega
                  · have := HS0.out.2 _ h; omega
                  · omega
                exact ⟨by omega, fun h => hno (HS2.out.2.1 _ (.inl h)), fun h => hno (HS2.out.2.1 _ (.inr h))⟩
              have H10 := Lib.hid (And.intro (hLS9.ext hX10 fun j e => by subst e; exact hnb) ((Ext.of_below hW9).trans hX10 fun _ _ h => h))
              have HT := Lib.hid fun W (hW : LSys W b2 x N first size k2 (scanL s)) => turn_any b2 x N first size k2 (scanL s) ⟨cg + 1, ce + 1, cf, cl⟩ W hW (by omega) (by show cg + 1 < _; omega) (by show ce + 1 < _; omega) (by show cf ≤ _; omega) hok.rise hok.len (by have h1 := hok.many; have h2 := hok.ring; show s.starts.length ≤ _; omega) (fun m hm => Nat.lt_of_le_of_lt (hok.ep m hm) l2)
              unfold headV at HT
              simp only at HT
              rw [hl2] at HT
              have Hbl := Lib.hid hnb
              clear hX10 hLS9 hnb hbl4 gh9
              go_wp2_with fail
              have hLS10 := H10.out.1
              have hX10 := H10.out.2
              generalize World.setCell (World.setCell W9 _ _) _ _ = W10 at hLS10 hX10 ⊢
              clear z0 z1 z2 z3 fz
              refine (HT.out W10 hLS10).mono ?_
              rintro e W11 ⟨rfl, hP11⟩
              have e1 : Ext b.all w wr := (Ext.of_below hBl).trans HS2.out.2.2 fun j hj h => h.elim id fun h => by have := HS0.out.2 j h; omega
              have e2 : Ext b.all w W10 := e1.trans hX10 fun j hj e => by subst e; omega
              obtain ⟨b3, k3, hd3, hl3, ha3, hX3, hS3⟩ := hP11
              have hj2 : ∀ j, (b2.all j ∨ k2.all j) → b.all j ∨ w.heap.size ≤ j := fun j hj => by
                rcases HS2.out.2.1 j hj with (h | h) | h
                · exact .inl h
                · have := HS0.out.2 j h; right; omega
                · have := Hwl.out; right; omega
              have e3 : Ext b.all w W11 := e2.trans hX3 fun j hj h => (hj2 j h).elim id fun h => by omega
              have hj3 : ∀ j, (b3.all j ∨ k3.all j) → b.all j ∨ w.heap.size ≤ j := fun j hj => by
                rcases ha3 j hj with h | h
                · exact hj2 j h
                · have := e2.size; right; omega
              have hop : openL x first size ⟨cg, ce, cf, cl⟩ = scanL s := by
                unfold openL scanL
                rw [Hend.out]
              have hf3 := Hf3.out
              rw [hop] at hf3
              change openR x first size = (turnX x first size (scanL s) ⟨cg + 1, ce + 1, cf, cl⟩, turnE x first size (scanL s) ⟨cg + 1, ce + 1, cf, cl⟩, turnL x first size (scanL s) ⟨cg + 1, ce + 1, cf, cl⟩) at hf3
              have hFin : (turnE x first size (scanL s) ⟨cg + 1, ce + 1, cf, cl⟩ = 0 → OpenPost w b x N first size (.returned (.tuple #[.pointer (some ⟨k.l, 0, none⟩), .int .i64 0])) W11) ∧ (turnE x first size (scanL s) ⟨cg + 1, ce + 1, cf, cl⟩ = 5 → OpenPost w b x N first size (.returned (.tuple #[.pointer none, .int .i64 5])) W11) := by
                unfold OpenPost
                rw [hf3]
                simp only
                refine ⟨fun h => ?_, fun h => ?_⟩
                · rw [if_pos h]
                  exact ⟨b3, k3, by rw [hl3, hl2], hd3.trans hd2, hj3, e3, hS3.mono (turnN_le _ _ _ _ _ _)⟩
                · rw [if_neg (by rw [h]; decide), h]
                  exact ⟨rfl, b3, hd3.trans hd2, fun j hj => hj3 j (.inl hj), e3, hS3.sys.mono (turnN_le _ _ _ _ _ _)⟩
              have HFin := Lib.hid hFin
              clear e1 e2 e3 hj2 hj3 hS3 hX3 ha3 hX10 hLS10 hop hf3 hFin
              rcases turnE_two x first size (scanL s) ⟨cg + 1, ce + 1, cf, cl⟩ with hE | hE
              · rw [hE]
                have HE := Lib.hid hE
                clear hE
                go_wp2_with fail
                go_ret2
                exact HFin.out.1 HE.out
              · rw [hE]
                have HE := Lib.hid hE
                clear hE
                go_wp2_with fail
                go_ret2
                exact HFin.out.2 HE.out
            | ok d =>
              obtain ⟨dl, ep⟩ := d
              obtain ⟨hd1, -, hd3', hd4⟩ := hrful (dl, ep) rfl
              simp only at hd1 hd3' hd4
              obtain ⟨m, hm⟩ : ∃ m, dl.length = m := ⟨_, rfl⟩
              rw [hm] at hd1
              have hst2 := Hstep.out
              simp only [hm] at hst2
              have Hst2 := Lib.hid hst2
              refine wp_region_rg (fun i => if i = 8 then some (fun v _ => ∃ g o c, v = .tuple #[.slice (some ⟨g, o, none⟩) m c, .int .u64 ep, .int .i64 0]) else none) fol (by kernel_rfl) (fun W hW hh => ?_)
              clear hh hst2 Hstep
              have Hm := Lib.hid hm
              clear hm
              have t0 := rcell hW p0
              have t1 := rcell hW p1
              have t2 := rcell hW p2
              have t7 := rcell hW y7
              have t5 := rcell hW q1
              repeat ((first | refine lex_move _ (by first | exact Or.inl rfl | exact Or.inr rfl) rfl rfl ?_ | (refine lex_float ?_ rfl rfl (fun w1 hb1 hf1 => ?_) ?_; rotate_left; (go_simp; (try simp (disch := omega) only [IntWalk.i64_quo, IntWalk.rem_in, IntWalk.i64_in, IntWalk.u64_in, IntWalk.u32_in, IntWalk.u8_in, IntWalk.toNatUp, IntWalk.iteOmega]); (try go_simp); rfl)) | refine lex_skip rfl ?_); simp only [Act.put, Act.eval, Array.getD_eq_getD_getElem?, List.getElem?_toArray, List.getElem?_cons_zero, List.getElem?_cons_succ, Option.getD_some, List.setIfInBounds_toArray, List.set_cons_succ, List.set_cons_zero])
              refine lex_make _ rfl (by exact fun _ _ _ h _ => h) rfl (fun w1 hb1 hf1 => ?_) ?_
              · (unfold makes; go_simp; simp only [makesUpon])
                refine (HRc.out _ (below_trans hW hb1)).mono ?_
                rintro e w' ⟨⟨u, rfl, hwin⟩, hbb⟩
                obtain ⟨g, o, c, -, rfl, -⟩ := hwin
                exact ⟨_, rfl, hbb, g, o, c, by rw [u8s_length, Hm.out]⟩
              rintro v8 W8 hB8 ⟨rg, ro, rc', rfl⟩
              simp only [Act.put, Act.eval, Array.getD_eq_getD_getElem?, List.getElem?_toArray, List.getElem?_cons_zero, List.getElem?_cons_succ, Option.getD_some, List.setIfInBounds_toArray, List.set_cons_succ, List.set_cons_zero]
              repeat ((first | refine lex_move _ (by first | exact Or.inl rfl | exact Or.inr rfl) rfl rfl ?_ | (refine lex_float ?_ rfl rfl (fun w1 hb1 hf1 => ?_) ?_; rotate_left; (go_simp; (try simp (disch := omega) only [IntWalk.i64_quo, IntWalk.rem_in, IntWalk.i64_in, IntWalk.u64_in, IntWalk.u32_in, IntWalk.u8_in, IntWalk.toNatUp, IntWalk.iteOmega]); (try go_simp); rfl)) | refine lex_skip rfl ?_); simp only [Act.put, Act.eval, Array.getD_eq_getD_getElem?, List.getElem?_toArray, List.getElem?_cons_zero, List.getElem?_cons_succ, Option.getD_some, List.setIfInBounds_toArray, List.set_cons_succ, List.set_cons_zero])
              refine lex_nil ?_
              clear t0 t1 t2 t7 t5
              have hW8 := below_trans hW hB8
              have y7' := below_cell hW8 y7
              have HNd := Lib.hid fun w' => need_any m (by omega) w'
              go_wp2_with fail
              refine wp_region_rg (fun i => if i = 6 then some (fun v _ => v = .int .i64 (need m)) else none) fol (by kernel_rfl) (fun V hV hh => ?_)
              clear hh
              have hnd := (need_pos m (by omega)).2
              have e1 := IntWalk.u64_in ((n : Int) + (need m : Int)) (by omega)
              have t7 := rcell hV y7'
              repeat ((first | refine lex_move _ (by first | exact Or.inl rfl | exact Or.inr rfl) rfl rfl ?_ | (refine lex_float ?_ rfl rfl (fun w1 hb1 hf1 => ?_) ?_; rotate_left; (go_simp; (try simp (disch := omega) only [IntWalk.i64_quo, IntWalk.rem_in, IntWalk.i64_in, IntWalk.u64_in, IntWalk.u32_in, IntWalk.u8_in, IntWalk.toNatUp, IntWalk.iteOmega]); (try go_simp); rfl)) | refine lex_skip rfl ?_); simp only [Act.put, Act.eval, Array.getD_eq_getD_getElem?, List.getElem?_toArray, List.getElem?_cons_zero, List.getElem?_cons_succ, Option.getD_some, List.setIfInBounds_toArray, List.set_cons_succ, List.set_cons_zero])
              refine lex_make _ rfl (by exact fun _ _ _ h _ => h) rfl (fun w1 hb1 hf1 => ?_) ?_
              · (unfold makes; go_simp; simp only [makesUpon])
                refine (HNd.out _).mono ?_
                rintro e w' ⟨rfl, rfl⟩
                exact ⟨_, rfl, Below.refl _ _, rfl⟩
              rintro v9 W9 hB9 rfl
              simp only [Act.put, Act.eval, Array.getD_eq_getD_getElem?, List.getElem?_toArray, List.getElem?_cons_zero, List.getElem?_cons_succ, Option.getD_some, List.setIfInBounds_toArray, List.set_cons_succ, List.set_cons_zero]
              repeat ((first | refine lex_move _ (by first | exact Or.inl rfl | exact Or.inr rfl) rfl rfl ?_ | (refine lex_float ?_ rfl rfl (fun w1 hb1 hf1 => ?_) ?_; rotate_left; (go_simp; (try simp (disch := omega) only [IntWalk.i64_quo, IntWalk.rem_in, IntWalk.i64_in, IntWalk.u64_in, IntWalk.u32_in, IntWalk.u8_in, IntWalk.toNatUp, IntWalk.iteOmega]); (try go_simp); rfl)) | refine lex_skip rfl ?_); simp only [Act.put, Act.eval, Array.getD_eq_getD_getElem?, List.getElem?_toArray, List.getElem?_cons_zero, List.getElem?_cons_succ, Option.getD_some, List.setIfInBounds_toArray, List.set_cons_succ, List.set_cons_zero])
              refine lex_nil ?_
              clear t7
              have hW9 := below_trans hW8 (below_trans hV hB9)
              have hnd1 := (need_pos m hd1).1
              obtain ⟨K, hK⟩ : ∃ K, need m = K := ⟨_, rfl⟩
              rw [hK] at e1 hnd hnd1 Hst2 ⊢
              by_cases c5 : 281474976710656 < n + K
              · have c5' : (281474976710656 : Int) < (n : Int) + (K : Int) := by omega
                have Hend := Lib.hid (scanR_of HFK.out.1 HFK.out.2 (first := first) (size := size) (hd := ⟨cg, ce, cf, cl⟩) (show cf ≤ 281474976710656 by omega) h1 (j := j) (by rw [Hs.out]; exact hgo) (by rw [Hs.out, Hst2.out, if_pos (.inl c5)]))
                rw [show scanUp x first size (⟨cg, ce, cf, cl⟩ : Head).epoch (⟨cg, ce, cf, cl⟩ : Head).first (⟨cg, ce, cf, cl⟩ : Head).least j = s from Hs.out] at Hend
                clear y0 y1 y2 y4 y7 y8 y9 p0 p1 p2 q0 q1 q2 q3 y7' c5 hK
                have gh9 := below_heap hW9 HGh.out.2
                obtain ⟨z0, z1, z2, z3⟩ := box4 gh9
                have fz : ∀ j, W9.frozen? ⟨w4.heap.size, j, none⟩ = false := fun j => by simp [World.frozen?, gh9]
                have eg := IntWalk.u64_in ((cg : Int) + 1) (by omega)
                have ee := IntWalk.u64_in ((ce : Int) + 1) (by omega)
                have hX10 := (Ext.setCell (S := (· = w4.heap.size)) (w := W9) (p := ⟨w4.heap.size, 0, none⟩) rfl (.int .u64 ((cg : Int) + 1))).trans (Ext.setCell (S := (· = w4.heap.size)) (p := ⟨w4.heap.size, 1, none⟩) rfl (.int .u64 ((ce : Int) + 1))) (fun _ _ h => h)
                have hLS9 := HS2.out.1.below hW9
                have hbl4 : wl.heap.size = w4.heap.size + 1 + 1 := Hwl.out
                have hnb : 10 ≤ w4.heap.size ∧ ¬ b2.all w4.heap.size ∧ ¬ k2.all w4.heap.size := by
                  have h10 := H.out.pkg.lt
                  have hno : ¬ ((b.all w4.heap.size ∨ k.all w4.heap.size) ∨ wl.heap.size ≤ w4.heap.size) := by
                    rintro ((h | h) | h)
                    · have := hlt _ h; omega
                    · have := HS0.out.2 _ h; omega
                    · omega
                  exact ⟨by omega, fun h => hno (HS2.out.2.1 _ (.inl h)), fun h => hno (HS2.out.2.1 _ (.inr h))⟩
                have H10 := Lib.hid (And.intro (hLS9.ext hX10 fun j e => by subst e; exact hnb) ((Ext.of_below hW9).trans hX10 fun _ _ h => h))
                have HT := Lib.hid fun W (hW : LSys W b2 x N first size k2 (scanL s)) => turn_any b2 x N first size k2 (scanL s) ⟨cg + 1, ce + 1, cf, cl⟩ W hW (by omega) (by show cg + 1 < _; omega) (by show ce + 1 < _; omega) (by show cf ≤ _; omega) hok.rise hok.len (by have h1 := hok.many; have h2 := hok.ring; show s.starts.length ≤ _; omega) (fun m hm => Nat.lt_of_le_of_lt (hok.ep m hm) l2)
                unfold headV at HT
                simp only at HT
                rw [hl2] at HT
                have Hbl := Lib.hid hnb
                clear hX10 hLS9 hnb hbl4 gh9
                go_wp2_with fail
                have hLS10 := H10.out.1
                have hX10 := H10.out.2
                generalize World.setCell (World.setCell W9 _ _) _ _ = W10 at hLS10 hX10 ⊢
                clear z0 z1 z2 z3 fz
                refine (HT.out W10 hLS10).mono ?_
                rintro e W11 ⟨rfl, hP11⟩
                have e1 : Ext b.all w wr := (Ext.of_below hBl).trans HS2.out.2.2 fun j hj h => h.elim id fun h => by have := HS0.out.2 j h; omega
                have e2 : Ext b.all w W10 := e1.trans hX10 fun j hj e => by subst e; omega
                obtain ⟨b3, k3, hd3, hl3, ha3, hX3, hS3⟩ := hP11
                have hj2 : ∀ j, (b2.all j ∨ k2.all j) → b.all j ∨ w.heap.size ≤ j := fun j hj => by
                  rcases HS2.out.2.1 j hj with (h | h) | h
                  · exact .inl h
                  · have := HS0.out.2 j h; right; omega
                  · have := Hwl.out; right; omega
                have e3 : Ext b.all w W11 := e2.trans hX3 fun j hj h => (hj2 j h).elim id fun h => by omega
                have hj3 : ∀ j, (b3.all j ∨ k3.all j) → b.all j ∨ w.heap.size ≤ j := fun j hj => by
                  rcases ha3 j hj with h | h
                  · exact hj2 j h
                  · have := e2.size; right; omega
                have hop : openL x first size ⟨cg, ce, cf, cl⟩ = scanL s := by
                  unfold openL scanL
                  rw [Hend.out]
                have hf3 := Hf3.out
                rw [hop] at hf3
                change openR x first size = (turnX x first size (scanL s) ⟨cg + 1, ce + 1, cf, cl⟩, turnE x first size (scanL s) ⟨cg + 1, ce + 1, cf, cl⟩, turnL x first size (scanL s) ⟨cg + 1, ce + 1, cf, cl⟩) at hf3
                have hFin : (turnE x first size (scanL s) ⟨cg + 1, ce + 1, cf, cl⟩ = 0 → OpenPost w b x N first size (.returned (.tuple #[.pointer (some ⟨k.l, 0, none⟩), .int .i64 0])) W11) ∧ (turnE x first size (scanL s) ⟨cg + 1, ce + 1, cf, cl⟩ = 5 → OpenPost w b x N first size (.returned (.tuple #[.pointer none, .int .i64 5])) W11) := by
                  unfold OpenPost
                  rw [hf3]
                  simp only
                  refine ⟨fun h => ?_, fun h => ?_⟩
                  · rw [if_pos h]
                    exact ⟨b3, k3, by rw [hl3, hl2], hd3.trans hd2, hj3, e3, hS3.mono (turnN_le _ _ _ _ _ _)⟩
                  · rw [if_neg (by rw [h]; decide), h]
                    exact ⟨rfl, b3, hd3.trans hd2, fun j hj => hj3 j (.inl hj), e3, hS3.sys.mono (turnN_le _ _ _ _ _ _)⟩
                have HFin := Lib.hid hFin
                clear e1 e2 e3 hj2 hj3 hS3 hX3 ha3 hX10 hLS10 hop hf3 hFin
                rcases turnE_two x first size (scanL s) ⟨cg + 1, ce + 1, cf, cl⟩ with hE | hE
                · rw [hE]
                  have HE := Lib.hid hE
                  clear hE
                  go_wp2_with fail
                  go_ret2
                  exact HFin.out.1 HE.out
                · rw [hE]
                  have HE := Lib.hid hE
                  clear hE
                  go_wp2_with fail
                  go_ret2
                  exact HFin.out.2 HE.out
              · have c5' : ¬ (281474976710656 : Int) < (n : Int) + (K : Int) := by omega
                have ho1 := hok.order
                rw [Hn.out] at ho1
                have e6 := IntWalk.u64_in ((n : Int) + (K : Int) - (cf : Int)) (by omega)
                have e7 := IntWalk.i64_in ((size : Int) - 2) (by omega)
                have e8 := IntWalk.u64_in ((size : Int) - 2) (by omega)
                have q2' := below_cell hW9 q2
                by_cases c6 : size - 2 < n + K - cf
                · have c6' : (size : Int) - 2 < (n : Int) + (K : Int) - (cf : Int) := by omega
                  have Hend := Lib.hid (scanR_of HFK.out.1 HFK.out.2 (first := first) (size := size) (hd := ⟨cg, ce, cf, cl⟩) (show cf ≤ 281474976710656 by omega) h1 (j := j) (by rw [Hs.out]; exact hgo) (by rw [Hs.out, Hst2.out, if_pos (.inr c6)]))
                  rw [show scanUp x first size (⟨cg, ce, cf, cl⟩ : Head).epoch (⟨cg, ce, cf, cl⟩ : Head).first (⟨cg, ce, cf, cl⟩ : Head).least j = s from Hs.out] at Hend
                  clear y0 y1 y2 y4 y7 y8 y9 p0 p1 p2 q0 q1 q2 q3 y7' c5 hK c6
                  have gh9 := below_heap hW9 HGh.out.2
                  obtain ⟨z0, z1, z2, z3⟩ := box4 gh9
                  have fz : ∀ j, W9.frozen? ⟨w4.heap.size, j, none⟩ = false := fun j => by simp [World.frozen?, gh9]
                  have eg := IntWalk.u64_in ((cg : Int) + 1) (by omega)
                  have ee := IntWalk.u64_in ((ce : Int) + 1) (by omega)
                  have hX10 := (Ext.setCell (S := (· = w4.heap.size)) (w := W9) (p := ⟨w4.heap.size, 0, none⟩) rfl (.int .u64 ((cg : Int) + 1))).trans (Ext.setCell (S := (· = w4.heap.size)) (p := ⟨w4.heap.size, 1, none⟩) rfl (.int .u64 ((ce : Int) + 1))) (fun _ _ h => h)
                  have hLS9 := HS2.out.1.below hW9
                  have hbl4 : wl.heap.size = w4.heap.size + 1 + 1 := Hwl.out
                  have hnb : 10 ≤ w4.heap.size ∧ ¬ b2.all w4.heap.size ∧ ¬ k2.all w4.heap.size := by
                    have h10 := H.out.pkg.lt
                    have hno : ¬ ((b.all w4.heap.size ∨ k.all w4.heap.size) ∨ wl.heap.size ≤ w4.heap.size) := by
                      rintro ((h | h) | h)
                      · have := hlt _ h; omega
                      · have := HS0.out.2 _ h; omega
                      · omega
                    exact ⟨by omega, fun h => hno (HS2.out.2.1 _ (.inl h)), fun h => hno (HS2.out.2.1 _ (.inr h))⟩
                  have H10 := Lib.hid (And.intro (hLS9.ext hX10 fun j e => by subst e; exact hnb) ((Ext.of_below hW9).trans hX10 fun _ _ h => h))
                  have HT := Lib.hid fun W (hW : LSys W b2 x N first size k2 (scanL s)) => turn_any b2 x N first size k2 (scanL s) ⟨cg + 1, ce + 1, cf, cl⟩ W hW (by omega) (by show cg + 1 < _; omega) (by show ce + 1 < _; omega) (by show cf ≤ _; omega) hok.rise hok.len (by have h1 := hok.many; have h2 := hok.ring; show s.starts.length ≤ _; omega) (fun m hm => Nat.lt_of_le_of_lt (hok.ep m hm) l2)
                  unfold headV at HT
                  simp only at HT
                  rw [hl2] at HT
                  have Hbl := Lib.hid hnb
                  clear hX10 hLS9 hnb hbl4 gh9
                  go_wp2_with fail
                  have hLS10 := H10.out.1
                  have hX10 := H10.out.2
                  generalize World.setCell (World.setCell W9 _ _) _ _ = W10 at hLS10 hX10 ⊢
                  clear z0 z1 z2 z3 fz
                  refine (HT.out W10 hLS10).mono ?_
                  rintro e W11 ⟨rfl, hP11⟩
                  have e1 : Ext b.all w wr := (Ext.of_below hBl).trans HS2.out.2.2 fun j hj h => h.elim id fun h => by have := HS0.out.2 j h; omega
                  have e2 : Ext b.all w W10 := e1.trans hX10 fun j hj e => by subst e; omega
                  obtain ⟨b3, k3, hd3, hl3, ha3, hX3, hS3⟩ := hP11
                  have hj2 : ∀ j, (b2.all j ∨ k2.all j) → b.all j ∨ w.heap.size ≤ j := fun j hj => by
                    rcases HS2.out.2.1 j hj with (h | h) | h
                    · exact .inl h
                    · have := HS0.out.2 j h; right; omega
                    · have := Hwl.out; right; omega
                  have e3 : Ext b.all w W11 := e2.trans hX3 fun j hj h => (hj2 j h).elim id fun h => by omega
                  have hj3 : ∀ j, (b3.all j ∨ k3.all j) → b.all j ∨ w.heap.size ≤ j := fun j hj => by
                    rcases ha3 j hj with h | h
                    · exact hj2 j h
                    · have := e2.size; right; omega
                  have hop : openL x first size ⟨cg, ce, cf, cl⟩ = scanL s := by
                    unfold openL scanL
                    rw [Hend.out]
                  have hf3 := Hf3.out
                  rw [hop] at hf3
                  change openR x first size = (turnX x first size (scanL s) ⟨cg + 1, ce + 1, cf, cl⟩, turnE x first size (scanL s) ⟨cg + 1, ce + 1, cf, cl⟩, turnL x first size (scanL s) ⟨cg + 1, ce + 1, cf, cl⟩) at hf3
                  have hFin : (turnE x first size (scanL s) ⟨cg + 1, ce + 1, cf, cl⟩ = 0 → OpenPost w b x N first size (.returned (.tuple #[.pointer (some ⟨k.l, 0, none⟩), .int .i64 0])) W11) ∧ (turnE x first size (scanL s) ⟨cg + 1, ce + 1, cf, cl⟩ = 5 → OpenPost w b x N first size (.returned (.tuple #[.pointer none, .int .i64 5])) W11) := by
                    unfold OpenPost
                    rw [hf3]
                    simp only
                    refine ⟨fun h => ?_, fun h => ?_⟩
                    · rw [if_pos h]
                      exact ⟨b3, k3, by rw [hl3, hl2], hd3.trans hd2, hj3, e3, hS3.mono (turnN_le _ _ _ _ _ _)⟩
                    · rw [if_neg (by rw [h]; decide), h]
                      exact ⟨rfl, b3, hd3.trans hd2, fun j hj => hj3 j (.inl hj), e3, hS3.sys.mono (turnN_le _ _ _ _ _ _)⟩
                  have HFin := Lib.hid hFin
                  clear e1 e2 e3 hj2 hj3 hS3 hX3 ha3 hX10 hLS10 hop hf3 hFin
                  rcases turnE_two x first size (scanL s) ⟨cg + 1, ce + 1, cf, cl⟩ with hE | hE
                  · rw [hE]
                    have HE := Lib.hid hE
                    clear hE
                    go_wp2_with fail
                    go_ret2
                    exact HFin.out.1 HE.out
                  · rw [hE]
                    have HE := Lib.hid hE
                    clear hE
                    go_wp2_with fail
                    go_ret2
                    exact HFin.out.2 HE.out
                · have c6' : ¬ (size : Int) - 2 < (n : Int) + (K : Int) - (cf : Int) := by omega
                  have Hnext := Lib.hid (Hst2.out.trans (if_neg fun h => h.elim c5 c6))
                  have hq := HS2.out.1.below hW9
                  have hXq := HS2.out.2.2.trans (Ext.of_below (S := fun j => b.all j ∨ k.all j) hW9) fun _ _ h => h
                  have gpq := below_heap hW9 HGh.out.1
                  have ghq := below_heap hW9 HGh.out.2
                  have hlg := hq.log
                  clear y0 y1 y2 y4 y7 y8 y9 p0 p1 p2 q0 q1 q2 q3 y7'
                  have hcs := hlg.cs
                  rw [hl2, hd2] at hcs
                  obtain ⟨-, -, -, -, y4, -, -, y7, y8, y9, -, -⟩ := hcs
                  have y7 : W9.cell? ⟨k.l, 7, none⟩ = some (.int .u64 (n : Int)) := by rw [← Hn.out]; exact y7
                  obtain ⟨LL, hLL⟩ : ∃ LL, scanL s = LL := ⟨_, rfl⟩
                  have hLs : LL.starts = s.starts := by rw [← hLL]; rfl
                  have hLe : LL.epochs = s.epochs := by rw [← hLL]; rfl
                  rw [hLL] at hlg hq y4
                  obtain ⟨sa, sc, hks, -⟩ := owns_shape hlg.starts
                  obtain ⟨ea, ec, hke, -⟩ := owns_shape hlg.epochs
                  rw [hks] at y8
                  rw [hke] at y9
                  have hno : ∀ j y, ¬ numS k2 LL n ep k.l j y := by rw [← hl2]; exact numS_not hlg (.inr rfl)
                  have HG := Lib.hid hlg
                  have HSt := Lib.hid (And.intro (And.intro hLs hLe) (And.intro hks hke))
                  have hlls : LL.starts.length ≤ 65536 := by rw [hLs]; have h1 := hok.many; have h2 := hok.ring; omega
                  have hlle : LL.epochs.length ≤ 65536 := by rw [hLe, hok.len]; have h1 := hok.many; have h2 := hok.ring; omega
                  have HQ := Lib.hid (And.intro hq (And.intro hXq (And.intro gpq ghq)))
                  have HLL := Lib.hid hLL
                  clear hlg hq hXq gpq ghq hLs hLe hks hke hK c5 c6 hLL e6 e7 e8
                  go_wp2_with fail
                  refine wp_region_latex (growS (numS k2 LL n ep)) 22 [1] (fun i => if i = 10 then some (fun _ => oneN W9.heap.size n) else if i = 11 then some (fun _ => appS W9.heap.size k2 LL n) else if i = 17 then some (fun _ => oneN W9.heap.size ep) else if i = 18 then some (fun sn => appE W9.heap.size k2 LL ep (sn 96)) else none) (fun _ => True) (fun _ _ => True) fol (by kernel_rfl) (fun _ _ _ _ _ => trivial) (fun W hW hh => ?_)
                  clear hh
                  have HGW := Lib.hid (HG.out.below hW)
                  have q4 := gcell (S := numS k2 LL n ep) (below_cell hW y4) hno
                  have q7 := gcell (S := numS k2 LL n ep) (below_cell hW y7) hno
                  have q8 := gcell (S := numS k2 LL n ep) (below_cell hW y8) hno
                  have q9 := gcell (S := numS k2 LL n ep) (below_cell hW y9) hno
                  have HSZ := Lib.hid hW.size
                  have hstarts : ∀ w1, (growS (numS k2 LL n ep)).r W w1 → w1.ownsRow 0 28 1 k2.s LL.starts.length (nums LL.starts) := fun w1 hr => SetsR.owns hr HGW.out.starts fun g j y hg hs => by
                    rcases hs with ⟨-, rfl, -⟩ | ⟨h4, -⟩
                    · left; omega
                    · exact absurd h4 (HGW.out.ne3 g hg)
                  have hepochs : ∀ w1, (growS (numS k2 LL n ep)).r W w1 → w1.ownsRow 0 28 1 k2.e LL.epochs.length (nums LL.epochs) := fun w1 hr => SetsR.owns hr HGW.out.epochs fun g j y hg hs => by
                    rcases hs with ⟨h4, -⟩ | ⟨-, rfl, -⟩
                    · exact absurd hg (HGW.out.ne3 g h4)
                    · left; omega
                  have Hstarts := Lib.hid hstarts
                  have Hepochs := Lib.hid hepochs
                  clear hstarts hepochs
                  simp only [List.take_succ_cons, List.take_zero, List.drop_succ_cons, List.drop_zero]
                  repeat (first
                    | (refine rx_move _ (by first | exact Or.inl rfl | exact Or.inr rfl) (by first | exact Or.inl rfl | exact Or.inr rfl) rfl ?_
                       simp only [Act.put, Act.eval, Array.getD_eq_getD_getElem?, List.getElem?_toArray, List.getElem?_cons_zero, List.getElem?_cons_succ, Option.getD_some, List.setIfInBounds_toArray, List.set_cons_succ, List.set_cons_zero]
                      )
                    | (refine rx_small ?_ rfl rfl (fun w1 hb1 hf1 => ?_) ?_
                       rotate_left
                       (go_simp; (try simp (disch := omega) only [IntWalk.i64_quo, IntWalk.rem_in, IntWalk.i64_in, IntWalk.u64_in, IntWalk.u32_in, IntWalk.u8_in, IntWalk.toNatUp, IntWalk.iteOmega]); (try go_simp); rfl)
                       simp only [Act.put, Act.eval, Array.getD_eq_getD_getElem?, List.getElem?_toArray, List.getElem?_cons_zero, List.getElem?_cons_succ, Option.getD_some, List.setIfInBounds_toArray, List.set_cons_succ, List.set_cons_zero]
                      )
                    | (refine rx_skip (by first | exact Or.inl rfl | exact Or.inr rfl) rfl ?_
                       simp only [Act.put, Act.eval, Array.getD_eq_getD_getElem?, List.getElem?_toArray, List.getElem?_cons_zero, List.getElem?_cons_succ, Option.getD_some, List.setIfInBounds_toArray, List.set_cons_succ, List.set_cons_zero]
                      ))
                  refine rx_make _ rfl (oneN_stab HG.out) rfl (fun w1 hr1 hf1 => ?_) (fun v7 w7 hr7 hS7 => ?_)
                  · exact makes_of (exec_build_one 101 1 (.tmp 94) rfl (build_num n w1)) ⟨SetsR.of_below (below_box _ _), _, rfl, Nat.le_trans HSZ.out hr1.size, box11 (World.alloc_heap_new _ _) 0 _ rfl⟩
                  obtain ⟨g7, rfl, hg7, hc7⟩ := hS7
                  simp only [Act.put, Act.eval, Array.getD_eq_getD_getElem?, List.getElem?_toArray, List.getElem?_cons_zero, List.getElem?_cons_succ, Option.getD_some, List.setIfInBounds_toArray, List.set_cons_succ, List.set_cons_zero]
                  refine rx_make _ rfl (appS_stab HG.out) rfl (fun w1 hr1 hf1 => ?_) (fun v8 w8 hr8 hS8 => ?_)
                  · have h7 : oneN W9.heap.size n (.slice (some ⟨g7, 0, none⟩) 1 1) w1 := hf1 95 (.inl (by decide)) (by simp)
                    obtain ⟨g7', e7, -, hc7'⟩ := h7
                    injection e7 with e7
                    injection e7 with e7
                    injection e7 with e7
                    subst e7
                    obtain ⟨v', w', r1, r2, r3, r4⟩ := app_num w1 k2.s _ _ (Hstarts.out w1 hr1) (by omega) g7 1 _ hc7' rfl 101
                    rw [HSt.out.2.1] at r1
                    refine makes_of (exec_append (.tmp 90) (.tmp 95) 101 101 rfl r1) ⟨r3.mono fun k j y h => .inl h, by rw [nums_append]; exact r2, fun j hj => (r4 j hj).imp id fun h => Nat.le_trans HSZ.out (Nat.le_trans hr1.size h)⟩
                  simp only [Act.put, Act.eval, Array.getD_eq_getD_getElem?, List.getElem?_toArray, List.getElem?_cons_zero, List.getElem?_cons_succ, Option.getD_some, List.setIfInBounds_toArray, List.set_cons_succ, List.set_cons_zero]
                  repeat (first
                    | (refine rx_move _ (by first | exact Or.inl rfl | exact Or.inr rfl) (by first | exact Or.inl rfl | exact Or.inr rfl) rfl ?_
                       simp only [Act.put, Act.eval, Array.getD_eq_getD_getElem?, List.getElem?_toArray, List.getElem?_cons_zero, List.getElem?_cons_succ, Option.getD_some, List.setIfInBounds_toArray, List.set_cons_succ, List.set_cons_zero]
                      )
                    | (refine rx_small ?_ rfl rfl (fun w1 hb1 hf1 => ?_) ?_
                       rotate_left
                       (go_simp; (try simp (disch := omega) only [IntWalk.i64_quo, IntWalk.rem_in, IntWalk.i64_in, IntWalk.u64_in, IntWalk.u32_in, IntWalk.u8_in, IntWalk.toNatUp, IntWalk.iteOmega]); (try go_simp); rfl)
                       simp only [Act.put, Act.eval, Array.getD_eq_getD_getElem?, List.getElem?_toArray, List.getElem?_cons_zero, List.getElem?_cons_succ, Option.getD_some, List.setIfInBounds_toArray, List.set_cons_succ, List.set_cons_zero]
                      )
                    | (refine rx_skip (by first | exact Or.inl rfl | exact Or.inr rfl) rfl ?_
                       simp only [Act.put, Act.eval, Array.getD_eq_getD_getElem?, List.getElem?_toArray, List.getElem?_cons_zero, List.getElem?_cons_succ, Option.getD_some, List.setIfInBounds_toArray, List.set_cons_succ, List.set_cons_zero]
                      ))
                  refine rx_make _ rfl (oneN_stab HG.out) rfl (fun w1 hr1 hf1 => ?_) (fun v18 w18 hr18 hS18 => ?_)
                  · exact makes_of (exec_build_one 101 1 (.tmp 101) rfl (build_num ep w1)) ⟨SetsR.of_below (below_box _ _), _, rfl, Nat.le_trans HSZ.out hr1.size, box11 (World.alloc_heap_new _ _) 0 _ rfl⟩
                  obtain ⟨g18, rfl, hg18, hc18⟩ := hS18
                  simp only [Act.put, Act.eval, Array.getD_eq_getD_getElem?, List.getElem?_toArray, List.getElem?_cons_zero, List.getElem?_cons_succ, Option.getD_some, List.setIfInBounds_toArray, List.set_cons_succ, List.set_cons_zero]
                  refine rx_make _ rfl (appE_stab HG.out _) rfl (fun w1 hr1 hf1 => ?_) (fun v19 w19 hr19 hS19 => ?_)
                  · have h7 : oneN W9.heap.size ep (.slice (some ⟨g18, 0, none⟩) 1 1) w1 := hf1 102 (.inl (by decide)) (by simp)
                    have h8 : appS W9.heap.size k2 LL n v8 w1 := hf1 96 (.inr (by decide)) (by simp)
                    obtain ⟨g7', e7, -, hc7'⟩ := h7
                    injection e7 with e7
                    injection e7 with e7
                    injection e7 with e7
                    subst e7
                    obtain ⟨v', w', r1, r2, r3, r4⟩ := app_num w1 k2.e _ _ (Hepochs.out w1 hr1) (by omega) g18 1 _ hc7' rfl 101
                    rw [HSt.out.2.2] at r1
                    refine makes_of (exec_append (.tmp 100) (.tmp 102) 101 101 rfl r1) ⟨r3.mono fun k j y h => .inr h, by rw [nums_append]; exact r2, fun j hj => (r4 j hj).imp id fun h => Nat.le_trans HSZ.out (Nat.le_trans hr1.size h), ?_⟩
                    rw [seen_of (t := 96) (v := v8) ?s1 ?s2]
                    case s1 => exact .inr (by decide)
                    case s2 => rfl
                    intro j hj hj2
                    have hlt8 := owns_lt h8.1 hj
                    rcases r4 j hj2 with h | h
                    · rcases h8.2 j hj with h9 | h9
                      · exact HG.out.ne3 j h9 h
                      · have := HG.out.lt j (.inr (.inr h)); omega
                    · omega
                  rw [seen_of (t := 96) (v := v8) ?s1 ?s2] at hS19
                  case s1 => exact .inr (by decide)
                  case s2 => rfl
                  have hrW := (growS (numS k2 LL n ep)).trans hr7 ((growS (numS k2 LL n ep)).trans hr8 ((growS (numS k2 LL n ep)).trans hr18 hr19))
                  have hS8' := appS_stab HG.out v8 _ _ hS8 ((growS (numS k2 LL n ep)).trans hr18 hr19)
                  have hc19 : w19.heap[k.l]? = some (.cells (logCells b2.d first size k2 LL) 134 (0, 0)) := by
                    have := SetsR.heap hrW HGW.out.cells (by rw [hl2]; exact hno)
                    rwa [hl2] at this
                  have fr19 : ∀ j, w19.frozen? ⟨k.l, j, none⟩ = false := fun j => by simp [World.frozen?, hc19]
                  have d7 := q7 w19 hrW
                  have d8 := box11 hc19 8 _ rfl
                  have d9 := box11 hc19 9 _ rfl
                  obtain ⟨a8, c8, rfl, -⟩ := owns_shape hS8.1
                  obtain ⟨a19, c19, rfl, -⟩ := owns_shape hS19.1
                  simp only [Act.put, Act.eval, Array.getD_eq_getD_getElem?, List.getElem?_toArray, List.getElem?_cons_zero, List.getElem?_cons_succ, Option.getD_some, List.setIfInBounds_toArray, List.set_cons_succ, List.set_cons_zero]
                  repeat (first
                    | (refine rx_move _ (by first | exact Or.inl rfl | exact Or.inr rfl) (by first | exact Or.inl rfl | exact Or.inr rfl) rfl ?_
                       simp only [Act.put, Act.eval, Array.getD_eq_getD_getElem?, List.getElem?_toArray, List.getElem?_cons_zero, List.getElem?_cons_succ, Option.getD_some, List.setIfInBounds_toArray, List.set_cons_succ, List.set_cons_zero]
                      )
                    | (refine rx_small ?_ rfl rfl (fun w1 hb1 hf1 => ?_) ?_
                       rotate_left
                       (go_simp; (try simp (disch := omega) only [IntWalk.i64_quo, IntWalk.rem_in, IntWalk.i64_in, IntWalk.u64_in, IntWalk.u32_in, IntWalk.u8_in, IntWalk.toNatUp, IntWalk.iteOmega]); (try go_simp); rfl)
                       simp only [Act.put, Act.eval, Array.getD_eq_getD_getElem?, List.getElem?_toArray, List.getElem?_cons_zero, List.getElem?_cons_succ, Option.getD_some, List.setIfInBounds_toArray, List.set_cons_succ, List.set_cons_zero]
                      )
                    | (refine rx_skip (by first | exact Or.inl rfl | exact Or.inr rfl) rfl ?_
                       simp only [Act.put, Act.eval, Array.getD_eq_getD_getElem?, List.getElem?_toArray, List.getElem?_cons_zero, List.getElem?_cons_succ, Option.getD_some, List.setIfInBounds_toArray, List.set_cons_succ, List.set_cons_zero]
                      ))
                  refine rx_late (fun _ w' => w' = w19.setCell ⟨k.l, 8, none⟩ (.slice a8 (LL.starts.length + 1) c8)) _ rfl rfl ?_ ?_
                  · clear hr8 hr18 hr19 hrW hS8' hS19 q4 q7 q8 q9
                    (unfold makes; go_simp; simp only [makesUpon])
                  rintro v22 w22 - rfl
                  simp only [Act.put, Act.eval, Array.getD_eq_getD_getElem?, List.getElem?_toArray, List.getElem?_cons_zero, List.getElem?_cons_succ, Option.getD_some, List.setIfInBounds_toArray, List.set_cons_succ, List.set_cons_zero]
                  refine rx_nil ?_
                  have hc20 := heap_cell (j := 9) (heap_cell (j := 8) hc19 (.slice a8 (LL.starts.length + 1) c8)) (.slice a19 (LL.epochs.length + 1) c19)
                  have hX20 : Ext (· = k.l) w19 ((w19.setCell ⟨k.l, 8, none⟩ (.slice a8 (LL.starts.length + 1) c8)).setCell ⟨k.l, 9, none⟩ (.slice a19 (LL.epochs.length + 1) c19)) :=
                    (Ext.setCell (S := (· = k.l)) (p := ⟨k.l, 8, none⟩) rfl _).trans (Ext.setCell (S := (· = k.l)) (p := ⟨k.l, 9, none⟩) rfl _) (fun _ _ h => h)
                  have H20 := Lib.hid (And.intro hc20 (And.intro hX20 (And.intro hrW (And.intro hS8' hS19))))
                  clear q4 q7 q8 q9 hc20 hX20 hrW hS8' hS19 hS8 hr7 hr8 hr18 hr19 hc7 hc18 hc19
                  go_wp2_with fail
                  have hX7 := Ext.setCell (S := (· = k2.l)) (w := (w19.setCell ⟨k.l, 8, none⟩ (.slice a8 (LL.starts.length + 1) c8)).setCell ⟨k.l, 9, none⟩ (.slice a19 (LL.epochs.length + 1) c19)) (p := ⟨k.l, 7, none⟩) hl2.symm (.int .u64 ((n : Int) + (K : Int)))
                  have hc7 := heap_cell (j := 7) H20.out.1 (.int .u64 ((n : Int) + (K : Int)))
                  have hrr : Ext k2.all W9 w19 := (Ext.of_below hW).trans (SetsR.logExt H20.out.2.2.1) fun _ _ h => h
                  have hXX := (H20.out.2.1.mono (S' := (· = k2.l)) fun j _ e => e.trans hl2.symm).trans hX7 fun _ _ h => h
                  have hup : scanUp x first size ce cf cl (j + 1) = ⟨s.starts ++ [n], s.epochs ++ [ep], n + K, ep, true⟩ := by
                    show (if (scanUp x first size ce cf cl j).go then scanStep x first size ce cf (scanUp x first size ce cf cl j) else scanUp x first size ce cf cl j) = _
                    rw [Hs.out, if_pos hgo, Hnext.out]
                  have hP : LPost W9 b2 k2 x N first size (scanL (scanUp x first size ce cf cl (j + 1))) (((w19.setCell ⟨k.l, 8, none⟩ (.slice a8 (LL.starts.length + 1) c8)).setCell ⟨k.l, 9, none⟩ (.slice a19 (LL.epochs.length + 1) c19)).setCell ⟨k.l, 7, none⟩ (.int .u64 ((n : Int) + (K : Int)))) := by
                    rw [hup]
                    rw [← hl2] at hc7
                    refine HQ.out.1.num hrr H20.out.2.2.2.1 H20.out.2.2.2.2 hXX ?_ (by rw [HSt.out.1.1]; rfl) (by rw [HSt.out.1.2]; rfl)
                    rw [hl2] at hc7 ⊢
                    refine hc7.trans ?_
                    rw [← HLL.out]
                    rfl
                  have hnk : ∀ g, g < wl.heap.size → ¬ b.all g → ¬ k.all g → ¬ k2.all g := fun g h1 h2 h3 h => by
                    rcases HS2.out.2.1 g (.inr h) with (h4 | h4) | h4
                    · exact h2 h4
                    · exact h3 h4
                    · omega
                  have hwl := Hwl.out
                  have hpn : ¬ k2.all w.heap.size := hnk _ (by omega) (fun h => by have := hlt _ h; omega) (fun h => by have := HS0.out.2 _ h; omega)
                  have hhn : ¬ k2.all w4.heap.size := hnk _ (by omega) (fun h => by have := hlt _ h; omega) (fun h => by have := HS0.out.2 _ h; omega)
                  have hXf := hrr.trans hXX fun j _ e => by subst e; exact .inl rfl
                  have gpf := hXf.heap HQ.out.2.2.1 hpn
                  have ghf := hXf.heap HQ.out.2.2.2 hhn
                  have hy7 : wr.cell? ⟨k.l, 7, none⟩ = some (.int .u64 (n : Int)) := by
                    have hcs := HS2.out.1.log.cs
                    rw [hl2] at hcs
                    rw [← Hn.out]
                    exact hcs.2.2.2.2.2.2.2.1
                  have hz7 := box11 hc7 7 (.int .u64 ((n : Int) + (K : Int))) (by simp [logCells])
                  refine ⟨⟨j + 1, by rw [hup], by rw [hup], .trans hd2 hl2 HS2.out.2.1 HQ.out.2.1 hP, gpf, ghf⟩, ?_⟩
                  rw [hz7, hy7]
                  show 281474976710657 - ((n : Int) + (K : Int)).toNat < 281474976710657 - ((n : Int)).toNat
                  omega
  · have Hf1 := Lib.hid (Hf0.out.trans (if_pos rfl))
    rw [if_pos rfl]
    go_wp2_with fail
    go_ret2
    unfold OpenPost
    rw [Hf1.out, if_neg (show ¬ (5 : Int) = 0 by decide)]
    exact ⟨rfl, .mono (.same H.out hB2) (by omega)⟩
end Go.Proofs.YtbjofbhhnmehgaaGreatDoor.TT
namespace Go.Proofs.YtbjofbhhnmehgaaGreatDoor.TT
open Go.RowKit Go.RG Go.Hp Go.Proofs.YtbjofbhhnmehgaaGreatDoor
theorem turnH_least {L : LogS} {h : Head} {B : Nat} (h1 : h.epoch < B) (h2 : ∀ n ∈ L.epochs, n < B) : (turnH L h).least < B := by
  show (if h.first ∈ L.starts then L.epochs.getD (posU L.starts h.first) 0 else h.epoch) < B
  split
  · rw [List.getD_eq_getElem?_getD]
    cases hq : L.epochs[posU L.starts h.first]? with
    | none => show 0 < B; omega
    | some v => exact h2 v (List.mem_of_getElem? hq)
  · exact h1
theorem openR_zero {x : Dsk} {first size : Nat} (h : (openR x first size).2.1 = 0) : x.off = false ∧ ¬ (countsR x first size).2 < 0 ∧ (countsR x first size).1.gen ≠ 281474976710655 ∧ (countsR x first size).1.epoch ≠ 281474976710655 ∧
    openR x first size = (turnX x first size (openL x first size (countsR x first size).1) (openH (countsR x first size).1), 0, { openL x first size (countsR x first size).1 with head := turnH (openL x first size (countsR x first size).1) (openH (countsR x first size).1) }) := by
  unfold openR at h ⊢
  by_cases c0 : x.off = true
  · rw [if_pos c0] at h
    exact absurd h (show ¬ (5 : Int) = 0 by decide)
  · rw [if_neg c0] at h ⊢
    by_cases c1 : (countsR x first size).2 < 0
    · rw [if_pos c1] at h
      exact absurd h (show ¬ (50 : Int) = 0 by decide)
    · rw [if_neg c1] at h ⊢
      by_cases c2 : (countsR x first size).1.gen = 281474976710655 ∨ (countsR x first size).1.epoch = 281474976710655
      · rw [if_pos c2] at h
        exact absurd h (show ¬ (6 : Int) = 0 by decide)
      · rw [if_neg c2] at h ⊢
        have h' : turnE x first size (openL x first size (countsR x first size).1) (openH (countsR x first size).1) = 0 := h
        refine ⟨by simpa using c0, c1, fun e => c2 (.inl e), fun e => c2 (.inr e), ?_⟩
        rw [h']
        unfold turnL
        rw [if_pos h']
theorem openR_ok {x : Dsk} (hf : x.full) (hk : x.ok) {first size : Nat} (h2 : size ≤ 65536) (h : (openR x first size).2.1 = 0) : (openR x first size).2.2.ok size ∧ (openR x first size).2.2.fallen = false := by
  obtain ⟨-, -, h3, h4, h5⟩ := openR_zero h
  obtain ⟨l1, l2, l3, l4⟩ := (show (countsR x first size).1.low from runR_low hf hk first size 2)
  rw [h5]
  generalize countsR x first size = c at *
  obtain ⟨⟨cg, ce, cf, cl⟩, at'⟩ := c
  simp only at l1 l2 l3 l4 h3 h4
  have o := scanUp_ok hf hk (first := first) (size := size) (most := ce) (l0 := cl) (show cf ≤ 281474976710656 by omega) (size - 1)
  change (scanR x first size ⟨cg, ce, cf, cl⟩).ok size ce cf cl (size - 1) at o
  refine ⟨⟨by show cg + 1 < _; omega, by show ce + 1 < _; omega, by show cf ≤ _; omega, turnH_least (by show ce + 1 < _; omega) (fun n hn => by have := o.ep n hn; omega), o.top, o.order, o.ring, o.rise, o.len, ?_, o.low, fun n hn => by show n ≤ ce + 1; have := o.ep n hn; omega⟩, rfl⟩
  have h6 := o.many
  have h7 := o.ring
  show (scanR x first size ⟨cg, ce, cf, cl⟩).starts.length ≤ 65536
  omega
theorem LogS.ok.append {L : LogS} {size k : Nat} (h : L.ok size) (hs : size ≤ 65536) (hk1 : 1 ≤ k) (hk : k ≤ L.free size) (ht : L.next + k ≤ 281474976710656) (f : Bool) : (⟨L.head, L.next + k, L.starts ++ [L.next], L.epochs ++ [L.head.epoch], f⟩ : LogS).ok size := by
  unfold LogS.free at hk
  have o := h.order
  have r := h.ring
  have hm : L.starts.length + 1 ≤ 65536 := by
    have hd : ∀ (l : List Nat) (a b : Nat), l.Pairwise (· < ·) → (∀ n ∈ l, a ≤ n ∧ n < b) → l.length ≤ b - a := by
      intro l
      induction l with
      | nil => intro a b _ _; exact Nat.zero_le _
      | cons x l ih =>
        intro a b hp hr
        have hx := hr x (List.mem_cons_self ..)
        have := ih (x + 1) b (List.pairwise_cons.1 hp).2 fun n hn => ⟨(List.pairwise_cons.1 hp).1 n hn, (hr n (List.mem_cons_of_mem _ hn)).2⟩
        simp only [List.length_cons]
        omega
    have := hd L.starts _ _ h.rise h.low
    omega
  refine ⟨h.gen, h.epoch, h.first, h.least, ht, by show L.head.first ≤ L.next + k; omega, by show L.next + k - L.head.first ≤ _; omega, ?_, ?_, ?_, fun n hn => ?_, fun n hn => ?_⟩
  · refine List.pairwise_append.2 ⟨h.rise, List.pairwise_singleton _ _, fun a ha b hb => ?_⟩
    rw [List.mem_singleton.1 hb]
    exact (h.low a ha).2
  · simp [h.len]
  · simpa using hm
  · rcases List.mem_append.1 hn with hn | hn
    · have := h.low n hn
      exact ⟨this.1, by show n < L.next + k; omega⟩
    · rw [List.mem_singleton.1 hn]
      exact ⟨o, by show L.next < L.next + k; omega⟩
  · rcases List.mem_append.1 hn with hn | hn
    · exact h.ep n hn
    · rw [List.mem_singleton.1 hn]; exact Nat.le_refl _
theorem appendR_ok {x : Dsk} {first size : Nat} {L : LogS} {rec : List Int} (h : L.ok size) (hs : size ≤ 65536) (hl : rec.length ≤ 8192) : (appendR x first size L rec).2.1.ok size := by
  unfold appendR
  split
  · exact h.fall _
  · split
    · exact h.fall _
    · split
      · exact h.fall _
      · rename_i c1 c2 c3
        have hk := need_pos rec.length hl
        split
        · exact h.append hs hk.1 (by omega) (by omega) _
        · exact h.fall _
theorem lflushR_ok {x : Dsk} {size : Nat} {L : LogS} (h : L.ok size) : (lflushR x L).2.1.ok size := by
  unfold lflushR
  split
  · exact h.fall _
  · exact h.fall _
end Go.Proofs.YtbjofbhhnmehgaaGreatDoor.TT
namespace Go.Proofs.YtbjofbhhnmehgaaGreatDoor.TT
open Go.RowKit Go.RG Go.Hp Go.Proofs.YtbjofbhhnmehgaaGreatDoor


theorem tfits_yes (b : Bks) (x : Dsk) (first size : Nat) (w : World) (h : HeadAt w b x) (hl : x.dur.length ≤ 65536) (h1 : 83 ≤ size) (h2 : first + size ≤ x.dur.length) : Calls Tryz.prog 43 #[.pointer (some ⟨b.d, 0, none⟩), .int .i64 first, .int .i64 size] w fun e w' => e = .returned (.bool true) ∧ w = w' := by
  have HS := Lib.hid (sectors_any b x w h)
  have q1 : (83 : Int) ≤ (size : Int) := by omega
  have q2 : (size : Int) ≤ (x.dur.length : Int) := by omega
  have q3 : (0 : Int) ≤ (first : Int) := by omega
  have q4 : (first : Int) ≤ (x.dur.length : Int) - (size : Int) := by omega
  have e1 := IntWalk.i64_in ((x.dur.length : Int) - (size : Int)) (by omega)
  clear h
  go_enter Tryz.func43, Tryz.ntmps43
  go_wp2_with fail
  refine HS.out.mono ?_
  rintro e w' ⟨rfl, rfl⟩
  go_wp2_with fail
  go_ret
  exact ⟨rfl, rfl⟩
/-- what table's Format leaves and tells -/
def tformatR (x : Dsk) (first size : Nat) : Dsk × Int :=
  if (formatR x first size).2 ≠ 0 then formatR x first size else
  if (openR (formatR x first size).1 first size).2.1 ≠ 0 then ((openR (formatR x first size).1 first size).1, (openR (formatR x first size).1 first size).2.1) else
  if (appendR (openR (formatR x first size).1 first size).1 first size (openR (formatR x first size).1 first size).2.2 (partB [] 0)).2.2.2 ≠ 0 then ((appendR (openR (formatR x first size).1 first size).1 first size (openR (formatR x first size).1 first size).2.2 (partB [] 0)).1, (appendR (openR (formatR x first size).1 first size).1 first size (openR (formatR x first size).1 first size).2.2 (partB [] 0)).2.2.2) else
  ((lflushR (appendR (openR (formatR x first size).1 first size).1 first size (openR (formatR x first size).1 first size).2.2 (partB [] 0)).1 (appendR (openR (formatR x first size).1 first size).1 first size (openR (formatR x first size).1 first size).2.2 (partB [] 0)).2.1).1,
   (lflushR (appendR (openR (formatR x first size).1 first size).1 first size (openR (formatR x first size).1 first size).2.2 (partB [] 0)).1 (appendR (openR (formatR x first size).1 first size).1 first size (openR (formatR x first size).1 first size).2.2 (partB [] 0)).2.1).2.2)
theorem lflushN_le (x : Dsk) (L : LogS) (N : Nat) : lflushN x L N ≤ N := by
  unfold lflushN flushN
  split
  · exact Nat.le_refl _
  · split <;> omega
theorem formatR_two (x : Dsk) (first size : Nat) : (formatR x first size).2 = 0 ∨ (formatR x first size).2 = 5 := by
  have hE : ∀ k i, (fmtE x first k i).2 = 0 ∨ (fmtE x first k i).2 = 5 := fun k i => by
    induction i with
    | zero => exact .inl rfl
    | succ i ih =>
      unfold fmtE
      split
      · exact layE_two _ _ _
      · exact ih
  unfold formatR
  split
  · exact .inr rfl
  · split
    · exact hE _ _
    · split
      · exact .inr rfl
      · split
        · exact .inr rfl
        · exact layE_two _ _ _
theorem isBytes_sdnv (n : Nat) (hn : n < 18446744073709551616) : isBytes (sdnv n) := by
  obtain ⟨m, h1, h2, h3, h4, h5⟩ := sdnv_spec n
  intro b hb
  obtain ⟨i, hi⟩ := List.mem_iff_getElem?.1 hb
  have hl := (List.getElem?_eq_some_iff.1 hi).1
  rcases Nat.lt_or_ge i m with h | h
  · rw [h5 i h] at hi
    injection hi with hi
    omega
  · have : i = m := by omega
    rw [this, h4] at hi
    injection hi with hi
    omega
theorem isBytes_head (i k : Nat) (hi : i < 18446744073709551616) (hk : k < 18446744073709551616) : isBytes (headB i k) := by
  intro b hb
  rcases List.mem_cons.1 hb with rfl | hb
  · omega
  · exact ((isBytes_sdnv i hi).append (isBytes_sdnv k hk)) b hb
theorem isBytes_part {bs : List Int} (hb : isBytes bs) (i : Nat) (hi : i < 18446744073709551616) (hl : bs.length ≤ 1073741824) : isBytes (partB bs i) := (isBytes_head i _ hi (by have := partsN_le bs.length; omega)).append ((hb.drop _).take _)
theorem partB_len (bs : List Int) (i : Nat) (hi : i < 18446744073709551616) (hl : bs.length ≤ 1073741824) : 1 ≤ (partB bs i).length ∧ (partB bs i).length ≤ 8133 := by
  have h1 := headB_le i (partsN bs.length) hi (by have := partsN_le bs.length; omega)
  have h2 := headB_length i (partsN bs.length)
  unfold partB
  rw [List.length_append, List.length_take]
  omega
theorem formatR_len (x : Dsk) (first size : Nat) : (formatR x first size).1.dur.length = x.dur.length := by
  unfold formatR
  split
  · rfl
  · split
    · exact fmtE_len _ _ _ _
    · split
      · rw [fmtW_len, fmtE_len]
      · split
        · rw [flushX_len, fmtW_len, fmtE_len]
        · rw [layX_len, flushX_len, fmtW_len, fmtE_len]
theorem openR_err {x : Dsk} {first size : Nat} (h : (openR x first size).2.1 ≠ 0) : (openR x first size).2.1 = 5 ∨ (openR x first size).2.1 = 50 ∨ (openR x first size).2.1 = 6 := by
  unfold openR at h ⊢
  split
  · exact .inl rfl
  · split
    · exact .inr (.inl rfl)
    · split
      · exact .inr (.inr rfl)
      · rename_i c0 c1 c2
        rw [if_neg c0, if_neg c1, if_neg c2] at h
        exact .inl ((turnE_two _ _ _ _ _).resolve_left h)
theorem appendR_err {x : Dsk} {first size : Nat} {L : LogS} {rec : List Int} : (appendR x first size L rec).2.2.2 = 0 ∨ (appendR x first size L rec).2.2.2 = 5 ∨ (appendR x first size L rec).2.2.2 = 6 ∨ (appendR x first size L rec).2.2.2 = 2 := by
  unfold appendR
  split
  · exact .inr (.inl rfl)
  · split
    · exact .inr (.inr (.inl rfl))
    · split
      · exact .inr (.inr (.inr rfl))
      · split
        · exact .inl rfl
        · exact .inr (.inl rfl)
theorem LSys.lt {w : World} {b : Bks} {x : Dsk} {N first size : Nat} {k : LBk} {L : LogS} (h : LSys w b x N first size k L) : ∀ j, b.all j ∨ k.all j → j < w.heap.size := fun j hj => hj.elim (h.sys.dsk.lt j) (h.log.lt j)
set_option maxHeartbeats 2000000 in
set_option maxRecDepth 100000 in
theorem tformat_any (b : Bks) (x : Dsk) (N first size : Nat) (h1 : 83 ≤ size) (h2 : first + size ≤ x.dur.length) (w : World) (h : Sys w b x N) (hN : N ≤ 1099510000000) :
    Calls Tryz.prog 15 #[.pointer (some ⟨b.d, 0, none⟩), .int .i64 first, .int .i64 size] w fun e w' => e = .returned (.int .i64 (tformatR x first size).2) ∧ SysPost w b (tformatR x first size).1 (N + 65700) w' := by
  have hlim := h.dsk.lim
  have HF := Lib.hid (tfits_yes b x first size w h.dsk.head hlim h1 h2)
  have HFm := Lib.hid (format_any b x N first size (by omega) h2 w h (by omega))
  have ht : ∀ r, formatR x first size = r → tformatR x first size = if r.2 ≠ 0 then r else
    if (openR r.1 first size).2.1 ≠ 0 then ((openR r.1 first size).1, (openR r.1 first size).2.1) else
    if (appendR (openR r.1 first size).1 first size (openR r.1 first size).2.2 (partB [] 0)).2.2.2 ≠ 0 then ((appendR (openR r.1 first size).1 first size (openR r.1 first size).2.2 (partB [] 0)).1, (appendR (openR r.1 first size).1 first size (openR r.1 first size).2.2 (partB [] 0)).2.2.2) else
    ((lflushR (appendR (openR r.1 first size).1 first size (openR r.1 first size).2.2 (partB [] 0)).1 (appendR (openR r.1 first size).1 first size (openR r.1 first size).2.2 (partB [] 0)).2.1).1,
     (lflushR (appendR (openR r.1 first size).1 first size (openR r.1 first size).2.2 (partB [] 0)).1 (appendR (openR r.1 first size).1 first size (openR r.1 first size).2.2 (partB [] 0)).2.1).2.2) := fun r h => by unfold tformatR; rw [h]
  obtain ⟨⟨y, ey⟩, hr⟩ : ∃ r, formatR x first size = r := ⟨_, rfl⟩
  have Ht := Lib.hid (ht _ hr)
  have htwo := formatR_two x first size
  have hyl := formatR_len x first size
  rw [hr] at HFm htwo hyl
  simp only at HFm Ht htwo hyl
  clear hr ht
  have hlt := h.dsk.lt
  have H := Lib.hid h
  clear h
  go_enter Tryz.func15, Tryz.ntmps15
  go_wp2_with fail
  refine HF.out.mono ?_
  rintro e w' ⟨rfl, rfl⟩
  go_wp2_with fail
  refine HFm.out.mono ?_
  rintro e w1 ⟨rfl, b1, hd1, ha1, hX1, hS1⟩
  rcases htwo with rfl | rfl
  · have Ht2 := Lib.hid (Ht.out.trans (if_neg (by decide)))
    have HP1 := Lib.hid (And.intro ha1 (And.intro hX1 hS1))
    have HO := Lib.hid (open_any b1 y (N + 65540) first size (by omega) (by rw [hyl]; exact h2) w1 hS1 (by omega))
    rw [hd1] at HO
    clear ha1 hX1 hS1 HF HFm Ht
    go_wp2_with fail
    refine HO.out.mono ?_
    intro e w2 hpost
    unfold OpenPost at hpost
    have hok := fun h => openR_ok (size := size) (first := first) HP1.out.2.2.dsk.full HP1.out.2.2.ok.ok (by omega) h
    have herr := fun h => openR_err (x := y) (first := first) (size := size) h
    obtain ⟨⟨z, eo, L⟩, hz⟩ : ∃ r, openR y first size = r := ⟨_, rfl⟩
    have ht2 := Ht2.out
    rw [hz] at hpost ht2 hok herr
    simp only at hpost ht2 hok herr
    by_cases he : eo = 0
    · subst he
      rw [if_pos rfl] at hpost
      have ht3 := ht2.trans (if_neg (by decide))
      obtain ⟨b2, k2, rfl, hd2, ha2, hX2, hS2⟩ := hpost
      have HPr := Lib.hid (partRecord_any (.slice none 0 0) [] 0 (by decide) (by decide) w2 (.inr ⟨rfl, rfl⟩))
      have Hok := Lib.hid (hok rfl)
      have Ht3 := Lib.hid ht3
      have HS2 := Lib.hid (And.intro ha2 (And.intro hX2 hS2))
      clear hok herr ht2 ht3 ha2 hX2 hS2 hz Ht2 HO
      go_wp2_with fail
      refine HPr.out.mono ?_
      rintro e w3 ⟨u, rfl, hown, hB3⟩
      have hpl := partB_len [] 0 (by decide) (by decide)
      have hS3 := HS2.out.2.2.below hB3
      have hA := append_any b2 z (N + 65540 + 1) first size k2 L u (partB [] 0) w3 hS3 (by omega) Hok.out.1 (Src.of_owns hown) (fun j hj => by
        have h1 := (hown.lt j hj).1
        exact ⟨fun h => by have := HS2.out.2.2.lt j (.inl h); omega, fun h => by have := HS2.out.2.2.lt j (.inr h); omega⟩) (isBytes_part (fun b hb => by cases hb) 0 (by decide) (by decide)) (by omega) (by omega)
      have htwo := appendR_err (x := z) (first := first) (size := size) (L := L) (rec := partB [] 0)
      have hok3 := appendR_ok (x := z) (first := first) (rec := partB [] 0) Hok.out.1 (by omega) (by omega)
      have ht3 := Ht3.out
      generalize appendR z first size L (partB [] 0) = r at hA htwo hok3 ht3
      obtain ⟨z3, L3, n3, e3⟩ := r
      simp only at hA htwo hok3 ht3
      have HA := Lib.hid hA
      have Ht3' := Lib.hid ht3
      have HB3 := Lib.hid hB3
      obtain ⟨ua, uc, rfl, -⟩ := owns_shape hown
      clear hown hA ht3 hS3 HPr Ht3 hB3
      go_wp2_with fail
      refine HA.out.mono ?_
      rintro e w4 ⟨rfl, hP4⟩
      obtain ⟨b4, k4, hd4, hl4, ha4, hX4, hS4⟩ := hP4
      have hab : ∀ j, (b2.all j ∨ k2.all j) → b.all j ∨ w.heap.size ≤ j := fun j hj => by
        rcases HS2.out.1 j hj with h | h
        · exact HP1.out.1 j h
        · have := HP1.out.2.1.size; right; omega
      have e1 : Ext b.all w w2 := HP1.out.2.1.trans HS2.out.2.1 fun j hj h => (HP1.out.1 j h).elim id fun h => by omega
      have e2 : Ext b.all w w3 := e1.trans (Ext.of_below (S := b.all) HB3.out) fun _ _ h => h
      have e4 : Ext b.all w w4 := e2.trans hX4 fun j hj h => (hab j h).elim id fun h => by omega
      have hab4 : ∀ j, (b4.all j ∨ k4.all j) → b.all j ∨ w.heap.size ≤ j := fun j hj => by
        rcases ha4 j hj with h | h
        · exact hab j h
        · have := e2.size; right; omega
      by_cases he3 : e3 = 0
      · subst he3
        have Ht4 := Lib.hid (Ht3'.out.trans (if_neg (by decide)))
        have HLF := Lib.hid (lflush_any b4 z3 (N + 65540 + 1 + 79) first size k4 L3 w4 hS4)
        rw [hl4] at HLF
        have HF4 := Lib.hid (And.intro (hd4.trans (hd2.trans hd1)) (And.intro hab4 e4))
        clear hS4 hX4 ha4 hab hab4 e1 e2 e4 htwo
        go_wp2_with fail
        refine HLF.out.mono ?_
        rintro e w5 ⟨rfl, b5, k5, hd5, hl5, ha5, hX5, hS5⟩
        go_wp2_with fail
        go_ret
        rw [Ht4.out]
        refine ⟨rfl, b5, hd5.trans HF4.out.1, fun j hj => ?_, HF4.out.2.2.trans hX5 fun j hj h => (HF4.out.2.1 j h).elim id fun h => by omega, hS5.sys.mono (Nat.le_trans (lflushN_le _ _ _) (by omega))⟩
        rcases ha5 j (.inl hj) with h | h
        · exact HF4.out.2.1 j h
        · have := HF4.out.2.2.size; right; omega
      · have hne : (e3 != 0) = true := by simp [he3]
        have Ht4 := Lib.hid (Ht3'.out.trans (if_pos he3))
        have HF4 := Lib.hid (show SysPost w b z3 (N + 65700) w4 from ⟨b4, hd4.trans (hd2.trans hd1), fun j hj => hab4 j (.inl hj), e4, hS4.sys.mono (by omega)⟩)
        clear hS4 hX4 ha4 hab hab4 e1 e2 e4 htwo he3
        go_wp2_with fail
        go_ret
        rw [Ht4.out]
        exact ⟨rfl, HF4.out⟩
    · rw [if_neg he] at hpost
      have ht3 := ht2.trans (if_pos he)
      obtain ⟨rfl, hP2⟩ := hpost
      have hne : (eo != 0) = true := by simp [he]
      have Ht3 := Lib.hid ht3
      have HP2 := Lib.hid hP2
      clear hok herr ht2 ht3 hP2 hz Ht2 HO he
      go_wp2_with fail
      go_ret
      rw [Ht3.out]
      exact ⟨rfl, .mono (.trans hd1 HP1.out.1 HP1.out.2.1 HP2.out) (by omega)⟩
  · have Ht2 := Lib.hid (Ht.out.trans (if_pos (by decide)))
    have HP1 := Lib.hid (show SysPost w b y (N + 65540) w1 from ⟨b1, hd1, ha1, hX1, hS1⟩)
    clear ha1 hX1 hS1
    go_wp2_with fail
    go_ret
    rw [Ht2.out]
    exact ⟨rfl, HP1.out.mono (by omega)⟩
end Go.Proofs.YtbjofbhhnmehgaaGreatDoor.TT
namespace Go.Proofs.YtbjofbhhnmehgaaGreatDoor.SS
open Go.RowKit Go.RG Go.Hp Go.Proofs.YtbjofbhhnmehgaaGreatDoor



theorem fol : Tryz.prog.follows .mixedOrders = true := by kernel_rfl
theorem und_slc : Tryz.prog.underlying 73 = some (.slice 9) := by kernel_rfl
theorem info_elm : (Tryz.prog.info? 9).map (fun i => (i.zero, i.size, i.bytes)) = some (some (.string .empty), 1, 16) := by kernel_rfl

end Go.Proofs.YtbjofbhhnmehgaaGreatDoor.SS
namespace Go.Proofs.YtbjofbhhnmehgaaGreatDoor.SS
open Go.RowKit Go.RG Go.Hp Go.Proofs.YtbjofbhhnmehgaaGreatDoor



theorem clone_any (ad : Addr) (n c : Nat) (cs : List Value) (hl : cs.length = n * 1) (h1 : ∀ v ∈ cs, v.oneCell' = true) (hn : n ≤ 1099511627776) (w : World)
    (hsrc : ∀ j u, cs[j]? = some u → w.cell? (ad.add j) = some u) :
    Calls Tryz.prog 69 #[.slice (some ad) n c] w fun e w' => ∃ v, e = .returned v ∧ w'.ownsRow w.heap.size 9 1 v n cs ∧ v ≠ .slice none 0 0 ∧ Below w.heap.size w w' := by
  obtain ⟨i0, hi, hz0, hz1, hz2⟩ := info_parts info_elm
  have he := fun w => Lib.run_eql_slice_nil (P := Tryz.prog) w 73 9 (some ad) n c 0 0 und_slc
  have hB0 := below_box w (.cells #[] 9)
  have Hsrc := Lib.hid hsrc; clear hsrc
  go_enter Tryz.func69, Tryz.ntmps69
  have c1 : ∀ j u, cs[j]? = some u → (w.alloc (.cells #[] 9)).cell? (ad.add j) = some u := fun j u h => below_cell hB0 (Hsrc.out j u h)
  have C1 := Lib.hid c1; clear c1
  have c2 : 0 + n ≤ maxLen := by unfold maxLen; omega
  have c3 : (0 + n) * 16 ≤ 140737488355328 := by omega
  have c4 : w.heap.size ≤ (w.alloc (.cells #[] 9)).heap.size := by simp
  go_wp2_with (at_builtin; refine wpList_append_own _ rfl _ _ 73 rfl w.heap.size 9 i0 (.string .empty) 1 16 und_slc hi hz0 hz1 hz2 rfl (by decide) _ _ _ rfl (World.ownsRow_made w #[] 0 (Nat.le_refl _) (Nat.zero_le _) rfl) ad n c cs rfl hl C1.out h1 c2 c3 c4 ?_; intro v' w1 hown hgrow hnil)
  go_ret
  refine ⟨v', rfl, by simpa using hown, (fun h => by cases (hnil.1 h).1), ?_⟩
  exact (hB0.trans ((Below.refl _ _).grown hgrow (by simp) (fun k hk => by injection hk with hk; subst hk; exact Nat.le_refl _)))
end Go.Proofs.YtbjofbhhnmehgaaGreatDoor.SS
namespace Go.Proofs.YtbjofbhhnmehgaaGreatDoor.TT
open Go.RowKit Go.RG Go.Hp Go.Proofs.YtbjofbhhnmehgaaGreatDoor


/-- the order of keys -/
def klt : List Int → List Int → Bool
  | _, [] => false
  | [], _ :: _ => true
  | a :: x, b :: y => decide (a < b) || (decide (a = b) && klt x y)
theorem klt_irrefl : ∀ a, klt a a = false
  | [] => rfl
  | a :: x => by simp [klt, klt_irrefl x]
theorem klt_trans : ∀ {a b c}, klt a b = true → klt b c = true → klt a c = true
  | _, [], _, h, _ => by simp [klt] at h
  | _, _ :: _, [], _, h => by simp [klt] at h
  | [], _ :: _, _ :: _, _, _ => rfl
  | a :: x, b :: y, c :: z, h1, h2 => by
    simp only [klt, Bool.or_eq_true, Bool.and_eq_true, decide_eq_true_eq] at h1 h2 ⊢
    rcases h1 with h1 | ⟨h1, h3⟩
    · rcases h2 with h2 | ⟨h2, h4⟩
      · left; omega
      · left; omega
    · rcases h2 with h2 | ⟨h2, h4⟩
      · left; omega
      · right; exact ⟨by omega, klt_trans h3 h4⟩
theorem klt_tri : ∀ {a b}, klt a b = false → klt b a = false → a = b
  | [], [], _, _ => rfl
  | [], _ :: _, h, _ => by simp [klt] at h
  | _ :: _, [], _, h => by simp [klt] at h
  | a :: x, b :: y, h1, h2 => by
    simp only [klt, Bool.or_eq_false_iff, Bool.and_eq_false_iff, decide_eq_false_iff_not] at h1 h2
    have e : a = b := by omega
    subst e
    rw [klt_tri (a := x) (b := y) (by simpa using h1.2) (by simpa using h2.2)]
theorem klt_asymm {a b} (h : klt a b = true) : klt b a = false := by
  cases k : klt b a
  · rfl
  · have := klt_trans h k
    rw [klt_irrefl] at this
    cases this
theorem klt_ne {a b} (h : klt a b = true) : a ≠ b := by
  rintro rfl
  rw [klt_irrefl] at h
  cases h
theorem bytesLess_nums : ∀ {a b : List Int}, isBytes a → isBytes b → Op.bytesLess (a.map fun n => UInt8.ofNat n.toNat) (b.map fun n => UInt8.ofNat n.toNat) = klt a b
  | [], [], _, _ => rfl
  | _ :: _, [], _, _ => rfl
  | [], _ :: _, _, _ => rfl
  | a :: x, b :: y, h1, h2 => by
    have h3 := h1 a (List.mem_cons_self ..)
    have h4 := h2 b (List.mem_cons_self ..)
    have ih := bytesLess_nums (a := x) (b := y) (fun n hn => h1 n (List.mem_cons_of_mem _ hn)) (fun n hn => h2 n (List.mem_cons_of_mem _ hn))
    simp only [List.map_cons, Op.bytesLess, klt, ih]
    have e1 : decide (UInt8.ofNat a.toNat < UInt8.ofNat b.toNat) = decide (a < b) := by
      rw [decide_eq_decide, UInt8.lt_iff_toNat_lt, UInt8.toNat_ofNat', UInt8.toNat_ofNat']
      omega
    have e2 : (UInt8.ofNat a.toNat == UInt8.ofNat b.toNat) = decide (a = b) := by
      rw [Bool.eq_iff_iff, beq_iff_eq, decide_eq_true_iff, ← UInt8.toNat_inj, UInt8.toNat_ofNat', UInt8.toNat_ofNat']
      omega
    rw [e1, e2]
theorem less_strs {a b : List Int} (ha : isBytes a) (hb : isBytes b) : Op.bytesLess (strOfNums a).toList (strOfNums b).toList = klt a b := by
  rw [ByteArray.toList_eq, ByteArray.toList_eq]
  exact bytesLess_nums ha hb

/-- keys, as the machine holds them -/
def strs (l : List (List Int)) : List Value := l.map fun k => .string (strOfNums k)
theorem strs_length (l : List (List Int)) : (strs l).length = l.length := by simp [strs]
theorem strs_one (l : List (List Int)) : ∀ u ∈ strs l, u.oneCell' = true := by
  intro u hu
  obtain ⟨b, -, rfl⟩ := List.mem_map.1 hu
  rfl
theorem strs_get {l : List (List Int)} {i : Nat} {k : List Int} (h : l[i]? = some k) : (strs l)[i]? = some (.string (strOfNums k)) := by simp [strs, h]
/-- how many are below -/
def posK (l : List (List Int)) (x : List Int) : Nat := l.countP fun y => klt y x
theorem posK_le (l : List (List Int)) (x : List Int) : posK l x ≤ l.length := List.countP_le_length
theorem posK_unique : ∀ {l : List (List Int)} {x : List Int} {i : Nat} (_ : i ≤ l.length) (_ : ∀ q n, q < i → l[q]? = some n → klt n x = true) (_ : ∀ q n, i ≤ q → l[q]? = some n → klt n x = false), posK l x = i
  | [], x, i, hi, _, _ => by simp at hi; subst hi; rfl
  | y :: l, x, 0, _, _, h2 => by
    have h0 := h2 0 y (Nat.le_refl _) rfl
    have := posK_unique (l := l) (x := x) (i := 0) (Nat.zero_le _) (fun q n hq => absurd hq (Nat.not_lt_zero _)) (fun q n _ hn => h2 (q + 1) n (Nat.zero_le _) (by simpa using hn))
    unfold posK at this ⊢
    rw [List.countP_cons_of_neg (by simp [h0]), this]
  | y :: l, x, i + 1, hi, h1, h2 => by
    have h0 := h1 0 y (Nat.succ_pos _) rfl
    have := posK_unique (l := l) (x := x) (i := i) (by simpa using hi) (fun q n hq hn => h1 (q + 1) n (by omega) (by simpa using hn)) (fun q n hq hn => h2 (q + 1) n (by omega) (by simpa using hn))
    unfold posK at this ⊢
    rw [List.countP_cons_of_pos (by simpa using h0), this]
theorem str_self (s : ByteArray) : (s.toList == s.toList) = true := by simp
theorem isNaN_str (x : List Int) (w : World) : Calls Tryz.prog 109 #[.string (strOfNums x)] w fun e w' => e = .returned (.bool false) ∧ w = w' := by
  have h1 := str_self (strOfNums x)
  go_enter Tryz.func109, Tryz.ntmps109
  go_wp2_with fail
  go_ret
  exact ⟨rfl, rfl⟩
theorem cisNaN_str (x : List Int) (w : World) : Calls Tryz.prog 132 #[.string (strOfNums x)] w fun e w' => e = .returned (.bool false) ∧ w = w' := by
  have h1 := str_self (strOfNums x)
  go_enter Tryz.func132, Tryz.ntmps132
  go_wp2_with fail
  go_ret
  exact ⟨rfl, rfl⟩
theorem less_str (x y : List Int) (hx : isBytes x) (hy : isBytes y) (w : World) : Calls Tryz.prog 108 #[.string (strOfNums x), .string (strOfNums y)] w fun e w' => e = .returned (.bool (klt x y)) ∧ w = w' := by
  have L := cisNaN_str
  have h1 := less_strs hx hy
  go_enter Tryz.func108, Tryz.ntmps108
  go_wp2_with (go_at_call 132; refine (L _ _).mono ?_; rintro e w2 ⟨rfl, rfl⟩)
  go_ret
  exact ⟨rfl, rfl⟩
/-- keys in a row: rising -/
def KRising (l : List (List Int)) : Prop := l.Pairwise fun a b => klt a b = true
theorem krising_at {l : List (List Int)} (h : KRising l) {i j : Nat} {a b : List Int} (hij : i < j) (ha : l[i]? = some a) (hb : l[j]? = some b) : klt a b = true := by
  obtain ⟨hi, rfl⟩ := List.getElem?_eq_some_iff.1 ha
  obtain ⟨hj, rfl⟩ := List.getElem?_eq_some_iff.1 hb
  exact List.pairwise_iff_getElem.1 h i j hi hj hij
set_option maxHeartbeats 1000000 in
set_option maxRecDepth 100000 in
theorem search_str (v : Value) (l : List (List Int)) (hr : KRising l) (hlb : ∀ k ∈ l, isBytes k) (x : List Int) (hx : isBytes x) (w : World) (hv : Src w v (strs l)) (hl : l.length ≤ 1099511627776) :
    Calls Tryz.prog 68 #[v, .string (strOfNums x)] w fun e w' => e = .returned (.tuple #[.int .i64 (posK l x), .bool (decide (x ∈ l))]) ∧ Below w.heap.size w w' := by
  have L := less_str
  have L2 := isNaN_str
  obtain ⟨n, hn⟩ : ∃ n, l.length = n := ⟨_, rfl⟩
  obtain ⟨a, c, rfl, -⟩ := hv.shape
  rw [strs_length, hn] at hv ⊢
  rw [hn] at hl
  have Hn := Lib.hid hn; clear hn
  have hcell : ∀ (i : Nat), i < n → ∃ g o, a = some ⟨g, o, none⟩ ∧ ∀ W, Below w.heap.size w W → W.cell? ⟨g, o + i, none⟩ = some (.string (strOfNums (l.getD i []))) := fun i hi => by
    rcases hv with ⟨g, o, c', e1, -, h⟩ | ⟨e1, e2⟩
    · injection e1 with e1 _ _
      refine ⟨g, o, e1, fun W hW => below_cell hW (h i _ (strs_get ?_))⟩
      rw [List.getD_eq_getElem?_getD, List.getElem?_eq_getElem (by rw [Hn.out]; exact hi)]
      rfl
    · injection e1 with e1 e3 _
      subst e3
      omega
  have Hc := Lib.hid hcell; clear hcell hv
  have hget : ∀ (i : Nat), i < n → l[i]? = some (l.getD i []) := fun i hi => by
    rw [List.getD_eq_getElem?_getD, List.getElem?_eq_getElem (by rw [Hn.out]; exact hi)]; rfl
  have Hg := Lib.hid hget; clear hget
  go_enter Tryz.func68, Tryz.ntmps68
  go_wp2_with fail
  go_loopw [7, 8] (fun vi vj wr => ∃ i j : Nat, vi = .int .i64 i ∧ vj = .int .i64 j ∧ i ≤ j ∧ j ≤ n ∧ (∀ q y, q < i → l[q]? = some y → klt y x = true) ∧ (∀ q y, j ≤ q → l[q]? = some y → klt y x = false) ∧ Below w.heap.size w wr)
    (fun vi vj _ => (intOf vj).toNat - (intOf vi).toNat)
  case atStart => exact ⟨0, n, rfl, rfl, by omega, by omega, fun q y hq _ => absurd hq (Nat.not_lt_zero _), fun q y hq hy => (by rw [List.getElem?_eq_none (by rw [Hn.out]; exact hq)] at hy; cases hy), Below.refl _ _⟩
  case round =>
    obtain ⟨i, j, rfl, rfl, hij, hjn, hlo, hhi, hB⟩ := hrel
    have Hlo := Lib.hid hlo; clear hlo
    have Hhi := Lib.hid hhi; clear hhi
    by_cases hlt : i < j
    · obtain ⟨h, hh1, hh2, hhe⟩ : ∃ h : Nat, i ≤ h ∧ h < j ∧ ((i : Int) + (j : Int)) / 2 = (h : Int) := ⟨(i + j) / 2, by omega, by omega, by omega⟩
      obtain ⟨g, o, rfl, hc⟩ := Hc.out h (by omega)
      replace hc := hc wr hB
      have hhn : (h : Int) < (n : Int) := by omega
      obtain ⟨y, hy⟩ : ∃ y, l.getD h [] = y := ⟨_, rfl⟩
      have hgy := Hg.out h (by omega)
      rw [hy] at hc hgy
      have hyb := hlb y (List.mem_of_getElem? hgy)
      have Hy := Lib.hid hgy; clear hgy hy
      cases hyx : klt y x with
      | true =>
        go_wp2_with (first | (rw [hhe]) | (go_at_call 108; refine (L _ _ hyb hx _).mono ?_; rintro e w2 ⟨rfl, rfl⟩; rw [hyx]))
        refine ⟨⟨h + 1, j, by simp, rfl, by omega, by omega, fun q z hq hz => ?_, Hhi.out, hB⟩, by simp [intOf]; omega⟩
        rcases Nat.lt_or_ge q h with hq1 | hq1
        · exact klt_trans (krising_at hr hq1 hz Hy.out) hyx
        · obtain rfl : q = h := by omega
          rw [Hy.out] at hz
          injection hz with hz
          rw [← hz]
          exact hyx
      | false =>
        go_wp2_with (first | (rw [hhe]) | (go_at_call 108; refine (L _ _ hyb hx _).mono ?_; rintro e w2 ⟨rfl, rfl⟩; rw [hyx]))
        refine ⟨⟨i, h, rfl, rfl, by omega, by omega, Hlo.out, fun q z hq hz => ?_, hB⟩, by simp [intOf]; omega⟩
        rcases Nat.lt_or_ge h q with hq1 | hq1
        · have h5 := krising_at hr hq1 Hy.out hz
          cases h6 : klt z x
          · rfl
          · rw [klt_trans h5 h6] at hyx
            cases hyx
        · obtain rfl : q = h := by omega
          rw [Hy.out] at hz
          injection hz with hz
          rw [← hz]
          exact hyx
    · obtain rfl : j = i := by omega
      have hrank : posK l x = j := posK_unique (by rw [Hn.out]; exact hjn) Hlo.out Hhi.out
      have Hrank := Lib.hid hrank; clear hrank
      by_cases hin : j < n
      · obtain ⟨g, o, rfl, hc⟩ := Hc.out j hin
        replace hc := hc wr hB
        have hhn : (j : Int) < (n : Int) := by omega
        obtain ⟨y, hy⟩ : ∃ y, l.getD j [] = y := ⟨_, rfl⟩
        have hgy := Hg.out j (by omega)
        rw [hy] at hc hgy
        have hyb := hlb y (List.mem_of_getElem? hgy)
        have Hy := Lib.hid hgy; clear hgy hy
        have hbeq := strOfNums_beq hyb hx
        by_cases hyx : y = x
        · have hm : decide (x ∈ l) = true := by rw [decide_eq_true_iff, ← hyx]; exact List.mem_of_getElem? Hy.out
          have Hm := Lib.hid hm; clear hm
          rw [decide_eq_true hyx] at hbeq
          subst hyx
          go_wp2_with (go_at_call 109; refine (L2 _ _).mono ?_; rintro e w2 ⟨rfl, rfl⟩)
          go_ret2
          rw [Hrank.out, Hm.out]
          exact ⟨rfl, hB⟩
        · have hm : decide (x ∈ l) = false := by
            rw [decide_eq_false_iff_not]
            intro hx
            obtain ⟨q, hq⟩ := List.mem_iff_getElem?.1 hx
            have h1 := Hhi.out j y (Nat.le_refl _) Hy.out
            rcases Nat.lt_trichotomy q j with h2 | h2 | h2
            · have := Hlo.out q x h2 hq
              rw [klt_irrefl] at this
              cases this
            · subst h2
              rw [Hy.out] at hq
              injection hq with hq
              exact hyx hq
            · rw [krising_at hr h2 Hy.out hq] at h1
              cases h1
          have Hm := Lib.hid hm; clear hm
          rw [decide_eq_false hyx] at hbeq
          go_wp2_with (go_at_call 109; refine (L2 _ _).mono ?_; rintro e w2 ⟨rfl, rfl⟩)
          go_ret2
          rw [Hrank.out, Hm.out]
          exact ⟨rfl, hB⟩
      · have hm : decide (x ∈ l) = false := by
          rw [decide_eq_false_iff_not]
          intro hx
          obtain ⟨q, hq⟩ := List.mem_iff_getElem?.1 hx
          have h3 := (List.getElem?_eq_some_iff.1 hq).1
          rw [Hn.out] at h3
          have := Hlo.out q x (by omega) hq
          rw [klt_irrefl] at this
          cases this
        have Hm := Lib.hid hm; clear hm
        have hhn : ¬ (j : Int) < (n : Int) := by omega
        go_wp2_with (go_at_call 109; refine (L2 _ _).mono ?_; rintro e w2 ⟨rfl, rfl⟩)
        go_ret2
        rw [Hrank.out, Hm.out]
        exact ⟨rfl, hB⟩
end Go.Proofs.YtbjofbhhnmehgaaGreatDoor.TT
namespace Go.Proofs.YtbjofbhhnmehgaaGreatDoor.TT
open Go.RowKit Go.RG Go.Hp Go.Proofs.YtbjofbhhnmehgaaGreatDoor


theorem und_pmap : Tryz.prog.underlying 72 = some (.map 9 52) := by kernel_rfl
theorem und_string : Tryz.prog.underlying 9 = some .string := by kernel_rfl
/-- a key, as the map holds it -/
def keyL (k : List Int) : Lit := .string (strOfNums k).data.toList
theorem keyL_inj {a b : List Int} (ha : isBytes a) (hb : isBytes b) (h : keyL a = keyL b) : a = b := by
  refine strOfNums_inj ha hb ?_
  unfold keyL at h
  injection h with h
  exact ByteArray.ext (Array.toList_inj.1 h)
theorem keyOf_key (k : List Int) (hk : k.length ≤ 549755813888) : keyOf Tryz.prog 9 (.string (strOfNums k)) = some (keyL k) :=
  WideMaps.keyOf_string_mk und_string (by rw [strOfNums_size]; unfold maxLen; omega)
/-- a map from keys to slices -/
structure PMap (w : World) (bm : Nat) (ks : List (List Int)) (V : List Int → Value) : Prop where
  some' : ∃ D, w.ownsMap Tryz.prog 9 asIs bm ks.length D ∧ Maps.size D = ks.length ∧ ks.Nodup ∧
    (∀ k, isBytes k → D.atKey (keyL k) (.held (.slice none 0 0)) = .held (V k) ∧ Maps.has D (keyL k) = decide (k ∈ ks)) ∧ ∀ k, k ∉ ks → V k = .slice none 0 0
theorem PMap.keep {w w' : World} {bm : Nat} {ks : List (List Int)} {V : List Int → Value} (h : PMap w bm ks V) (hb : w'.heap[bm]? = w.heap[bm]?) : PMap w' bm ks V := by
  obtain ⟨D, ⟨es, clock, h1, h2⟩, h3⟩ := h.some'
  exact ⟨D, ⟨es, clock, hb.trans h1, h2⟩, h3⟩
theorem PMap.lt {w : World} {bm : Nat} {ks : List (List Int)} {V : List Int → Value} (h : PMap w bm ks V) : bm < w.heap.size := by
  obtain ⟨D, h1, -⟩ := h.some'
  exact h1.lt
theorem PMap.none' {w : World} {bm : Nat} {ks : List (List Int)} {V : List Int → Value} (h : PMap w bm ks V) : ∀ k, k ∉ ks → V k = .slice none 0 0 := by
  obtain ⟨D, -, -, -, -, h1⟩ := h.some'
  exact h1
theorem PMap.new {w : World} {g : Nat} (h : w.heap[g]? = some (.map #[] 0)) : PMap w g [] (fun _ => .slice none 0 0) := by
  obtain ⟨es, clock, hb, F, hs, hD⟩ := World.ownsMap_made w Tryz.prog 9 asIs
  rw [World.alloc_heap_new] at hb
  injection hb with hb
  injection hb with e1 e2
  subst e1 e2
  exact ⟨⟨.map [], ⟨#[], 0, h, F, Nat.le_refl _, rfl⟩, rfl, List.nodup_nil, fun i _ => ⟨rfl, by simp [Maps.has]⟩, fun i _ => rfl⟩⟩
theorem asIs_inv {v u : Value} {ps : List MemPlace} (h : asIs v = some (.held u, ps)) : v = u := by
  unfold asIs at h
  simp only [Option.some.injEq, Prod.mk.injEq] at h
  obtain ⟨h, -⟩ := h
  injection h with h
theorem zero_bytes (w : World) : (zeroValue 52).run Tryz.prog w = .ok (.slice none 0 0) w := by kernel_rfl
theorem PMap.look {w : World} {bm : Nat} {ks : List (List Int)} {V : List Int → Value} (h : PMap w bm ks V) (k : List Int) (hk : isBytes k) (hl : k.length ≤ 549755813888) :
    Sem.run Tryz.prog (Instr.lookup 72 (.map (some bm)) (.string (strOfNums k)) false) w = .ok (V k) w := by
  obtain ⟨D, h1, -, -, h2, -⟩ := h.some'
  obtain ⟨v, ps, hr, hv⟩ := h1.lookup (Maps.string_keyed und_string) und_pmap (zero_bytes w) (show asIs (.slice none 0 0) = some (.held (.slice none 0 0), []) from rfl) (keyOf_key k hl)
  rw [(h2 k hk).1] at hv
  rw [asIs_inv hv] at hr
  exact hr
theorem PMap.look_ok {w : World} {bm : Nat} {ks : List (List Int)} {V : List Int → Value} (h : PMap w bm ks V) (k : List Int) (hk : isBytes k) (hl : k.length ≤ 549755813888) :
    Sem.run Tryz.prog (Instr.lookup 72 (.map (some bm)) (.string (strOfNums k)) true) w = .ok (.tuple #[V k, .bool (decide (k ∈ ks))]) w := by
  obtain ⟨D, h1, -, -, h2, -⟩ := h.some'
  obtain ⟨v, ps, hr, hv⟩ := h1.look_ok (Maps.string_keyed und_string) und_pmap (zero_bytes w) (show asIs (.slice none 0 0) = some (.held (.slice none 0 0), []) from rfl) (keyOf_key k hl)
  rw [(h2 k hk).1] at hv
  rw [asIs_inv hv, (h2 k hk).2] at hr
  exact hr
theorem PMap.perm {w : World} {bm : Nat} {ks ks' : List (List Int)} {V : List Int → Value} (h : PMap w bm ks V) (hp : ks.Perm ks') : PMap w bm ks' V := by
  obtain ⟨D, h1, h2, h3, h4, h5⟩ := h.some'
  refine ⟨D, by rw [← hp.length_eq]; exact h1, by rw [← hp.length_eq]; exact h2, hp.nodup_iff.1 h3, fun k hk => ⟨(h4 k hk).1, ?_⟩, fun k hk => h5 k fun e => hk (hp.mem_iff.1 e)⟩
  rw [(h4 k hk).2, decide_eq_decide]
  exact hp.mem_iff
def setVK (V : List Int → Value) (i : List Int) (v : Value) (j : List Int) : Value := if j = i then v else V j
def addKK (ks : List (List Int)) (i : List Int) : List (List Int) := if i ∈ ks then ks else i :: ks
theorem addKK_mem {ks : List (List Int)} {i j : List Int} : j ∈ addKK ks i ↔ j = i ∨ j ∈ ks := by
  unfold addKK
  split
  · rename_i h
    constructor
    · exact .inr
    · rintro (rfl | h')
      · exact h
      · exact h'
  · exact List.mem_cons
/-- a store into the map -/
theorem PMap.store {w : World} {bm : Nat} {ks : List (List Int)} {V : List Int → Value} (h : PMap w bm ks V) (hn : ks.length ≤ 549755813887) (k : List Int) (hk : isBytes k) (hl : k.length ≤ 549755813888) (v : Value) :
    ∃ w', (Instr.mapUpdate 72 (.map (some bm)) (.string (strOfNums k)) v).run Tryz.prog w = .ok () w' ∧ PMap w' bm (addKK ks k) (setVK V k v) ∧ Ext (· = bm) w w' := by
  obtain ⟨D, h1, h2, h3, h4, h5⟩ := h.some'
  have K := Maps.string_keyed und_string
  obtain ⟨w', r1, r2, r3⟩ := h1.update K und_pmap (by unfold maxLen; omega) (keyOf_key k hl) (show asIs v = some (.held v, []) from rfl)
  have ht := h1.tidy K
  have hsz := Maps.size_put ht (k := keyL k) (.held v)
  rw [(h4 k hk).2, h2] at hsz
  have hlen : Maps.size (D.put (keyL k) (.held v)) = (addKK ks k).length := by
    rw [hsz]
    unfold addKK
    by_cases hm : k ∈ ks
    · simp [hm]
    · simp [hm]
  refine ⟨w', r1, ⟨D.put (keyL k) (.held v), by rw [← hlen]; exact owns_tight r2, hlen, ?_, fun j hj => ?_, fun j hj => ?_⟩, ⟨r3.os, r3.tape, r3.output, r3.size, fun j hj hne => r3.block j hj fun e => hne (by injection e)⟩⟩
  · unfold addKK
    split
    · exact h3
    · rename_i hm; exact List.nodup_cons.2 ⟨hm, h3⟩
  · have hD := h1.isMap
    have hkl : WideAt.IsKeyLit (keyL k) := by first | trivial | simp [WideAt.IsKeyLit, keyL]
    by_cases hji : j = k
    · subst hji
      exact ⟨by rw [Maps.atKey_put_same hD hkl]; simp [setVK], by rw [Maps.has_put_same hD hkl]; simp [addKK_mem]⟩
    · have hne : keyL j ≠ keyL k := fun e => hji (keyL_inj hj hk e)
      refine ⟨?_, ?_⟩
      · rw [Maps.atKey_put_other hne, (h4 j hj).1]; simp [setVK, hji]
      · rw [Maps.has_put_other hne, (h4 j hj).2]
        simp [addKK_mem, hji]
  · have := fun e => hj (addKK_mem.2 e)
    have h6 : j ≠ k := fun e => this (.inl e)
    have h7 : j ∉ ks := fun e => this (.inr e)
    simp [setVK, h6, h5 j h7]
/-- delete -/
theorem PMap.drop {w : World} {bm : Nat} {ks : List (List Int)} {V : List Int → Value} (h : PMap w bm ks V) (k : List Int) (hk : isBytes k) (hl : k.length ≤ 549755813888) (hin : k ∈ ks) (ty : TypeId) :
    ∃ w', (Builtin.delete_ #[72, 9] ty #[.map (some bm), .string (strOfNums k)]).run Tryz.prog w = .ok (.tuple #[]) w' ∧ PMap w' bm (ks.erase k) (setVK V k (.slice none 0 0)) ∧ Ext (· = bm) w w' := by
  obtain ⟨D, h1, h2, h3, h4, h5⟩ := h.some'
  have K := Maps.string_keyed und_string
  obtain ⟨w', r1, r2, r3⟩ := h1.drop K und_pmap (keyOf_key k hl) ty
  have r3 := r3.grown
  have ht := h1.tidy K
  have hsz := Maps.size_del ht (k := keyL k)
  rw [(h4 k hk).2, h2, decide_eq_true hin, if_pos rfl] at hsz
  have hlen : Maps.size (D.del (keyL k)) = (ks.erase k).length := by
    rw [List.length_erase_of_mem hin]
    omega
  refine ⟨w', r1, ⟨D.del (keyL k), by rw [← hlen]; exact owns_tight r2, hlen, h3.erase _, fun j hj => ?_, fun j hj => ?_⟩, ⟨r3.os, r3.tape, r3.output, r3.size, fun j hj hne => r3.block j hj fun e => hne (by injection e)⟩⟩
  · by_cases hji : j = k
    · subst hji
      refine ⟨by rw [Maps.atKey_del_same]; simp [setVK], ?_⟩
      rw [Maps.has_del_same]
      symm
      rw [decide_eq_false_iff_not, List.Nodup.mem_erase_iff h3]
      exact fun h => h.1 rfl
    · have hne : keyL j ≠ keyL k := fun e => hji (keyL_inj hj hk e)
      refine ⟨?_, ?_⟩
      · rw [Maps.atKey_del_other hne, (h4 j hj).1]; simp [setVK, hji]
      · rw [Maps.has_del_other hne, (h4 j hj).2, decide_eq_decide, List.Nodup.mem_erase_iff h3]
        exact ⟨fun h => ⟨hji, h⟩, fun h => h.2⟩
  · unfold setVK
    split
    · rfl
    · rename_i h6
      exact h5 j fun h7 => hj ((List.Nodup.mem_erase_iff h3).2 ⟨h6, h7⟩)
end Go.Proofs.YtbjofbhhnmehgaaGreatDoor.TT
namespace Go.Proofs.YtbjofbhhnmehgaaGreatDoor.TT
open Go.RowKit Go.RG Go.Hp Go.Proofs.YtbjofbhhnmehgaaGreatDoor


abbrev Pr := List Int × List Int
def keysP (ps : List Pr) : List (List Int) := ps.map Prod.fst
theorem keysP_length (ps : List Pr) : (keysP ps).length = ps.length := by simp [keysP]
/-- what stands under a key -/
def valP (ps : List Pr) (k : List Int) : List Int := ((ps.find? fun p => decide (p.1 = k)).map Prod.snd).getD []
def liveN (ps : List Pr) : Nat := (ps.map fun p => pairN p.1 p.2).sum
def putP (ps : List Pr) (k v : List Int) : List Pr := if k ∈ keysP ps then ps.map (fun p => if p.1 = k then (k, v) else p) else ps.take (posK (keysP ps) k) ++ (k, v) :: ps.drop (posK (keysP ps) k)
def delP (ps : List Pr) (k : List Int) : List Pr := if k ∈ keysP ps then ps.take (posK (keysP ps) k) ++ ps.drop (posK (keysP ps) k + 1) else ps
/-- a change -/
structure Chg where
  key : List Int
  value : List Int
  gone : Bool
def chgP (ps : List Pr) (c : Chg) : List Pr := if c.gone then delP ps c.key else putP ps c.key c.value
theorem posK_at {l : List (List Int)} {x : List Int} (hr : KRising l) (hx : x ∈ l) : l[posK l x]? = some x := by
  obtain ⟨i, hi⟩ := List.mem_iff_getElem?.1 hx
  have hil := (List.getElem?_eq_some_iff.1 hi).1
  have : posK l x = i := posK_unique (Nat.le_of_lt hil) (fun q n hq hn => krising_at hr hq hn hi) (fun q n hq hn => by
    rcases Nat.eq_or_lt_of_le hq with rfl | h
    · rw [hi] at hn; injection hn with hn; rw [← hn]; exact klt_irrefl _
    · exact klt_asymm (krising_at hr h hi hn))
  rw [this]; exact hi
theorem posK_split {l : List (List Int)} {x : List Int} (hr : KRising l) : (∀ y ∈ l.take (posK l x), klt y x = true) ∧ (∀ y ∈ l.drop (posK l x), klt y x = false) := by
  induction l with
  | nil => simp
  | cons y l ih =>
    have hr' := List.pairwise_cons.1 hr
    have ih := ih hr'.2
    unfold posK at ih ⊢
    cases h : klt y x
    · have h0 : l.countP (fun y => klt y x) = 0 := by
        rw [List.countP_eq_zero]
        intro z hz hk
        rw [klt_trans (hr'.1 z hz) hk] at h
        cases h
      rw [List.countP_cons_of_neg (by simp [h]), h0]
      refine ⟨fun z hz => (by cases hz), fun z hz => ?_⟩
      rcases List.mem_cons.1 hz with rfl | hz
      · exact h
      · cases h2 : klt z x
        · rfl
        · rw [klt_trans (hr'.1 z hz) h2] at h; cases h
    · rw [List.countP_cons_of_pos (by simpa using h)]
      refine ⟨fun z hz => ?_, fun z hz => ih.2 z (by simpa using hz)⟩
      rw [List.take_succ_cons] at hz
      rcases List.mem_cons.1 hz with rfl | hz
      · exact h
      · exact ih.1 z hz
theorem krising_ins {l : List (List Int)} {x : List Int} (hr : KRising l) (hx : x ∉ l) : KRising (l.take (posK l x) ++ x :: l.drop (posK l x)) := by
  have h := posK_split (x := x) hr
  have hd : ∀ y ∈ l.drop (posK l x), klt x y = true := fun y hy => by
    cases h2 : klt x y
    · exact absurd (klt_tri h2 (h.2 y hy)) (by rintro rfl; exact hx (List.mem_of_mem_drop hy))
    · rfl
  refine List.pairwise_append.2 ⟨hr.sublist (List.take_sublist _ _), List.pairwise_cons.2 ⟨hd, hr.sublist (List.drop_sublist _ _)⟩, fun a ha b hb => ?_⟩
  rcases List.mem_cons.1 hb with rfl | hb
  · exact h.1 a ha
  · exact klt_trans (h.1 a ha) (hd b hb)
theorem keys_put {ps : List Pr} {k v : List Int} : keysP (putP ps k v) = if k ∈ keysP ps then keysP ps else (keysP ps).take (posK (keysP ps) k) ++ k :: (keysP ps).drop (posK (keysP ps) k) := by
  unfold putP
  split
  · unfold keysP
    rw [List.map_map]
    apply List.map_congr_left
    intro p _
    simp only [Function.comp]
    split
    · rename_i h; exact h.symm
    · rfl
  · simp [keysP, List.map_take, List.map_drop]
theorem keys_del {ps : List Pr} {k : List Int} : keysP (delP ps k) = if k ∈ keysP ps then (keysP ps).take (posK (keysP ps) k) ++ (keysP ps).drop (posK (keysP ps) k + 1) else keysP ps := by
  unfold delP
  split
  · simp [keysP, List.map_take, List.map_drop]
  · rfl
theorem rise_put {ps : List Pr} {k v : List Int} (hr : KRising (keysP ps)) : KRising (keysP (putP ps k v)) := by
  rw [keys_put]
  split
  · exact hr
  · rename_i h; exact krising_ins hr h
theorem rise_del {ps : List Pr} {k : List Int} (hr : KRising (keysP ps)) : KRising (keysP (delP ps k)) := by
  rw [keys_del]
  split
  · refine hr.sublist ?_
    conv => rhs; rw [← List.take_append_drop (posK (keysP ps) k) (keysP ps)]
    refine List.Sublist.append (List.Sublist.refl _) ?_
    rw [Nat.add_comm, ← List.drop_drop]
    first | exact List.drop_sublist _ _ | (rw [List.drop_drop]; exact (List.drop_sublist_drop_left _ (by omega)))
  · exact hr
theorem krising_nodup {l : List (List Int)} (h : KRising l) : l.Nodup := List.Pairwise.imp (fun hab => klt_ne hab) h
/-- the place of a key -/
theorem pair_at {ps : List Pr} {k : List Int} (hr : KRising (keysP ps)) (hk : k ∈ keysP ps) : ∃ v, ps[posK (keysP ps) k]? = some (k, v) ∧ (k, v) ∈ ps ∧ valP ps k = v := by
  have h := posK_at hr hk
  unfold keysP at h
  rw [List.getElem?_map] at h
  cases h2 : ps[posK (keysP ps) k]? with
  | none => unfold keysP at h2; rw [h2] at h; cases h
  | some p =>
    have h3 := h2
    unfold keysP at h3
    rw [h3] at h
    injection h with h
    obtain ⟨a, v⟩ := p
    simp only at h
    subst h
    refine ⟨v, rfl, List.mem_of_getElem? h2, ?_⟩
    unfold valP
    have hnd := krising_nodup hr
    have hm := List.mem_of_getElem? h2
    cases h4 : ps.find? (fun p => decide (p.1 = a)) with
    | none =>
      have := List.find?_eq_none.1 h4 _ hm
      simp at this
    | some p =>
      have h5 := List.find?_some h4
      have h6 := List.mem_of_find?_eq_some h4
      obtain ⟨b, u⟩ := p
      simp only [decide_eq_true_eq] at h5
      subst h5
      simp only [Option.map_some, Option.getD_some]
      exact snd_of_nodup hnd h6 hm
where
  snd_of_nodup : ∀ {ps : List Pr} {b u v : List Int}, (keysP ps).Nodup → (b, u) ∈ ps → (b, v) ∈ ps → u = v
    | [], _, _, _, _, h, _ => by cases h
    | p :: ps, b, u, v, hn, h1, h2 => by
      have hn' := List.nodup_cons.1 hn
      rcases List.mem_cons.1 h1 with rfl | k1
      · rcases List.mem_cons.1 h2 with h2 | h2
        · injection h2 with _ h2; exact h2.symm
        · exact absurd (show b ∈ ps.map Prod.fst from List.mem_map.2 ⟨(b, v), h2, rfl⟩) hn'.1
      · rcases List.mem_cons.1 h2 with rfl | h2
        · exact absurd (show b ∈ ps.map Prod.fst from List.mem_map.2 ⟨(b, u), k1, rfl⟩) hn'.1
        · exact snd_of_nodup hn'.2 k1 h2
theorem mem_keys {ps : List Pr} {p : Pr} (h : p ∈ ps) : p.1 ∈ keysP ps := List.mem_map.2 ⟨p, h, rfl⟩
theorem liveN_append (a b : List Pr) : liveN (a ++ b) = liveN a + liveN b := by simp [liveN]
theorem liveN_cons (p : Pr) (l : List Pr) : liveN (p :: l) = pairN p.1 p.2 + liveN l := by simp [liveN]
theorem liveN_take {ps : List Pr} (i : Nat) {p : Pr} (h : ps[i]? = some p) : liveN ps = liveN (ps.take i) + pairN p.1 p.2 + liveN (ps.drop (i + 1)) := by
  obtain ⟨hi, rfl⟩ := List.getElem?_eq_some_iff.1 h
  conv => lhs; rw [← List.take_append_drop i ps, List.drop_eq_getElem_cons hi, liveN_append, liveN_cons]
  omega
theorem live_del {ps : List Pr} {k : List Int} (hr : KRising (keysP ps)) (hk : k ∈ keysP ps) : liveN (delP ps k) + pairN k (valP ps k) = liveN ps := by
  obtain ⟨v, h1, -, h2⟩ := pair_at hr hk
  rw [liveN_take _ h1, h2]
  unfold delP
  rw [if_pos hk, liveN_append]
  simp only
  omega
theorem live_ins {ps : List Pr} {k v : List Int} (hk : k ∉ keysP ps) : liveN (putP ps k v) = liveN ps + pairN k v := by
  unfold putP
  rw [if_neg hk]
  conv => rhs; rw [← List.take_append_drop (posK (keysP ps) k) ps, liveN_append]
  rw [liveN_append, liveN_cons]
  simp only
  omega
theorem live_put {ps : List Pr} {k v : List Int} (hr : KRising (keysP ps)) (hk : k ∈ keysP ps) : liveN (putP ps k v) + pairN k (valP ps k) = liveN ps + pairN k v := by
  have hnd := krising_nodup hr
  obtain ⟨v0, -, hm, h2⟩ := pair_at hr hk
  rw [h2]
  unfold putP
  rw [if_pos hk]
  clear h2 hr
  induction ps with
  | nil => cases hm
  | cons p ps ih =>
    have hn' := List.nodup_cons.1 hnd
    rcases List.mem_cons.1 hm with rfl | hm
    · have hno : ps.map (fun p => if p.1 = k then (k, v) else p) = ps := by
        conv => rhs; rw [← List.map_id ps]
        apply List.map_congr_left
        intro q hq
        rw [if_neg]
        · rfl
        · rintro rfl
          exact hn'.1 (List.mem_map.2 ⟨q, hq, rfl⟩)
      simp only [List.map_cons, if_true, hno]
      simp [liveN]
      omega
    · have hne : p.1 ≠ k := by
        rintro rfl
        exact hn'.1 (List.mem_map.2 ⟨_, hm, rfl⟩)
      have := ih (mem_keys hm) hn'.2 hm
      simp only [List.map_cons, if_neg hne]
      simp only [liveN, List.map_cons, List.sum_cons] at this ⊢
      omega
theorem val_le {ps : List Pr} {k : List Int} (hr : KRising (keysP ps)) (hk : k ∈ keysP ps) : pairN k (valP ps k) ≤ liveN ps := by
  have := live_del hr hk
  omega
theorem mem_put {ps : List Pr} {k v : List Int} {p : Pr} (h : p ∈ putP ps k v) : p = (k, v) ∨ (p ∈ ps ∧ p.1 ≠ k) := by
  unfold putP at h
  split at h
  · obtain ⟨q, hq, rfl⟩ := List.mem_map.1 h
    split
    · exact .inl rfl
    · rename_i hne; exact .inr ⟨hq, hne⟩
  · rename_i hk
    rcases List.mem_append.1 h with h | h
    · exact .inr ⟨List.mem_of_mem_take h, fun e => hk (e ▸ mem_keys (List.mem_of_mem_take h))⟩
    · rcases List.mem_cons.1 h with rfl | h
      · exact .inl rfl
      · exact .inr ⟨List.mem_of_mem_drop h, fun e => hk (e ▸ mem_keys (List.mem_of_mem_drop h))⟩
theorem mem_del {ps : List Pr} {k : List Int} (hr : KRising (keysP ps)) {p : Pr} (h : p ∈ delP ps k) : p ∈ ps ∧ p.1 ≠ k := by
  unfold delP at h
  split at h
  · rename_i hk
    have hp : p ∈ ps := by
      rcases List.mem_append.1 h with h | h
      · exact List.mem_of_mem_take h
      · exact List.mem_of_mem_drop h
    refine ⟨hp, fun e => ?_⟩
    obtain ⟨v, h1, -, -⟩ := pair_at hr hk
    have hnd := krising_nodup hr
    have h2 : keysP ps = (keysP ps).take (posK (keysP ps) k) ++ k :: (keysP ps).drop (posK (keysP ps) k + 1) := by
      have h3 := posK_at hr hk
      obtain ⟨hi, h4⟩ := List.getElem?_eq_some_iff.1 h3
      conv => lhs; rw [← List.take_append_drop (posK (keysP ps) k) (keysP ps), List.drop_eq_getElem_cons hi, h4]
    rw [h2] at hnd
    have h5 := List.nodup_append.1 hnd
    rcases List.mem_append.1 h with h | h
    · have : p.1 ∈ (keysP ps).take (posK (keysP ps) k) := by
        unfold keysP; rw [← List.map_take]; exact List.mem_map.2 ⟨p, h, rfl⟩
      exact h5.2.2 p.1 this k (List.mem_cons_self ..) e
    · have : p.1 ∈ (keysP ps).drop (posK (keysP ps) k + 1) := by
        unfold keysP; rw [← List.map_drop]; exact List.mem_map.2 ⟨p, h, rfl⟩
      rw [e] at this
      exact (List.nodup_cons.1 h5.2.1).1 this
  · rename_i hk
    exact ⟨h, fun e => hk (e ▸ mem_keys h)⟩
theorem keys_perm_put {ps : List Pr} {k v : List Int} : (addKK (keysP ps) k).Perm (keysP (putP ps k v)) := by
  rw [keys_put]
  unfold addKK
  split
  · exact .refl _
  · refine List.Perm.trans ?_ List.perm_middle.symm
    rw [List.take_append_drop]
theorem keys_perm_del {ps : List Pr} {k : List Int} (hr : KRising (keysP ps)) (hk : k ∈ keysP ps) : ((keysP ps).erase k).Perm (keysP (delP ps k)) := by
  rw [keys_del, if_pos hk]
  have h3 := posK_at hr hk
  obtain ⟨hi, h4⟩ := List.getElem?_eq_some_iff.1 h3
  have h2 : (keysP ps).Perm (k :: ((keysP ps).take (posK (keysP ps) k) ++ (keysP ps).drop (posK (keysP ps) k + 1))) := by
    refine List.Perm.trans ?_ List.perm_middle
    have : keysP ps = (keysP ps).take (posK (keysP ps) k) ++ k :: (keysP ps).drop (posK (keysP ps) k + 1) := by
      conv => lhs; rw [← List.take_append_drop (posK (keysP ps) k) (keysP ps), List.drop_eq_getElem_cons hi, h4]
    rw [← this]
  have h5 := h2.erase k
  rwa [List.erase_cons_head] at h5

/-- what a table is -/
structure TblS where
  cap : Nat
  ps : List Pr
  live : Nat
  pending : Nat
  fallen : Int
structure TBk where
  t : Nat
  m : Nat
  s : Value
  V : List Int → Value
def TBk.all (q : TBk) (j : Nat) : Prop := j = q.t ∨ j = q.m ∨ q.s.ownBlock = some j ∨ ∃ k, (q.V k).ownBlock = some j
def tblCells (d l : Nat) (q : TBk) (T : TblS) : Array Value :=
  #[.pointer (some ⟨d, 0, none⟩), .pointer (some ⟨l, 0, none⟩), .int .i64 T.cap, .map (some q.m), q.s, .int .i64 T.live, .int .i64 T.pending, .int .i64 T.fallen]
/-- a table in memory, of which the row of keys may be another one -/
structure TblG (w : World) (d l : Nat) (q : TBk) (T : TblS) (ks : List (List Int)) : Prop where
  cells : w.heap[q.t]? = some (.cells (tblCells d l q T) 75 (0, 0))
  keys : w.ownsRow 0 9 1 q.s ks.length (strs ks)
  map : PMap w q.m (keysP T.ps) q.V
  vals : ∀ p ∈ T.ps, w.ownsRow 0 5 1 (q.V p.1) p.2.length (u8s p.2)
  rise : KRising (keysP T.ps)
  good : ∀ p ∈ T.ps, isBytes p.1 ∧ isBytes p.2 ∧ p.1.length ≤ 64 ∧ p.2.length ≤ 1024
  ne1 : q.t ≠ q.m ∧ ∀ j, q.s.ownBlock = some j → j ≠ q.t ∧ j ≠ q.m
  ne2 : ∀ k j, (q.V k).ownBlock = some j → j ≠ q.t ∧ j ≠ q.m ∧ q.s.ownBlock ≠ some j
abbrev TblAt (w : World) (d l : Nat) (q : TBk) (T : TblS) : Prop := TblG w d l q T (keysP T.ps)
section
variable {w w' : World} {d l : Nat} {q : TBk} {T : TblS} {ks : List (List Int)}
theorem TblG.keep (h : TblG w d l q T ks) (hk : ∀ k, q.all k → w'.heap[k]? = w.heap[k]?) : TblG w' d l q T ks where
  cells := by rw [hk _ (.inl rfl)]; exact h.cells
  keys := owns_of_block h.keys fun k e => hk k (.inr (.inr (.inl e)))
  map := h.map.keep (hk _ (.inr (.inl rfl)))
  vals := fun p hp => owns_of_block (h.vals p hp) fun k e => hk k (.inr (.inr (.inr ⟨_, e⟩)))
  rise := h.rise
  good := h.good
  ne1 := h.ne1
  ne2 := h.ne2
theorem TblG.own (h : TblG w d l q T ks) {k : List Int} {j : Nat} (e : (q.V k).ownBlock = some j) : k ∈ keysP T.ps := by
  by_cases hk : k ∈ keysP T.ps
  · exact hk
  · rw [h.map.none' k hk] at e; cases e
theorem mem_keysP {ps : List Pr} {k : List Int} (h : k ∈ keysP ps) : ∃ v, (k, v) ∈ ps := by
  obtain ⟨p, hp, rfl⟩ := List.mem_map.1 h
  exact ⟨p.2, hp⟩
theorem TblG.lt (h : TblG w d l q T ks) : ∀ k, q.all k → k < w.heap.size := by
  rintro k (rfl | rfl | e | ⟨i, e⟩)
  · exact block_lt_of_heap h.cells
  · exact h.map.lt
  · exact owns_lt h.keys e
  · obtain ⟨v, hv⟩ := mem_keysP (h.own e)
    exact owns_lt (h.vals _ hv) e
theorem TblG.ext {S : Nat → Prop} (h : TblG w d l q T ks) (hX : Ext S w w') (hS : ∀ k, q.all k → ¬ S k) : TblG w' d l q T ks := h.keep fun k hk => hX.block k (h.lt k hk) (hS k hk)
theorem TblG.below (h : TblG w d l q T ks) (hb : Below w.heap.size w w') : TblG w' d l q T ks := h.keep fun k hk => hb.block k (h.lt k hk)
theorem TblG.cs (h : TblG w d l q T ks) : w.cell? ⟨q.t, 0, none⟩ = some (.pointer (some ⟨d, 0, none⟩)) ∧ w.cell? ⟨q.t, 1, none⟩ = some (.pointer (some ⟨l, 0, none⟩)) ∧ w.cell? ⟨q.t, 2, none⟩ = some (.int .i64 T.cap) ∧
    w.cell? ⟨q.t, 3, none⟩ = some (.map (some q.m)) ∧ w.cell? ⟨q.t, 4, none⟩ = some q.s ∧ w.cell? ⟨q.t, 5, none⟩ = some (.int .i64 T.live) ∧ w.cell? ⟨q.t, 6, none⟩ = some (.int .i64 T.pending) ∧ w.cell? ⟨q.t, 7, none⟩ = some (.int .i64 T.fallen) ∧ ∀ j, w.frozen? ⟨q.t, j, none⟩ = false := by
  have := h.cells
  unfold tblCells at this
  simp [World.cell?, World.frozen?, this]
theorem valP_none {ps : List Pr} {k : List Int} (hk : k ∉ keysP ps) : valP ps k = [] := by
  unfold valP
  have : ps.find? (fun p => decide (p.1 = k)) = none := by
    rw [List.find?_eq_none]
    intro p hp he
    rw [decide_eq_true_iff] at he
    exact hk (he ▸ mem_keys hp)
  rw [this]; rfl
theorem TblG.val (h : TblG w d l q T ks) (k : List Int) : Src w (q.V k) (u8s (valP T.ps k)) := by
  by_cases hk : k ∈ keysP T.ps
  · obtain ⟨v, -, hm, hv⟩ := pair_at h.rise hk
    rw [hv]
    exact Src.of_owns (h.vals _ hm)
  · rw [h.map.none' k hk, valP_none hk]
    exact .inr ⟨rfl, rfl⟩
theorem TblG.val_len (h : TblG w d l q T ks) (k : List Int) : (valP T.ps k).length ≤ 1024 := by
  by_cases hk : k ∈ keysP T.ps
  · obtain ⟨v, -, hm, hv⟩ := pair_at h.rise hk
    rw [hv]
    exact (h.good _ hm).2.2.2
  · rw [valP_none hk]; simp
/-- the table has changed, and nothing else that was there -/
def TPost (w : World) (d l : Nat) (q : TBk) (T' : TblS) (ks : List (List Int)) (w' : World) : Prop :=
  ∃ q' : TBk, q'.t = q.t ∧ q'.m = q.m ∧ (∀ j, q'.all j → q.all j ∨ w.heap.size ≤ j) ∧ Ext q.all w w' ∧ TblG w' d l q' T' ks
theorem TPost.trans {w1 w2 : World} {q1 : TBk} {T2 : TblS} (ht : q1.t = q.t) (hm : q1.m = q.m) (ha : ∀ j, q1.all j → q.all j ∨ w.heap.size ≤ j) (hX : Ext q.all w w1) (h2 : TPost w1 d l q1 T2 ks w2) : TPost w d l q T2 ks w2 := by
  obtain ⟨q2, t2, m2, a2, X2, S2⟩ := h2
  refine ⟨q2, t2.trans ht, m2.trans hm, fun j hj => ?_, hX.trans X2 fun j hj h => ?_, S2⟩
  · rcases a2 j hj with h | h
    · exact ha j h
    · exact .inr (Nat.le_trans hX.size h)
  · rcases ha j h with h | h
    · exact h
    · omega
theorem TPost.of_below {w1 w2 : World} {T2 : TblS} (hb : Below w.heap.size w w1) (h2 : TPost w1 d l q T2 ks w2) : TPost w d l q T2 ks w2 :=
  .trans rfl rfl (fun j h => .inl h) (Ext.of_below hb) h2
theorem TPost.same (h : TblG w d l q T ks) (hb : Below w.heap.size w w') : TPost w d l q T ks w' := ⟨q, rfl, rfl, fun j h => .inl h, Ext.of_below hb, h.below hb⟩
/-- a cell of the table's head is set -/
theorem TblG.head (h : TblG w d l q T ks) (j : Nat) (u : Value) (T' : TblS) (hps : T'.ps = T.ps) (hc : (tblCells d l q T).setIfInBounds j u = tblCells d l q T') : TblG (w.setCell ⟨q.t, j, none⟩ u) d l q T' ks := by
  have hb : ∀ k, k ≠ q.t → (w.setCell ⟨q.t, j, none⟩ u).heap[k]? = w.heap[k]? := fun k hk => Below.heap_setCell _ _ _ _ hk
  refine { cells := ?_, keys := owns_of_block h.keys fun k e => hb k (h.ne1.2 k e).1, map := ?_, vals := ?_, rise := by rw [hps]; exact h.rise, good := by rw [hps]; exact h.good, ne1 := h.ne1, ne2 := h.ne2 }
  · rw [← hc]; exact heap_cell h.cells u
  · rw [hps]; exact h.map.keep (hb _ h.ne1.1.symm)
  · rw [hps]; exact fun p hp => owns_of_block (h.vals p hp) fun k e => hb k (h.ne2 _ k e).1
theorem TblG.head_post (h : TblG w d l q T ks) (j : Nat) (u : Value) (T' : TblS) (hps : T'.ps = T.ps) (hc : (tblCells d l q T).setIfInBounds j u = tblCells d l q T') : TPost w d l q T' ks (w.setCell ⟨q.t, j, none⟩ u) :=
  ⟨q, rfl, rfl, fun _ h => .inl h, Ext.setCell (.inl rfl) u, h.head j u T' hps hc⟩
/-- the map has got a value -/
theorem TblG.put {B : Nat} (h : TblG w d l q T ks) (k v : List Int) (hk : isBytes k) (hv : isBytes v) (hkl : k.length ≤ 64) (hvl : v.length ≤ 1024) (u : Value) (hown : w.ownsRow B 5 1 u v.length (u8s v)) (hu : ∀ j, u.ownBlock = some j → ¬ q.all j) {w' : World}
    (hm : PMap w' q.m (addKK (keysP T.ps) k) (setVK q.V k u)) (hX : Ext (· = q.m) w w') : TblG w' d l { q with V := setVK q.V k u } { T with ps := putP T.ps k v } ks := by
  have hb : ∀ j, j < w.heap.size → j ≠ q.m → w'.heap[j]? = w.heap[j]? := fun j hj hne => hX.block j hj hne
  refine { cells := ?_, keys := owns_of_block h.keys fun j e => hb j (h.lt j (.inr (.inr (.inl e)))) (h.ne1.2 j e).2, map := hm.perm keys_perm_put, vals := fun p hp => ?_, rise := rise_put h.rise, good := fun p hp => ?_, ne1 := h.ne1, ne2 := fun i j e => ?_ }
  · show w'.heap[q.t]? = _
    rw [hb _ (h.lt _ (.inl rfl)) h.ne1.1]
    exact h.cells
  · rcases mem_put hp with rfl | ⟨hp, hne⟩
    · simp only [setVK, if_true]
      exact owns_base (owns_of_block hown fun j e => hb j (owns_lt hown e) (fun e2 => hu j e (.inr (.inl e2)))) fun j e => Nat.zero_le _
    · simp only [setVK, if_neg hne]
      exact owns_of_block (h.vals p hp) fun j e => hb j (owns_lt (h.vals p hp) e) (h.ne2 _ j e).2.1
  · rcases mem_put hp with rfl | ⟨hp, hne⟩
    · exact ⟨hk, hv, hkl, hvl⟩
    · exact h.good p hp
  · simp only [setVK] at e
    split at e
    · refine ⟨fun e2 => hu j e (.inl e2), fun e2 => hu j e (.inr (.inl e2)), fun e2 => hu j e (.inr (.inr (.inl e2)))⟩
    · exact h.ne2 i j e
/-- the map has lost a key -/
theorem TblG.del (h : TblG w d l q T ks) (k : List Int) (hin : k ∈ keysP T.ps) {w' : World} (hm : PMap w' q.m ((keysP T.ps).erase k) (setVK q.V k (.slice none 0 0))) (hX : Ext (· = q.m) w w') : TblG w' d l { q with V := setVK q.V k (.slice none 0 0) } { T with ps := delP T.ps k } ks := by
  have hb : ∀ j, j < w.heap.size → j ≠ q.m → w'.heap[j]? = w.heap[j]? := fun j hj hne => hX.block j hj hne
  refine { cells := ?_, keys := owns_of_block h.keys fun j e => hb j (h.lt j (.inr (.inr (.inl e)))) (h.ne1.2 j e).2, map := hm.perm (keys_perm_del h.rise hin), vals := fun p hp => ?_, rise := rise_del h.rise, good := fun p hp => h.good p (mem_del h.rise hp).1, ne1 := h.ne1, ne2 := fun i j e => ?_ }
  · show w'.heap[q.t]? = _
    rw [hb _ (h.lt _ (.inl rfl)) h.ne1.1]
    exact h.cells
  · obtain ⟨hp, hne⟩ := mem_del h.rise hp
    simp only [setVK, if_neg hne]
    exact owns_of_block (h.vals p hp) fun j e => hb j (owns_lt (h.vals p hp) e) (h.ne2 _ j e).2.1
  · simp only [setVK] at e
    split at e
    · cases e
    · exact h.ne2 i j e
/-- the row of keys has changed -/
theorem TblG.rekey {w1 : World} {ks' : List (List Int)} (h : TblG w d l q T ks) (v : Value) (hown : w1.ownsRow 0 9 1 v ks'.length (strs ks')) (hX : Ext (fun j => q.s.ownBlock = some j) w w1) (hv : ∀ j, v.ownBlock = some j → q.s.ownBlock = some j ∨ w.heap.size ≤ j) :
    TPost w d l q T ks' (w1.setCell ⟨q.t, 4, none⟩ v) := by
  have hlt := h.lt
  have hb : ∀ j, j < w.heap.size → q.s.ownBlock ≠ some j → w1.heap[j]? = w.heap[j]? := fun j hj hne => hX.block j hj hne
  have hb2 : ∀ j, j ≠ q.t → (w1.setCell ⟨q.t, 4, none⟩ v).heap[j]? = w1.heap[j]? := fun k hk => Below.heap_setCell _ _ _ _ hk
  have hnt : q.s.ownBlock ≠ some q.t := fun e => (h.ne1.2 _ e).1 rfl
  have hnm : q.s.ownBlock ≠ some q.m := fun e => (h.ne1.2 _ e).2 rfl
  have hvn : ∀ j, v.ownBlock = some j → j ≠ q.t ∧ j ≠ q.m ∧ ∀ k, (q.V k).ownBlock ≠ some j := fun j e => by
    rcases hv j e with e | e
    · exact ⟨(h.ne1.2 j e).1, (h.ne1.2 j e).2, fun k e2 => (h.ne2 k j e2).2.2 e⟩
    · have l1 := hlt q.t (.inl rfl)
      have l2 := hlt q.m (.inr (.inl rfl))
      exact ⟨by omega, by omega, fun k e2 => by have := hlt j (.inr (.inr (.inr ⟨k, e2⟩))); omega⟩
  refine ⟨{ q with s := v }, rfl, rfl, fun j hj => ?_, ?_, ?_⟩
  · rcases hj with e | e | e | e
    · exact .inl (.inl e)
    · exact .inl (.inr (.inl e))
    · exact (hv j e).imp (fun e => .inr (.inr (.inl e))) id
    · exact .inl (.inr (.inr (.inr e)))
  · exact (hX.mono (S' := q.all) (fun j _ e => .inr (.inr (.inl e)))).trans (Ext.setCell (S := q.all) (.inl rfl) v) (fun _ _ h => h)
  · refine { cells := ?_, keys := owns_of_block hown fun j e => hb2 j (hvn j e).1, map := h.map.keep ?_, vals := fun p hp => owns_of_block (h.vals p hp) fun j e => ?_, rise := h.rise, good := h.good, ne1 := ⟨h.ne1.1, fun j e => ⟨(hvn j e).1, (hvn j e).2.1⟩⟩, ne2 := fun k j e => ⟨(h.ne2 k j e).1, (h.ne2 k j e).2.1, fun e2 => (hvn j e2).2.2 k e⟩ }
    · have := heap_cell (j := 4) ((hb q.t (hlt _ (.inl rfl)) hnt).trans h.cells) v
      exact this
    · show (w1.setCell ⟨q.t, 4, none⟩ v).heap[q.m]? = _
      rw [hb2 _ h.ne1.1.symm, hb _ (hlt _ (.inr (.inl rfl))) hnm]
    · show (w1.setCell ⟨q.t, 4, none⟩ v).heap[j]? = _
      have := h.ne2 p.1 j e
      rw [hb2 _ this.1, hb _ (owns_lt (h.vals p hp) e) this.2.2]
end
end Go.Proofs.YtbjofbhhnmehgaaGreatDoor.TT
namespace Go.Hp

theorem take_eq {α : Type} {L xs : List α} {n : Nat} (h : L.take n = xs) (hn : n ≤ L.length) : ∃ R, L = xs ++ R ∧ xs.length = n :=
  ⟨L.drop n, by rw [← h, List.take_append_drop], by rw [← h, List.length_take]; omega⟩

/-- a new row that begins with the first a cells; then vs; then the rest -/
theorem insert_new {α : Type} {L xs vs : List α} {a N : Nat} (hL : L.take a = xs.take a) (hN : xs.length = N) (ha : a ≤ N) (hl : N + vs.length ≤ L.length) :
    (splice (splice L a vs) (a + vs.length) (xs.drop a)).take (N + vs.length) = xs.take a ++ (vs ++ xs.drop a) := by
  obtain ⟨R, hR, hra⟩ := take_eq hL (by omega)
  subst hR
  generalize hA : xs.take a = A at *
  have hAl : A.length = a := hra
  generalize hD : xs.drop a = D at *
  have hDl : D.length = N - a := by rw [← hD, List.length_drop, hN]
  rw [List.length_append] at hl
  have e1 : splice (A ++ R) a vs = A ++ (vs ++ R.drop vs.length) := by
    unfold splice
    rw [List.take_append_of_le_length (by omega), List.take_of_length_le (by omega), ← hAl, ← List.drop_drop, List.drop_left]
  rw [e1]
  have e2 : splice (A ++ (vs ++ R.drop vs.length)) (a + vs.length) D = A ++ (vs ++ (D ++ (R.drop vs.length).drop D.length)) := by
    unfold splice
    have h1 : A ++ (vs ++ R.drop vs.length) = (A ++ vs) ++ R.drop vs.length := by simp
    rw [h1, List.take_append_of_le_length (by simp; omega), List.take_of_length_le (by simp; omega), ← List.drop_drop]
    have h2 : a + vs.length = (A ++ vs).length := by simp [hAl]
    rw [h2, List.drop_left]
    simp
  rw [e2]
  have h3 : A ++ (vs ++ (D ++ (R.drop vs.length).drop D.length)) = (A ++ (vs ++ D)) ++ (R.drop vs.length).drop D.length := by simp
  rw [h3, List.take_append_of_le_length (by simp; omega), List.take_of_length_le (by simp; omega)]

/-- in place: the rest first, then vs over what it has left -/
theorem insert_in {α : Type} {L xs vs : List α} {a N : Nat} (hL : L.take N = xs) (hN : xs.length = N) (ha : a ≤ N) (hl : N + vs.length ≤ L.length) :
    (splice (splice L (a + vs.length) (xs.drop a)) a vs).take (N + vs.length) = xs.take a ++ (vs ++ xs.drop a) := by
  generalize hD : xs.drop a = D at *
  have hDl : D.length = N - a := by rw [← hD, List.length_drop, hN]
  have h1 : splice L (a + vs.length) D = L.take (a + vs.length) ++ (D ++ L.drop (a + vs.length + D.length)) := rfl
  have hTl : (L.take (a + vs.length)).length = a + vs.length := by rw [List.length_take]; omega
  rw [h1]
  unfold splice
  have h2 : (L.take (a + vs.length) ++ (D ++ L.drop (a + vs.length + D.length))).take a = xs.take a := by
    rw [List.take_append_of_le_length (by omega), List.take_take, ← hL, List.take_take]
    congr 1
    omega
  have h3 : (L.take (a + vs.length) ++ (D ++ L.drop (a + vs.length + D.length))).drop (a + vs.length) = D ++ L.drop (a + vs.length + D.length) := by
    conv => lhs; arg 1; rw [← hTl]
    rw [List.drop_left]
  rw [h2, h3]
  have h4 : xs.take a ++ (vs ++ (D ++ L.drop (a + vs.length + D.length))) = (xs.take a ++ (vs ++ D)) ++ L.drop (a + vs.length + D.length) := by simp
  have h5 : (xs.take a).length = a := by rw [List.length_take]; omega
  rw [h4, List.take_append_of_le_length (by simp only [List.length_append, h5, hDl]; omega), List.take_of_length_le (by simp only [List.length_append, h5, hDl]; omega)]

/-- in place: what stands from b on is laid over what stands from a on -/
theorem delete_in {α : Type} {L xs zs : List α} {a b N : Nat} (hL : L.take N = xs) (hN : xs.length = N) (hab : a ≤ b) (hb : b ≤ N) (hl : N ≤ L.length) (hz : zs.length = b - a) :
    (splice (splice L a (xs.drop b)) (N - (b - a)) zs).take (N - (b - a)) = xs.take a ++ xs.drop b := by
  generalize hD : xs.drop b = D at *
  have hDl : D.length = N - b := by rw [← hD, List.length_drop, hN]
  have hAl : (L.take a).length = a := by rw [List.length_take]; omega
  have h0 : L.take a = xs.take a := by rw [← hL, List.take_take]; congr 1; omega
  have h1 : splice L a D = (L.take a ++ D) ++ L.drop (a + D.length) := by simp [splice]
  have hTl : (L.take a ++ D).length = N - (b - a) := by rw [List.length_append, hAl, hDl]; omega
  rw [h1]
  unfold splice
  rw [List.take_append_of_le_length (by rw [List.length_take, List.length_append, hTl]; omega), List.take_take, Nat.min_self, List.take_append_of_le_length (by omega), List.take_of_length_le (by omega), h0]

end Go.Hp
namespace Go.Proofs.YtbjofbhhnmehgaaGreatDoor.SS
open Go.RowKit Go.RG Go.Hp Go.Proofs.YtbjofbhhnmehgaaGreatDoor



theorem und_int : Tryz.prog.underlying 3 = some (.int .i64) := by kernel_rfl
theorem size_elm (w : World) : (Go.sizeOf 9).run Tryz.prog w = .ok 1 w := by kernel_rfl

theorem over_apart (w : World) (gv g o la ca lb cb : Nat) (vs L : List Value) (hv : Row w gv 9 vs) (hg : Row w g 9 L) (hne : gv ≠ g) (hL : L.length ≠ 0) :
    (callFunc 130 #[.slice (some ⟨gv, 0, none⟩) la ca, .slice (some ⟨g, o, none⟩) lb cb]).run Tryz.prog w = .ok (.value (.bool false)) w := by
  rw [run_callFunc_extern Tryz.func130 (by kernel_rfl) (by kernel_rfl) (by kernel_rfl) (e := Extern.SlicesOverlaps.overlaps #[73, 73] #[4]) (by kernel_rfl),
    Lib.run_overlaps_apart w 73 4 9 und_slc 1 size_elm ⟨gv, 0, none⟩ ⟨g, o, none⟩ la ca lb cb hne 9 9 vs.length L.length (by unfold Row at hv; simp [World.shape?, hv]) (by unfold Row at hg; simp [World.shape?, hg]) hL (hv.frozen 0) (hv.frozen _)]
  rfl

/-- what Insert promises -/
def InsPost (B : Nat) (w : World) (g n i : Nat) (xs vs : List Value) (e : Ending) (w' : World) : Prop :=
  ∃ v, e = .returned v ∧ w'.ownsRow B 9 1 v (n + 1) (xs.take (i) ++ (vs ++ xs.drop (i))) ∧ Ext (· = g) w w' ∧ ∀ k, v.ownBlock = some k → k = g ∨ w.heap.size ≤ k

set_option maxRecDepth 100000 in
theorem insert_end (B g n cap gv : Nat) (xs vs : List Value) (w : World) (hown : w.ownsRow B 9 1 (.slice (some ⟨g, 0, none⟩) n cap) n xs) (hB : B ≤ w.heap.size) (hn : n ≤ 549755813888)
    (hv : Row w gv 9 vs) (hvl : vs.length = 1) (h1v : ∀ v ∈ vs, v.oneCell' = true) :
    Calls Tryz.prog 106 #[.slice (some ⟨g, 0, none⟩) n cap, .int .i64 n, .slice (some ⟨gv, 0, none⟩) 1 1] w (InsPost B w g n n xs vs) := by
  obtain ⟨i0, hi, hz0, hz1, hz2⟩ := info_parts info_elm
  have hxl := owns_length hown
  obtain ⟨L, hg, hLl, hLt, hnc, hcm⟩ := owns_row hown
  have Hown := Lib.hid hown; clear hown
  have Hv := Lib.hid hv; clear hv
  have hm1 : cap ≤ 9223372036854775807 := by simp only [maxLen] at hcm; omega
  have c1 : n + 1 ≤ maxLen := by unfold maxLen; omega
  have c2 : (n + 1) * 16 ≤ 140737488355328 := by omega
  have C3 : Hid (∀ j u, vs[j]? = some u → w.cell? ((⟨gv, 0, none⟩ : Addr).add j) = some u) := fun j u h => by rw [Addr.add_lit, Nat.zero_add, Hv.out.cell]; exact h
  have H1v := Lib.hid h1v; clear h1v
  have hvl' : vs.length = 1 * 1 := by omega
  clear hLt
  go_enter Tryz.func106, Tryz.ntmps106
  go_wp2_with (at_builtin; refine wpList_append_own2 rfl _ _ 73 rfl B 9 i0 (.string .empty) 1 16 und_slc hi hz0 hz1 hz2 rfl (by decide) g n cap xs rfl Hown.out ⟨gv, 0, none⟩ 1 1 vs rfl hvl' C3.out H1v.out c1 c2 hB ?_; intro v' w1 hown' hgrow hnil)
  all_goals
    go_ret
    refine ⟨v', rfl, ?_, Ext.grown hgrow (fun k hk _ => by injection hk with hk; exact hk.symm), hnil⟩
    rw [List.take_of_length_le (by omega), List.drop_of_length_le (by omega), List.append_nil]
    exact hown'

set_option maxRecDepth 100000 in
theorem insert_grow (B g n cap i gv : Nat) (xs vs : List Value) (w : World) (hown : w.ownsRow B 9 1 (.slice (some ⟨g, 0, none⟩) n cap) n xs) (hB : B ≤ w.heap.size) (hn : n ≤ 549755813888) (hin : i < n) (hroom : cap < n + 1)
    (hv : Row w gv 9 vs) (hvl : vs.length = 1) (h1v : ∀ v ∈ vs, v.oneCell' = true) (h1x : ∀ v ∈ xs, v.oneCell' = true) :
    Calls Tryz.prog 106 #[.slice (some ⟨g, 0, none⟩) n cap, .int .i64 i, .slice (some ⟨gv, 0, none⟩) 1 1] w (InsPost B w g n i xs vs) := by
  obtain ⟨i0, hi, hz0, hz1, hz2⟩ := info_parts info_elm
  have hxl := owns_length hown
  obtain ⟨L, hg, hLl, hLt, hnc, hcm⟩ := owns_row hown
  obtain rfl : cap = n := by omega
  have hgB := (hown.lt g rfl).1
  have Hg := Lib.hid hg; clear hg
  have HLt := Lib.hid hLt; clear hLt
  have HLl := Lib.hid hLl; clear hLl
  have Hv := Lib.hid hv; clear hv
  clear hown
  have hm1 : cap ≤ 9223372036854775807 := by simp only [maxLen] at hcm; omega
  have hci : ¬ cap = i := by omega
  have hii : (i : Int) ≤ (cap : Int) := by omega
  have hie : ((i : Int) == (cap : Int)) = false := by rw [beq_eq_false_iff_ne]; omega
  have hk : (cap : Int) + 1 - (i : Int) = ((cap + 1 - i : Nat) : Int) := by omega
  have Hk := Lib.hid hk; clear hk
  have c1 : i * 1 ≤ L.length := by rw [HLl.out]; omega
  have c2 : 0 < cap + 1 - i := by omega
  have c3 : cap < i + (cap + 1 - i) := by omega
  have c4 : i + (cap + 1 - i) ≤ maxLen := by unfold maxLen; omega
  have c5 : (i + (cap + 1 - i)) * 16 ≤ 140737488355328 := by omega
  have H1v := Lib.hid h1v; clear h1v
  have H1x := Lib.hid h1x; clear h1x
  go_enter Tryz.func106, Tryz.ntmps106
  have C2 : Hid (vs.length = Nat.min 1 (cap + 1 - i) * 1) := by
    show vs.length = min 1 (cap + 1 - i) * 1
    rw [hvl, show min 1 (cap + 1 - i) = 1 by omega]
  go_wp2_with first | (at_builtin; go_loud (refine wpList_append_zeros rfl (.tmp 34) (.tmp 39) 73 3 rfl 9 i0 (.string .empty) .i64 .i64 1 16 und_slc und_int hi hz0 hz1 hz2 rfl (by decide) g i cap (cap + 1 - i) rfl (congrArg (Value.int .i64) Hk.out) L Hg.out c1 c2 c3 c4 c5 ?_; intro w1 L1 cap1 hr1 ht1 hl1 hc1 hm2 hb1; have HV1 := Lib.hid (Hv.out.below hb1); have d2 : i + vs.length ≤ L1.length := by rw [hl1, hvl]; omega)) | (refine wpList_copy_k rfl (.tmp 43) (.tmp 44) 73 73 rfl 9 i0 1 und_slc hi hz1 (some ⟨w.heap.size, i, none⟩) (some ⟨gv, 0, none⟩) (cap + 1 - i) (cap1 - i) 1 1 rfl rfl w.heap.size (i) 9 L1 vs hr1 C2.out (fun _ => ⟨rfl, _, rfl, fun j v h => by rw [Addr.add_lit, Nat.zero_add, HV1.out.cell]; exact h⟩) d2 H1v.out ?_; intro w2 hr2 hx2)
  have hgl := Hg.out.lt
  have HG2 := Lib.hid ((Hg.out.below hb1).ext hx2 (by omega))
  have hci1 : ¬ cap1 = i + 1 := by omega
  have hle1 : (i : Int) + 1 ≤ ((i + (cap + 1 - i) : Nat) : Int) := by omega
  clear hr1
  simp only [Act.put, Act.eval, Array.getD_eq_getD_getElem?, List.getElem?_toArray, List.getElem?_cons_zero, List.getElem?_cons_succ, Option.getD_some, List.setIfInBounds_toArray, List.set_cons_succ, List.set_cons_zero]
  refine wp_region_rg_tail 8 (fun _ => none) fol (by kernel_rfl) (fun W hW hh => ?_)
  have hr3 := hr2.below hW
  have HG3 := Lib.hid (HG2.out.below hW)
  clear hh hr2
  simp only [List.take_succ_cons, List.take_zero, List.drop_succ_cons, List.drop_zero]
  repeat ((first | refine lex_move _ (by first | exact Or.inl rfl | exact Or.inr rfl) rfl rfl ?_ | (refine lex_float ?_ rfl rfl (fun w1 hb1 hf1 => ?_) ?_; rotate_left; (go_simp; (try simp (disch := omega) only [IntWalk.i64_quo, IntWalk.rem_in, IntWalk.i64_in, IntWalk.u64_in, IntWalk.u32_in, IntWalk.u8_in, IntWalk.toNatUp, IntWalk.iteOmega]); (try go_simp); rfl)) | refine lex_skip rfl ?_); simp only [Act.put, Act.eval, Array.getD_eq_getD_getElem?, List.getElem?_toArray, List.getElem?_cons_zero, List.getElem?_cons_succ, Option.getD_some, List.setIfInBounds_toArray, List.set_cons_succ, List.set_cons_zero])
  refine lex_nil ?_
  have hmin : (xs.drop (i)).length = Nat.min (cap - i) (i + (cap + 1 - i) - (i + 1)) * 1 := by
    show _ = min _ _ * 1
    rw [List.length_drop, hxl, show min (cap - i) (i + (cap + 1 - i) - (i + 1)) = cap - i by omega]
    omega
  have hspl : (splice L1 (i) vs).length = cap1 * 1 := by rw [length_splice _ _ _ d2, hl1]
  have hfit : (i + 1) + (xs.drop (i)).length ≤ (splice L1 (i) vs).length := by
    rw [hspl, List.length_drop, hxl]; omega
  refine wpList_copy_k rfl (.tmp 50) (.tmp 53) 73 73 rfl 9 i0 1 und_slc hi hz1 (some ⟨w.heap.size, (i + 1), none⟩) (some ⟨g, i, none⟩) _ _ _ _ rfl rfl w.heap.size ((i + 1)) 9 _ (xs.drop (i)) hr3 hmin
    (fun _ => ⟨rfl, _, rfl, fun j v h => by
      rw [Addr.add_lit, HG3.out.cell]
      rw [← HLt.out, List.getElem?_drop, List.getElem?_take] at h
      split at h
      · exact h
      · cases h⟩) hfit (fun v hv => H1x.out v (List.mem_of_mem_drop hv)) ?_
  intro w3 hr4 hx4
  have Hr4 := Lib.hid hr4; clear hr4 hr3 hmin hfit
  simp only [Act.put, Act.eval, Array.getD_eq_getD_getElem?, List.getElem?_toArray, List.getElem?_cons_zero, List.getElem?_cons_succ, Option.getD_some, List.setIfInBounds_toArray, List.set_cons_succ, List.set_cons_zero]
  go_wp2_with fail
  go_ret
  refine ⟨_, rfl, ?_, ?_, ?_⟩
  · rw [show i + (cap + 1 - i) = cap + 1 by omega]
    refine owns_of_row Hr4.out ?_ (by omega) hm2 ?_ hB
    · rw [length_splice _ _ _ (by rw [hspl, List.length_drop, hxl]; omega), hspl]
    · have := insert_new (L := L1) (xs := xs) (vs := vs) (a := i) (N := cap * 1) (by rw [Nat.mul_one] at ht1; rw [ht1, ← HLt.out, List.take_take, show min (i) (cap * 1) = i by omega]) hxl (by omega) (by rw [hl1, hvl]; omega)
      rw [← this, hvl]
      congr 1
  · have e1 : Ext (· = g) w w1 := Ext.of_below hb1
    have e2 : Ext (· = g) w w2 := e1.trans hx2 (fun k hk h => by omega)
    have e3 : Ext (· = g) w W := e2.trans (Ext.of_below (S := (· = g)) hW) (fun k hk h => h)
    exact e3.trans hx4 (fun k hk h => by omega)
  · intro k hk
    exact .inr (Nat.le_of_eq (Option.some.inj hk))

set_option maxRecDepth 100000 in
theorem insert_room (B g n cap i gv : Nat) (xs vs : List Value) (w : World) (hown : w.ownsRow B 9 1 (.slice (some ⟨g, 0, none⟩) n cap) n xs) (hn : n ≤ 549755813888) (hin : i < n) (hroom : n + 1 ≤ cap)
    (hv : Row w gv 9 vs) (hne : gv ≠ g) (hvl : vs.length = 1) (h1v : ∀ v ∈ vs, v.oneCell' = true) (h1x : ∀ v ∈ xs, v.oneCell' = true) :
    Calls Tryz.prog 106 #[.slice (some ⟨g, 0, none⟩) n cap, .int .i64 i, .slice (some ⟨gv, 0, none⟩) 1 1] w (InsPost B w g n i xs vs) := by
  obtain ⟨i0, hi, hz0, hz1, hz2⟩ := info_parts info_elm
  have hxl := owns_length hown
  obtain ⟨L, hg, hLl, hLt, hnc, hcm⟩ := owns_row hown
  have hgB := (hown.lt g rfl).1
  have hov := fun lb cb => over_apart w gv g ((i + 1)) 1 1 lb cb vs L hv hg hne (by omega)
  have Hg := Lib.hid hg; clear hg
  have HLt := Lib.hid hLt; clear hLt
  have HLl := Lib.hid hLl; clear hLl
  have Hv := Lib.hid hv; clear hv
  clear hown
  have hm1 : cap ≤ 9223372036854775807 := by simp only [maxLen] at hcm; omega
  have hci : ¬ cap = i := by omega
  have hci1 : ¬ cap = i + 1 := by omega
  have hii : (i : Int) ≤ (n : Int) := by omega
  have hie : ((i : Int) == (n : Int)) = false := by rw [beq_eq_false_iff_ne]; omega
  have hin1 : (n : Int) + 1 ≤ (cap : Int) := by omega
  have H1v := Lib.hid h1v; clear h1v
  have H1x := Lib.hid h1x; clear h1x
  go_enter Tryz.func106, Tryz.ntmps106
  go_wp2_with (simp only [hov])
  clear hov
  refine wp_region_rg_tail 8 (fun _ => none) fol (by kernel_rfl) (fun W hW hh => ?_)
  have HG1 := Lib.hid (Hg.out.below hW)
  have HV1 := Lib.hid (Hv.out.below hW)
  clear hh
  simp only [List.take_succ_cons, List.take_zero, List.drop_succ_cons, List.drop_zero]
  repeat ((first | refine lex_move _ (by first | exact Or.inl rfl | exact Or.inr rfl) rfl rfl ?_ | (refine lex_float ?_ rfl rfl (fun w1 hb1 hf1 => ?_) ?_; rotate_left; (go_simp; (try simp (disch := omega) only [IntWalk.i64_quo, IntWalk.rem_in, IntWalk.i64_in, IntWalk.u64_in, IntWalk.u32_in, IntWalk.u8_in, IntWalk.toNatUp, IntWalk.iteOmega]); (try go_simp); rfl)) | refine lex_skip rfl ?_); simp only [Act.put, Act.eval, Array.getD_eq_getD_getElem?, List.getElem?_toArray, List.getElem?_cons_zero, List.getElem?_cons_succ, Option.getD_some, List.setIfInBounds_toArray, List.set_cons_succ, List.set_cons_zero])
  refine lex_nil ?_
  have hmin : (xs.drop (i)).length = Nat.min (n + 1 - i) (n - i) * 1 := by
    show _ = min _ _ * 1
    rw [List.length_drop, hxl, show min (n + 1 - i) (n - i) = n - i by omega]
    omega
  have hfit : (i + 1) + (xs.drop (i)).length ≤ L.length := by
    rw [HLl.out, List.length_drop, hxl]; omega
  refine wpList_copy_k rfl (.tmp 73) (.tmp 76) 73 73 rfl 9 i0 1 und_slc hi hz1 (some ⟨g, (i + 1), none⟩) (some ⟨g, i, none⟩) _ _ _ _ rfl rfl g ((i + 1)) 9 L (xs.drop (i)) HG1.out hmin
    (fun _ => ⟨rfl, _, rfl, fun j v h => by
      rw [Addr.add_lit, HG1.out.cell]
      rw [← HLt.out, List.getElem?_drop, List.getElem?_take] at h
      split at h
      · exact h
      · cases h⟩) hfit (fun v hv => H1x.out v (List.mem_of_mem_drop hv)) ?_
  intro w3 hr4 hx4
  have HV3 := Lib.hid (HV1.out.ext hx4 hne)
  have d2 : i + vs.length ≤ (splice L ((i + 1)) (xs.drop (i))).length := by
    rw [length_splice _ _ _ hfit, HLl.out, hvl]; omega
  have C2 : Hid (vs.length = Nat.min 1 (n + 1 - i) * 1) := by
    show vs.length = min 1 (n + 1 - i) * 1
    rw [hvl, show min 1 (n + 1 - i) = 1 by omega]
  simp only [Act.put, Act.eval, Array.getD_eq_getD_getElem?, List.getElem?_toArray, List.getElem?_cons_zero, List.getElem?_cons_succ, Option.getD_some, List.setIfInBounds_toArray, List.set_cons_succ, List.set_cons_zero]
  go_wp2_with (refine wpList_copy_k rfl (.tmp 80) (.tmp 81) 73 73 rfl 9 i0 1 und_slc hi hz1 (some ⟨g, i, none⟩) (some ⟨gv, 0, none⟩) _ _ _ _ rfl rfl g (i) 9 _ vs hr4 C2.out (fun _ => ⟨rfl, _, rfl, fun j v h => by rw [Addr.add_lit, Nat.zero_add, HV3.out.cell]; exact h⟩) d2 H1v.out ?_; intro w5 hr5 hx5)
  go_ret
  refine ⟨_, rfl, ?_, ?_, ?_⟩
  · refine owns_of_row hr5 ?_ hroom hcm ?_ hgB
    · rw [length_splice _ _ _ d2, length_splice _ _ _ hfit, HLl.out]
    · have := insert_in (L := L) (xs := xs) (vs := vs) (a := i) (N := n * 1) HLt.out hxl (by omega) (by rw [HLl.out, hvl]; omega)
      rw [← this, hvl]
      congr 1
  · have e1 : Ext (· = g) w W := Ext.of_below hW
    have e2 : Ext (· = g) w w3 := e1.trans hx4 (fun k hk h => h)
    exact e2.trans hx5 (fun k hk h => h)
  · intro k hk
    exact .inl (Option.some.inj hk).symm

set_option maxRecDepth 100000 in
theorem insert_nil (gv : Nat) (vs : List Value) (w : World)
    (hv : Row w gv 9 vs) (hvl : vs.length = 1) (h1v : ∀ v ∈ vs, v.oneCell' = true) :
    Calls Tryz.prog 106 #[.slice none 0 0, .int .i64 0, .slice (some ⟨gv, 0, none⟩) 1 1] w fun e w' => ∃ v, e = .returned v ∧ w'.ownsRow w.heap.size 9 1 v 1 vs ∧ Below w.heap.size w w' := by
  obtain ⟨i0, hi, hz0, hz1, hz2⟩ := info_parts info_elm
  have Hv := Lib.hid hv; clear hv
  have C3 : Hid (∀ j u, vs[j]? = some u → w.cell? ((⟨gv, 0, none⟩ : Addr).add j) = some u) := fun j u h => by rw [Addr.add_lit, Nat.zero_add, Hv.out.cell]; exact h
  have H1v := Lib.hid h1v; clear h1v
  have hvl' : vs.length = 1 * 1 := by omega
  have hown : w.ownsRow w.heap.size 9 1 (.slice none 0 0) 0 [] := ⟨rfl, .inl ⟨rfl, rfl⟩⟩
  have c1 : 0 + 1 ≤ maxLen := by decide
  have c2 : (0 + 1) * 16 ≤ 140737488355328 := by decide
  go_enter Tryz.func106, Tryz.ntmps106
  go_wp2_with (at_builtin; refine wpList_append_own _ rfl _ _ 73 rfl w.heap.size 9 i0 (.string .empty) 1 16 und_slc hi hz0 hz1 hz2 rfl (by decide) _ _ _ rfl hown ⟨gv, 0, none⟩ 1 1 vs rfl hvl' C3.out H1v.out c1 c2 (Nat.le_refl _) ?_; intro v' w1 hown' hgrow hnil)
  go_ret
  exact ⟨v', rfl, by simpa using hown', (Below.refl _ _).grown hgrow (Nat.le_refl _) (fun k hk => by cases hk)⟩

/-- slices.Insert of one element -/
theorem insert_any (B g n cap i gv : Nat) (xs vs : List Value) (w : World) (hown : w.ownsRow B 9 1 (.slice (some ⟨g, 0, none⟩) n cap) n xs) (hB : B ≤ w.heap.size) (hn : n ≤ 549755813888) (hin : i ≤ n)
    (hv : Row w gv 9 vs) (hne : gv ≠ g) (hvl : vs.length = 1) (h1v : ∀ v ∈ vs, v.oneCell' = true) (h1x : ∀ v ∈ xs, v.oneCell' = true) :
    Calls Tryz.prog 106 #[.slice (some ⟨g, 0, none⟩) n cap, .int .i64 i, .slice (some ⟨gv, 0, none⟩) 1 1] w (InsPost B w g n i xs vs) := by
  rcases Nat.eq_or_lt_of_le hin with rfl | h
  · exact insert_end B g i cap gv xs vs w hown hB hn hv hvl h1v
  · rcases Nat.lt_or_ge cap (n + 1) with h2 | h2
    · exact insert_grow B g n cap i gv xs vs w hown hB hn h h2 hv hvl h1v h1x
    · exact insert_room B g n cap i gv xs vs w hown hn h h2 hv hne hvl h1v h1x
end Go.Proofs.YtbjofbhhnmehgaaGreatDoor.SS
