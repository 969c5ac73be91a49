/-
  seglog.place: slot and counts.
-/
import Derived.Test.YtbjofbhhnmehgaaGreatDoorCKNz1
set_option linter.unusedSimpArgs false
set_option linter.unusedVariables false
namespace Go.RG
section
variable {P : Program} {ops : Array Oper} {b : World} {q : Act → World → Prop} {o : Oper} {rest : List Oper} {k : Nat} {Γ : Facts} {CB : World → Prop} {kd : Nat → Kind} {a : Act} {w : World}
theorem rl_skip (hs : kd k = .small ∨ kd k = .big) (hw : Region.wanted o (yielded ops a.tmps) = false)
    (hn : rlLex P ops b CB kd q rest (k + 1) (Γ.set o.dst Spec.any) (a.put o.dst undef) w) : rlLex P ops b CB kd q (o :: rest) k Γ a w := by
  show tStep _ _ _ _ _ _ _ _ _ _ _
  unfold tStep
  rcases hs with hs | hs <;> rw [hs] <;> exact ⟨undef, .inr ⟨hw, rfl⟩, hn⟩
end
end Go.RG
namespace Go.Proofs.YtbjofbhhnmehgaaGreatDoor.TT
open Go.RowKit Go.RG Go.Hp Go.Proofs.YtbjofbhhnmehgaaGreatDoor


def getN (bs : List Int) (at' n : Nat) : Nat := (getF bs at' n).toNat
theorem getN_cast {bs : List Int} (h : isBytes bs) (at' n : Nat) : (getN bs at' n : Int) = getF bs at' n := Int.toNat_of_nonneg (leNum_bounds ((h.drop at').take n)).1
theorem get_n (at' n : Nat) (v : Value) (bs : List Int) (hb : isBytes bs) (hl : at' + n ≤ bs.length) (hL : bs.length ≤ 1024) (hn : n ≤ 8) (w : World) (h : Src w v (u8s bs)) :
    Calls Tryz.prog 137 #[.agg #[.int .i64 at', .int .i64 n], v] w fun e w' => e = .returned (.int .u64 (getN bs at' n)) ∧ Below w.heap.size w w' := by
  rw [getN_cast hb]
  exact get_any at' n v bs hb hl hL hn w h
def headOf (t : List Int) : Head := ⟨getN t 4 6, getN t 10 6, getN t 16 6, getN t 22 6⟩
def noHead : Head := ⟨0, 0, 0, 0⟩
/-- the head that a slot holds -/
def slotR (x : Dsk) (first size k : Nat) : Head × Bool := match sealedR x (first + k) headMark with
  | .error _ => (noHead, false)
  | .ok t => if cleanB (t.drop 32) = true ∧ getN t 28 4 = size then (headOf t, decide (0 < (headOf t).gen) && decide ((headOf t).gen % 2 = k)) else (noHead, false)
theorem sealedR_err {x : Dsk} {i : Nat} {M : List Int} {c : Int} (h : sealedR x i M = .error c) : c = 5 ∨ c = 40 ∨ c = 50 := by
  unfold sealedR at h
  split at h
  · injection h with h; exact .inl h.symm
  · split at h
    · injection h with h; exact .inr (.inl h.symm)
    · split at h
      · injection h with h; exact .inr (.inr h.symm)
      · split at h
        · cases h
        · injection h with h; exact .inr (.inr h.symm)
theorem sealedR_ok {x : Dsk} {i : Nat} {M t : List Int} (h : sealedR x i M = .ok t) : ∃ s, readD x i = some s ∧ unsealed s = some t ∧ t.take 4 = M ∧ x.off = false := by
  unfold sealedR at h
  split at h
  · cases h
  · rename_i ho
    split at h
    · cases h
    · rename_i s hs
      split at h
      · cases h
      · rename_i t' ht
        split at h
        · rename_i hM
          injection h with h
          subst h
          exact ⟨s, hs, ht, hM, by simpa using ho⟩
        · cases h
theorem unsealed_some {s t : List Int} (h : unsealed s = some t) : 4 ≤ s.length ∧ t = s.take (s.length - 4) ∧ sealOf t = s.drop (s.length - 4) := by
  unfold unsealed at h
  split at h
  · rename_i h1
    injection h with h
    subst h
    exact ⟨h1.1, rfl, h1.2⟩
  · cases h
theorem sealedR_len {w : World} {b : Bks} {x : Dsk} (h : DskAt w b x) (hk : x.ok) {i : Nat} {M t : List Int} (hr : sealedR x i M = .ok t) : t.length = 124 ∧ isBytes t := by
  obtain ⟨s, h1, h2, -⟩ := sealedR_ok hr
  obtain ⟨-, rfl, -⟩ := unsealed_some h2
  have := h.read128 h1
  exact ⟨by rw [List.length_take, this]; rfl, (hk.read h1).take _⟩
theorem heap_set4 {W : World} {g : Nat} {c : Array Value} {T : TypeId} (hc : c.size = 4) (a0 a1 a2 a3 : Value) (h : W.heap[g]? = some (.cells c T (0, 0))) :
    ((((W.setCell ⟨g, 0, none⟩ a0).setCell ⟨g, 1, none⟩ a1).setCell ⟨g, 2, none⟩ a2).setCell ⟨g, 3, none⟩ a3).heap[g]? = some (.cells #[a0, a1, a2, a3] T (0, 0)) := by
  have h4 := heap_set (i := 3) a3 (heap_set (i := 2) a2 (heap_set (i := 1) a1 (heap_set (i := 0) a0 h)))
  rw [h4]
  congr 2
  obtain ⟨l⟩ := c
  match l, hc with
  | [_, _, _, _], _ => rfl
theorem rcell {w W : World} (hW : Below w.heap.size w W) {p : Addr} {v : Value} (c : w.cell? p = some v) : ∀ w2, Below W.heap.size W w2 → w2.cell? p = some v := fun w2 h => below_cell (below_trans hW h) c
set_option maxHeartbeats 1000000 in
set_option maxRecDepth 100000 in
theorem slot_any (b : Bks) (x : Dsk) (first size k : Nat) (hi : first + k < x.dur.length) (hk2 : k < 2) (hsz : size ≤ 65536) (w : World) (h : DskAt w b x) (hk : x.ok) (hP : Pkg w) :
    Calls Tryz.prog 112 #[placeV b first size, .int .i64 k] w fun e w' => e = .returned (.tuple #[headV (slotR x first size k).1, .bool (slotR x first size k).2]) ∧ Below w.heap.size w w' := by
  have hlim := h.lim
  obtain ⟨hb, g0, g1⟩ := allocs2 w (.cells #[.pointer (some ⟨b.d, 0, none⟩), .int .i64 first, .int .i64 size] 126) (.cells #[.int .u64 0, .int .u64 0, .int .u64 0, .int .u64 0] 128)
  unfold placeV
  go_enter Tryz.func112, Tryz.ntmps112
  go_wp2_with fail
  generalize World.alloc _ (.cells #[.int .u64 0, .int .u64 0, .int .u64 0, .int .u64 0] 128) = w1 at hb g0 g1 ⊢
  have p0 : w1.cell? ⟨w.heap.size, 0, none⟩ = some (.pointer (some ⟨b.d, 0, none⟩)) ∧ w1.cell? ⟨w.heap.size, 1, none⟩ = some (.int .i64 first) ∧ w1.cell? ⟨w.heap.size, 2, none⟩ = some (.int .i64 size) := by simp [World.cell?, g0]
  obtain ⟨-, -, p2⟩ := p0
  have hB1 := h.below hb
  have hP1 := hP.below hb
  rw [show ((first : Int) + (k : Int)) = ((first + k : Nat) : Int) by omega]
  refine (sealed_any b x first size (first + k) hi headMark ⟨#[104, 108, 121, 72]⟩ rfl rfl marks_isBytes.1 w1 hB1 hk hP1).mono ?_
  rintro e w2 ⟨hpost, hb2⟩
  have p2 := below_cell hb2 p2
  have g1 := below_heap hb2 g1
  have hB2 := hb.trans (hb2.mono hb.size)
  have hP2 := hP1.below hb2
  have HP2 := Lib.hid hP2
  have hD := hB1.below hb2
  clear h hB1 hP hP1 hP2 g0
  cases hr : sealedR x (first + k) headMark with
  | error c =>
    rw [hr] at hpost
    obtain rfl : e = _ := hpost
    have hs : slotR x first size k = (noHead, false) := by unfold slotR; rw [hr]
    have Hs := Lib.hid hs
    clear hs
    have hc : (c != 0) = true := by rcases sealedR_err hr with rfl | rfl | rfl <;> rfl
    clear hr
    go_wp2_with fail
    refine wp_region_rg (fun _ => none) fol (by kernel_rfl) (fun W4 hW4 hh => ?_)
    clear hh
    repeat ((first | refine lex_move _ (by first | exact Or.inl rfl | exact Or.inr rfl) rfl rfl ?_ | (refine lex_float ?_ rfl rfl (fun w1 hb1 hf1 => ?_) ?_; rotate_left; (go_simp; (try simp (disch := omega) only [IntWalk.i64_quo, IntWalk.rem_in, IntWalk.i64_in, IntWalk.u64_in, IntWalk.u32_in, IntWalk.u8_in, IntWalk.toNatUp, IntWalk.iteOmega]); (try go_simp); rfl)) | refine lex_skip rfl ?_); simp only [Act.put, Act.eval, Array.getD_eq_getD_getElem?, List.getElem?_toArray, List.getElem?_cons_zero, List.getElem?_cons_succ, Option.getD_some, List.setIfInBounds_toArray, List.set_cons_succ, List.set_cons_zero])
    refine lex_nil ?_
    have g1 := below_heap hW4 g1
    obtain ⟨z0, z1, z2, z3⟩ := box4 g1
    have f1 : ∀ j, W4.frozen? ⟨w.heap.size + 1, j, none⟩ = false := fun j => by simp [World.frozen?, g1]
    have hset := heap_set4 (by rfl) (.int .u64 0) (.int .u64 0) (.int .u64 0) (.int .u64 0) g1
    have Hset := Lib.hid hset
    clear hset
    go_wp2_with fail
    have hBW := hB2.trans (hW4.mono hB2.size)
    have hBe := (((hBW.setCell (p := ⟨w.heap.size + 1, 0, none⟩) (Nat.le_succ _) (.int .u64 0)).setCell (p := ⟨w.heap.size + 1, 1, none⟩) (Nat.le_succ _) (.int .u64 0)).setCell (p := ⟨w.heap.size + 1, 2, none⟩) (Nat.le_succ _) (.int .u64 0)).setCell (p := ⟨w.heap.size + 1, 3, none⟩) (Nat.le_succ _) (.int .u64 0)
    have hse := Hset.out
    generalize World.setCell _ ⟨w.heap.size + 1, 3, none⟩ _ = We at hBe hse ⊢
    obtain ⟨d0, d1, d2, d3⟩ := box4 hse
    refine ⟨rfl, .tuple #[headV (slotR x first size k).1, .bool (slotR x first size k).2], ?_, rfl, hBe⟩
    rw [Hs.out]
    simp [results, Tryz.f112, go_sem, d0, d1, d2, d3, headV, noHead]
  | ok t =>
    rw [hr] at hpost
    obtain ⟨u, rfl, hown⟩ := hpost
    obtain ⟨hlt, hbt⟩ := sealedR_len hD hk hr
    rw [hlt] at hown
    obtain ⟨g, c, rfl, hg, hgl, hcl, -⟩ := owns_parts hown (by decide)
    have hsT := Src.of_owns hown
    have hsD := src_drop hsT (m := 32) (by rw [u8s_length, hlt]; decide) (c - 32) (by rw [u8s_length, hlt]; omega)
    rw [← u8s_drop, u8s_length, hlt, Nat.zero_add, show 124 - 32 = 92 by rfl] at hsD
    have HC := Lib.hid (fun W' (h : Below w2.heap.size w2 W') => clean_any _ (t.drop 32) W' (hsD.below h) (by rw [List.length_drop, hlt]; decide))
    have HG := Lib.hid (fun W' (h : Below w2.heap.size w2 W') at' n h1 h2 => get_n at' n _ t hbt (by rw [hlt]; exact h1) (by rw [hlt]; decide) h2 W' (hsT.below h))
    have hF1 := HP2.out.size.1
    have hF2 := HP2.out.size.2
    have hs : slotR x first size k = if cleanB (t.drop 32) = true ∧ getN t 28 4 = size then (headOf t, decide (0 < (headOf t).gen) && decide ((headOf t).gen % 2 = k)) else (noHead, false) := by unfold slotR; rw [hr]
    clear hown hsT hsD hr hlt
    cases hcl : cleanB (t.drop 32)
    · rw [hcl, if_neg (by simp)] at hs
      have Hs := Lib.hid hs
      have Hcl := Lib.hid hcl
      clear hs hcl
      go_wp2_with fail
      refine wp_region_rg (fun i => if i = 10 then some (fun v w' => v = .bool false) else none) fol (by kernel_rfl) (fun W hW hh => ?_)
      clear hh
      have q1 := rcell hW hF1
      have q2 := rcell hW hF2
      repeat ((first | refine lex_move _ (by first | exact Or.inl rfl | exact Or.inr rfl) rfl rfl ?_ | (refine lex_float ?_ rfl rfl (fun w1 hb1 hf1 => ?_) ?_; rotate_left; (go_simp; (try simp (disch := omega) only [IntWalk.i64_quo, IntWalk.rem_in, IntWalk.i64_in, IntWalk.u64_in, IntWalk.u32_in, IntWalk.u8_in, IntWalk.toNatUp, IntWalk.iteOmega]); (try go_simp); rfl)) | refine lex_skip rfl ?_); simp only [Act.put, Act.eval, Array.getD_eq_getD_getElem?, List.getElem?_toArray, List.getElem?_cons_zero, List.getElem?_cons_succ, Option.getD_some, List.setIfInBounds_toArray, List.set_cons_succ, List.set_cons_zero])
      refine lex_make _ rfl (by exact fun _ _ _ h _ => h) rfl (fun w1 hb1 hf1 => ?_) ?_
      · (unfold makes; go_simp; simp only [makesUpon])
        refine (HC.out _ (below_trans hW hb1)).mono ?_
        rintro e w' ⟨rfl, rfl⟩
        exact ⟨_, rfl, Below.refl _ _, by rw [Hcl.out]⟩
      rintro v9 W4 hB9 rfl
      simp only [Act.put, Act.eval, Array.getD_eq_getD_getElem?, List.getElem?_toArray, List.getElem?_cons_zero, List.getElem?_cons_succ, Option.getD_some, List.setIfInBounds_toArray, List.set_cons_succ, List.set_cons_zero]
      repeat ((first | refine lex_move _ (by first | exact Or.inl rfl | exact Or.inr rfl) rfl rfl ?_ | (refine lex_float ?_ rfl rfl (fun w1 hb1 hf1 => ?_) ?_; rotate_left; (go_simp; (try simp (disch := omega) only [IntWalk.i64_quo, IntWalk.rem_in, IntWalk.i64_in, IntWalk.u64_in, IntWalk.u32_in, IntWalk.u8_in, IntWalk.toNatUp, IntWalk.iteOmega]); (try go_simp); rfl)) | refine lex_skip rfl ?_); simp only [Act.put, Act.eval, Array.getD_eq_getD_getElem?, List.getElem?_toArray, List.getElem?_cons_zero, List.getElem?_cons_succ, Option.getD_some, List.setIfInBounds_toArray, List.set_cons_succ, List.set_cons_zero])
      refine lex_nil ?_
      clear q1 q2 HC HG
      have hW4 := below_trans hW hB9
      have g1 := below_heap hW4 g1
      obtain ⟨z0, z1, z2, z3⟩ := box4 g1
      have f1 : ∀ j, W4.frozen? ⟨w.heap.size + 1, j, none⟩ = false := fun j => by simp [World.frozen?, g1]
      have hset := heap_set4 (by rfl) (.int .u64 0) (.int .u64 0) (.int .u64 0) (.int .u64 0) g1
      have Hset := Lib.hid hset
      clear hset
      go_wp2_with fail
      have hBW := hB2.trans (hW4.mono hB2.size)
      have hBe := (((hBW.setCell (p := ⟨w.heap.size + 1, 0, none⟩) (Nat.le_succ _) (.int .u64 0)).setCell (p := ⟨w.heap.size + 1, 1, none⟩) (Nat.le_succ _) (.int .u64 0)).setCell (p := ⟨w.heap.size + 1, 2, none⟩) (Nat.le_succ _) (.int .u64 0)).setCell (p := ⟨w.heap.size + 1, 3, none⟩) (Nat.le_succ _) (.int .u64 0)
      have hse := Hset.out
      generalize World.setCell _ ⟨w.heap.size + 1, 3, none⟩ _ = We at hBe hse ⊢
      obtain ⟨d0, d1, d2, d3⟩ := box4 hse
      refine ⟨rfl, .tuple #[headV (slotR x first size k).1, .bool (slotR x first size k).2], ?_, rfl, hBe⟩
      rw [Hs.out]
      simp [results, Tryz.f112, go_sem, d0, d1, d2, d3, headV, noHead]
    · rw [hcl] at hs
      simp only [true_and] at hs
      by_cases hsz : getN t 28 4 = size
      · rw [if_pos hsz] at hs
        have Hs := Lib.hid hs
        have Hcl := Lib.hid hcl
        have hne : ((getN t 28 4 : Int) != (size : Int)) = false := by rw [bne_eq_false_iff_eq]; omega
        clear hs hcl hsz
        go_wp2_with fail
        refine wp_region_rg (fun i => if i = 10 then some (fun v w' => v = .bool true) else if i = 16 then some (fun v w' => v = .int .u64 (getN t 28 4)) else none) fol (by kernel_rfl) (fun W hW hh => ?_)
        clear hh
        have q1 := rcell hW hF1
        have q2 := rcell hW hF2
        have q3 := rcell hW p2
        repeat ((first | refine lex_move _ (by first | exact Or.inl rfl | exact Or.inr rfl) rfl rfl ?_ | (refine lex_float ?_ rfl rfl (fun w1 hb1 hf1 => ?_) ?_; rotate_left; (go_simp; (try simp (disch := omega) only [IntWalk.i64_quo, IntWalk.rem_in, IntWalk.i64_in, IntWalk.u64_in, IntWalk.u32_in, IntWalk.u8_in, IntWalk.toNatUp, IntWalk.iteOmega]); (try go_simp); rfl)) | refine lex_skip rfl ?_); simp only [Act.put, Act.eval, Array.getD_eq_getD_getElem?, List.getElem?_toArray, List.getElem?_cons_zero, List.getElem?_cons_succ, Option.getD_some, List.setIfInBounds_toArray, List.set_cons_succ, List.set_cons_zero])
        refine lex_make _ rfl (by exact fun _ _ _ h _ => h) rfl (fun w1 hb1 hf1 => ?_) ?_
        · (unfold makes; go_simp; simp only [makesUpon])
          refine (HC.out _ (below_trans hW hb1)).mono ?_
          rintro e w' ⟨rfl, rfl⟩
          exact ⟨_, rfl, Below.refl _ _, by rw [Hcl.out]⟩
        rintro v9 W3 hB9 rfl
        simp only [Act.put, Act.eval, Array.getD_eq_getD_getElem?, List.getElem?_toArray, List.getElem?_cons_zero, List.getElem?_cons_succ, Option.getD_some, List.setIfInBounds_toArray, List.set_cons_succ, List.set_cons_zero]
        repeat ((first | refine lex_move _ (by first | exact Or.inl rfl | exact Or.inr rfl) rfl rfl ?_ | (refine lex_float ?_ rfl rfl (fun w1 hb1 hf1 => ?_) ?_; rotate_left; (go_simp; (try simp (disch := omega) only [IntWalk.i64_quo, IntWalk.rem_in, IntWalk.i64_in, IntWalk.u64_in, IntWalk.u32_in, IntWalk.u8_in, IntWalk.toNatUp, IntWalk.iteOmega]); (try go_simp); rfl)) | refine lex_skip rfl ?_); simp only [Act.put, Act.eval, Array.getD_eq_getD_getElem?, List.getElem?_toArray, List.getElem?_cons_zero, List.getElem?_cons_succ, Option.getD_some, List.setIfInBounds_toArray, List.set_cons_succ, List.set_cons_zero])
        refine lex_make _ rfl (by exact fun _ _ _ h _ => h) rfl (fun w1 hb1 hf1 => ?_) ?_
        · (unfold makes; go_simp; simp only [makesUpon])
          refine (HG.out _ (below_trans hW hb1) 28 4 (by decide) (by decide)).mono ?_
          rintro e w' ⟨rfl, hbb⟩
          exact ⟨_, rfl, hbb, rfl⟩
        rintro v10 W4 hB10 rfl
        simp only [Act.put, Act.eval, Array.getD_eq_getD_getElem?, List.getElem?_toArray, List.getElem?_cons_zero, List.getElem?_cons_succ, Option.getD_some, List.setIfInBounds_toArray, List.set_cons_succ, List.set_cons_zero]
        repeat ((first | refine lex_move _ (by first | exact Or.inl rfl | exact Or.inr rfl) rfl rfl ?_ | (refine lex_float ?_ rfl rfl (fun w1 hb1 hf1 => ?_) ?_; rotate_left; (go_simp; (try simp (disch := omega) only [IntWalk.i64_quo, IntWalk.rem_in, IntWalk.i64_in, IntWalk.u64_in, IntWalk.u32_in, IntWalk.u8_in, IntWalk.toNatUp, IntWalk.iteOmega]); (try go_simp); rfl)) | refine lex_skip rfl ?_); simp only [Act.put, Act.eval, Array.getD_eq_getD_getElem?, List.getElem?_toArray, List.getElem?_cons_zero, List.getElem?_cons_succ, Option.getD_some, List.setIfInBounds_toArray, List.set_cons_succ, List.set_cons_zero])
        refine lex_nil ?_
        clear q1 q2 q3 HC
        have hW4 := below_trans hW (below_trans hB9 hB10)
        have hP4 := HP2.out.below hW4
        obtain ⟨k1, k2⟩ := hP4.generation
        obtain ⟨k3, k4⟩ := hP4.headEpoch
        obtain ⟨k5, k6⟩ := hP4.first
        obtain ⟨k7, k8⟩ := hP4.least
        clear hP4
        go_wp2_with fail
        refine wp_region_rg_tail 14 (fun i => if i = 2 then some (fun v w' => v = .int .u64 (getN t 4 6)) else if i = 5 then some (fun v w' => v = .int .u64 (getN t 10 6)) else if i = 8 then some (fun v w' => v = .int .u64 (getN t 16 6)) else if i = 11 then some (fun v w' => v = .int .u64 (getN t 22 6)) else if i = 13 then some (fun v w' => ∃ n, v = .pointer (some ⟨n, 0, none⟩) ∧ w.heap.size ≤ n ∧ n ≠ w.heap.size + 1 ∧ w'.heap[n]? = some (.cells #[.int .u64 0, .int .u64 0, .int .u64 0, .int .u64 0] 128 (0, 0))) else none) fol (by kernel_rfl) (fun V hV hh => ?_)
        clear hh
        have q1 := rcell hV k1
        have q2 := rcell hV k2
        have q3 := rcell hV k3
        have q4 := rcell hV k4
        have q5 := rcell hV k5
        have q6 := rcell hV k6
        have q7 := rcell hV k7
        have q8 := rcell hV k8
        simp only [List.take_succ_cons, List.take_zero, List.drop_succ_cons, List.drop_zero]
        have hWV := below_trans hW4 hV
        repeat ((first | refine lex_move _ (by first | exact Or.inl rfl | exact Or.inr rfl) rfl rfl ?_ | (refine lex_float ?_ rfl rfl (fun w1 hb1 hf1 => ?_) ?_; rotate_left; (go_simp; (try simp (disch := omega) only [IntWalk.i64_quo, IntWalk.rem_in, IntWalk.i64_in, IntWalk.u64_in, IntWalk.u32_in, IntWalk.u8_in, IntWalk.toNatUp, IntWalk.iteOmega]); (try go_simp); rfl)) | refine lex_skip rfl ?_); simp only [Act.put, Act.eval, Array.getD_eq_getD_getElem?, List.getElem?_toArray, List.getElem?_cons_zero, List.getElem?_cons_succ, Option.getD_some, List.setIfInBounds_toArray, List.set_cons_succ, List.set_cons_zero])
        refine lex_make _ rfl (by exact fun _ _ _ h _ => h) rfl (fun w1 hb1 hf1 => ?_) ?_
        · (unfold makes; go_simp; simp only [makesUpon])
          refine (HG.out _ (below_trans hWV hb1) 4 6 (by decide) (by decide)).mono ?_
          rintro e w' ⟨rfl, hbb⟩
          exact ⟨_, rfl, hbb, rfl⟩
        rintro v1 V1 hV1 rfl
        simp only [Act.put, Act.eval, Array.getD_eq_getD_getElem?, List.getElem?_toArray, List.getElem?_cons_zero, List.getElem?_cons_succ, Option.getD_some, List.setIfInBounds_toArray, List.set_cons_succ, List.set_cons_zero]
        repeat ((first | refine lex_move _ (by first | exact Or.inl rfl | exact Or.inr rfl) rfl rfl ?_ | (refine lex_float ?_ rfl rfl (fun w1 hb1 hf1 => ?_) ?_; rotate_left; (go_simp; (try simp (disch := omega) only [IntWalk.i64_quo, IntWalk.rem_in, IntWalk.i64_in, IntWalk.u64_in, IntWalk.u32_in, IntWalk.u8_in, IntWalk.toNatUp, IntWalk.iteOmega]); (try go_simp); rfl)) | refine lex_skip rfl ?_); simp only [Act.put, Act.eval, Array.getD_eq_getD_getElem?, List.getElem?_toArray, List.getElem?_cons_zero, List.getElem?_cons_succ, Option.getD_some, List.setIfInBounds_toArray, List.set_cons_succ, List.set_cons_zero])
        refine lex_make _ rfl (by exact fun _ _ _ h _ => h) rfl (fun w1 hb1 hf1 => ?_) ?_
        · (unfold makes; go_simp; simp only [makesUpon])
          refine (HG.out _ (below_trans hWV hb1) 10 6 (by decide) (by decide)).mono ?_
          rintro e w' ⟨rfl, hbb⟩
          exact ⟨_, rfl, hbb, rfl⟩
        rintro v2 V2 hV2 rfl
        simp only [Act.put, Act.eval, Array.getD_eq_getD_getElem?, List.getElem?_toArray, List.getElem?_cons_zero, List.getElem?_cons_succ, Option.getD_some, List.setIfInBounds_toArray, List.set_cons_succ, List.set_cons_zero]
        repeat ((first | refine lex_move _ (by first | exact Or.inl rfl | exact Or.inr rfl) rfl rfl ?_ | (refine lex_float ?_ rfl rfl (fun w1 hb1 hf1 => ?_) ?_; rotate_left; (go_simp; (try simp (disch := omega) only [IntWalk.i64_quo, IntWalk.rem_in, IntWalk.i64_in, IntWalk.u64_in, IntWalk.u32_in, IntWalk.u8_in, IntWalk.toNatUp, IntWalk.iteOmega]); (try go_simp); rfl)) | refine lex_skip rfl ?_); simp only [Act.put, Act.eval, Array.getD_eq_getD_getElem?, List.getElem?_toArray, List.getElem?_cons_zero, List.getElem?_cons_succ, Option.getD_some, List.setIfInBounds_toArray, List.set_cons_succ, List.set_cons_zero])
        refine lex_make _ rfl (by exact fun _ _ _ h _ => h) rfl (fun w1 hb1 hf1 => ?_) ?_
        · (unfold makes; go_simp; simp only [makesUpon])
          refine (HG.out _ (below_trans hWV hb1) 16 6 (by decide) (by decide)).mono ?_
          rintro e w' ⟨rfl, hbb⟩
          exact ⟨_, rfl, hbb, rfl⟩
        rintro v3 V3 hV3 rfl
        simp only [Act.put, Act.eval, Array.getD_eq_getD_getElem?, List.getElem?_toArray, List.getElem?_cons_zero, List.getElem?_cons_succ, Option.getD_some, List.setIfInBounds_toArray, List.set_cons_succ, List.set_cons_zero]
        repeat ((first | refine lex_move _ (by first | exact Or.inl rfl | exact Or.inr rfl) rfl rfl ?_ | (refine lex_float ?_ rfl rfl (fun w1 hb1 hf1 => ?_) ?_; rotate_left; (go_simp; (try simp (disch := omega) only [IntWalk.i64_quo, IntWalk.rem_in, IntWalk.i64_in, IntWalk.u64_in, IntWalk.u32_in, IntWalk.u8_in, IntWalk.toNatUp, IntWalk.iteOmega]); (try go_simp); rfl)) | refine lex_skip rfl ?_); simp only [Act.put, Act.eval, Array.getD_eq_getD_getElem?, List.getElem?_toArray, List.getElem?_cons_zero, List.getElem?_cons_succ, Option.getD_some, List.setIfInBounds_toArray, List.set_cons_succ, List.set_cons_zero])
        refine lex_make _ rfl (by exact fun _ _ _ h _ => h) rfl (fun w1 hb1 hf1 => ?_) ?_
        · (unfold makes; go_simp; simp only [makesUpon])
          refine (HG.out _ (below_trans hWV hb1) 22 6 (by decide) (by decide)).mono ?_
          rintro e w' ⟨rfl, hbb⟩
          exact ⟨_, rfl, hbb, rfl⟩
        rintro v4 V4 hV4 rfl
        simp only [Act.put, Act.eval, Array.getD_eq_getD_getElem?, List.getElem?_toArray, List.getElem?_cons_zero, List.getElem?_cons_succ, Option.getD_some, List.setIfInBounds_toArray, List.set_cons_succ, List.set_cons_zero]
        repeat ((first | refine lex_move _ (by first | exact Or.inl rfl | exact Or.inr rfl) rfl rfl ?_ | (refine lex_float ?_ rfl rfl (fun w1 hb1 hf1 => ?_) ?_; rotate_left; (go_simp; (try simp (disch := omega) only [IntWalk.i64_quo, IntWalk.rem_in, IntWalk.i64_in, IntWalk.u64_in, IntWalk.u32_in, IntWalk.u8_in, IntWalk.toNatUp, IntWalk.iteOmega]); (try go_simp); rfl)) | refine lex_skip rfl ?_); simp only [Act.put, Act.eval, Array.getD_eq_getD_getElem?, List.getElem?_toArray, List.getElem?_cons_zero, List.getElem?_cons_succ, Option.getD_some, List.setIfInBounds_toArray, List.set_cons_succ, List.set_cons_zero])
        refine lex_make _ rfl (by exact fun _ _ _ ⟨n, h1, h2, h3, h4⟩ hb => ⟨n, h1, h2, h3, below_heap hb h4⟩) rfl (fun w1 hb1 hf1 => ?_) ?_
        · have hsz1 := (below_trans hWV hb1).size
          have hsz2 := block_lt_of_heap (below_heap (below_trans hWV hb1) g1)
          have hs0 := hB2.size
          (unfold makes; go_simp; simp only [makesUpon])
          exact ⟨below_box _ _, _, rfl, by omega, by omega, World.alloc_heap_new _ _⟩
        rintro v5 V5 hV5 ⟨n, rfl, hn, hn1, gn⟩
        simp only [Act.put, Act.eval, Array.getD_eq_getD_getElem?, List.getElem?_toArray, List.getElem?_cons_zero, List.getElem?_cons_succ, Option.getD_some, List.setIfInBounds_toArray, List.set_cons_succ, List.set_cons_zero]
        repeat ((first | refine lex_move _ (by first | exact Or.inl rfl | exact Or.inr rfl) rfl rfl ?_ | (refine lex_float ?_ rfl rfl (fun w1 hb1 hf1 => ?_) ?_; rotate_left; (go_simp; (try simp (disch := omega) only [IntWalk.i64_quo, IntWalk.rem_in, IntWalk.i64_in, IntWalk.u64_in, IntWalk.u32_in, IntWalk.u8_in, IntWalk.toNatUp, IntWalk.iteOmega]); (try go_simp); rfl)) | refine lex_skip rfl ?_); simp only [Act.put, Act.eval, Array.getD_eq_getD_getElem?, List.getElem?_toArray, List.getElem?_cons_zero, List.getElem?_cons_succ, Option.getD_some, List.setIfInBounds_toArray, List.set_cons_succ, List.set_cons_zero])
        refine lex_nil ?_
        clear q1 q2 q3 q4 q5 q6 q7 q8 HG
        have hW5 := below_trans hWV (below_trans hV1 (below_trans hV2 (below_trans hV3 (below_trans hV4 hV5))))
        obtain ⟨z0, z1, z2, z3⟩ := box4 gn
        have fn : ∀ j, V5.frozen? ⟨n, j, none⟩ = false := fun j => by simp [World.frozen?, gn]
        have hset := heap_set4 (by rfl) (.int .u64 (getN t 4 6)) (.int .u64 (getN t 10 6)) (.int .u64 (getN t 16 6)) (.int .u64 (getN t 22 6)) gn
        have hX : Ext (· = n) V5 ((((V5.setCell ⟨n, 0, none⟩ (.int .u64 (getN t 4 6))).setCell ⟨n, 1, none⟩ (.int .u64 (getN t 10 6))).setCell ⟨n, 2, none⟩ (.int .u64 (getN t 16 6))).setCell ⟨n, 3, none⟩ (.int .u64 (getN t 22 6))) :=
          (((Ext.setCell (S := (· = n)) (p := ⟨n, 0, none⟩) rfl _).trans (Ext.setCell (S := (· = n)) (p := ⟨n, 1, none⟩) rfl _) (fun _ _ h => h)).trans (Ext.setCell (S := (· = n)) (p := ⟨n, 2, none⟩) rfl _) (fun _ _ h => h)).trans (Ext.setCell (S := (· = n)) (p := ⟨n, 3, none⟩) rfl _) (fun _ _ h => h)
        have HS := Lib.hid (And.intro hset hX)
        clear hset hX
        go_wp2_with fail
        have hset := HS.out.1
        have hX := HS.out.2
        clear HS z0 z1 z2 z3 fn
        generalize World.setCell _ ⟨n, 3, none⟩ _ = V6 at hset hX ⊢
        have hB6 : Below w.heap.size w V6 := (hB2.trans (hW5.mono hB2.size)).trans (hX.to_belowAt (hB2.trans (hW5.mono hB2.size)).size fun k hk => by omega)
        have g1' := hX.heap (below_heap hW5 g1) (fun e => hn1 e.symm)
        have hk' : (headOf t).gen = getN t 4 6 := rfl
        obtain ⟨y0, y1, y2, y3⟩ := box4 hset
        by_cases h0 : 0 < getN t 4 6
        · have h0' : (0 : Int) < (getN t 4 6 : Int) := by omega
          have hsl : slotR x first size k = (headOf t, decide ((getN t 4 6 : Int) % 2 = (k : Int))) := by
            rw [Hs.out]
            rw [hk', decide_eq_true h0, Bool.true_and]
            congr 1
            rw [decide_eq_decide]
            omega
          clear Hs
          have Hs := Lib.hid hsl; clear hsl
          refine wp_region_late 13 [5, 6, 7, 8, 9, 10, 11] (fun _ => none) (fun W' => Ext (· = w.heap.size + 1) V6 W') (fun _ W' => W'.heap[w.heap.size + 1]? = some (.cells #[.int .u64 (getN t 4 6), .int .u64 (getN t 10 6), .int .u64 (getN t 16 6), .int .u64 (getN t 22 6)] 128 (0, 0))) fol (by kernel_rfl) (fun b hb1 hb2 W' hW' => (Ext.of_below hb2).trans (Ext.of_below (S := (· = w.heap.size + 1)) hW') fun _ _ h => h) (fun U hU hh => ?_)
          clear hh
          have q0 : ∀ w2, Below U.heap.size U w2 → w2.cell? ⟨n, 0, none⟩ = some (.int .u64 (getN t 4 6)) := rcell hU y0
          have q1 := rcell hU y1
          have q2 := rcell hU y2
          have q3 := rcell hU y3
          have e0 : ∀ w2, Ext (· = w.heap.size + 1) V6 w2 → w2.cell? ⟨n, 0, none⟩ = some (.int .u64 (getN t 4 6)) := fun w2 h => h.cell_some y0 hn1
          simp only [List.take_succ_cons, List.take_zero, List.drop_succ_cons, List.drop_zero]
          repeat (first
            | (refine rl_move _ (by first | exact Or.inl rfl | exact Or.inr rfl) (by first | exact Or.inl rfl | exact Or.inr rfl) rfl ?_
               simp only [Act.put, Act.eval, Array.getD_eq_getD_getElem?, List.getElem?_toArray, List.getElem?_cons_zero, List.getElem?_cons_succ, Option.getD_some, List.setIfInBounds_toArray, List.set_cons_succ, List.set_cons_zero]
              )
            | (refine rl_small ?_ rfl rfl (fun w1 hb1 hf1 => ?_) ?_
               rotate_left
               (go_simp; (try simp (disch := omega) only [IntWalk.i64_quo, IntWalk.rem_in, IntWalk.i64_in, IntWalk.u64_in, IntWalk.u32_in, IntWalk.u8_in, IntWalk.toNatUp, IntWalk.iteOmega]); (try go_simp); rfl)
               simp only [Act.put, Act.eval, Array.getD_eq_getD_getElem?, List.getElem?_toArray, List.getElem?_cons_zero, List.getElem?_cons_succ, Option.getD_some, List.setIfInBounds_toArray, List.set_cons_succ, List.set_cons_zero]
              )
            | (refine rl_big ?_ rfl rfl (fun w1 hcb1 => ?_) ?_
               rotate_left
               ((try dsimp only at hcb1); go_simp; (try simp (disch := omega) only [IntWalk.i64_quo, IntWalk.rem_in, IntWalk.i64_in, IntWalk.u64_in, IntWalk.u32_in, IntWalk.u8_in, IntWalk.toNatUp, IntWalk.iteOmega]); (try go_simp); rfl)
               simp only [Act.put, Act.eval, Array.getD_eq_getD_getElem?, List.getElem?_toArray, List.getElem?_cons_zero, List.getElem?_cons_succ, Option.getD_some, List.setIfInBounds_toArray, List.set_cons_succ, List.set_cons_zero]
              )
            | (refine rl_skip (by first | exact Or.inl rfl | exact Or.inr rfl) rfl ?_
               simp only [Act.put, Act.eval, Array.getD_eq_getD_getElem?, List.getElem?_toArray, List.getElem?_cons_zero, List.getElem?_cons_succ, Option.getD_some, List.setIfInBounds_toArray, List.set_cons_succ, List.set_cons_zero]
              ))
          have gU := below_heap hU g1'
          obtain ⟨z0, z1, z2, z3⟩ := box4 gU
          have fU : ∀ j, U.frozen? ⟨w.heap.size + 1, j, none⟩ = false := fun j => by simp [World.frozen?, gU]
          refine rl_late _ rfl rfl ?_ ?_
          · have hset := heap_set4 (by rfl) (.int .u64 (getN t 4 6)) (.int .u64 (getN t 10 6)) (.int .u64 (getN t 16 6)) (.int .u64 (getN t 22 6)) gU
            have hXU : Ext (· = w.heap.size + 1) V6 ((((U.setCell ⟨w.heap.size + 1, 0, none⟩ (.int .u64 (getN t 4 6))).setCell ⟨w.heap.size + 1, 1, none⟩ (.int .u64 (getN t 10 6))).setCell ⟨w.heap.size + 1, 2, none⟩ (.int .u64 (getN t 16 6))).setCell ⟨w.heap.size + 1, 3, none⟩ (.int .u64 (getN t 22 6))) :=
              (Ext.of_below hU).trans ((((Ext.setCell (S := (· = w.heap.size + 1)) (p := ⟨w.heap.size + 1, 0, none⟩) rfl _).trans (Ext.setCell (S := (· = w.heap.size + 1)) (p := ⟨w.heap.size + 1, 1, none⟩) rfl _) (fun _ _ h => h)).trans (Ext.setCell (S := (· = w.heap.size + 1)) (p := ⟨w.heap.size + 1, 2, none⟩) rfl _) (fun _ _ h => h)).trans (Ext.setCell (S := (· = w.heap.size + 1)) (p := ⟨w.heap.size + 1, 3, none⟩) rfl _) (fun _ _ h => h)) (fun _ _ h => h)
            have HS := Lib.hid (And.intro hset hXU)
            clear hset hXU
            (unfold makes; go_simp; simp only [makesUpon])
            exact ⟨HS.out.2, HS.out.1⟩
          rintro v9 U9 hX9 hset9
          simp only [Act.put, Act.eval, Array.getD_eq_getD_getElem?, List.getElem?_toArray, List.getElem?_cons_zero, List.getElem?_cons_succ, Option.getD_some, List.setIfInBounds_toArray, List.set_cons_succ, List.set_cons_zero]
          refine rl_nil ?_
          have hBe : Below w.heap.size w U9 := hB6.trans (hX9.to_belowAt hB6.size fun k hk => by omega)
          have Hset := Lib.hid hset9
          clear hset9 hX9 z0 z1 z2 z3 gU fU q0 q1 q2 q3 e0 y0 y1 y2 y3
          go_wp2_with fail
          have hse := Hset.out
          obtain ⟨d0, d1, d2, d3⟩ := box4 hse
          refine ⟨rfl, .tuple #[headV (slotR x first size k).1, .bool (slotR x first size k).2], ?_, rfl, hBe⟩
          rw [Hs.out]
          simp [results, Tryz.f112, go_sem, d0, d1, d2, d3, headV, headOf] <;> rfl
        · have h0' : ¬ ((0 : Int) < (getN t 4 6 : Int)) := by omega
          have hsl : slotR x first size k = (headOf t, false) := by
            rw [Hs.out]
            rw [hk', decide_eq_false h0, Bool.false_and]
          clear Hs
          have Hs := Lib.hid hsl; clear hsl
          refine wp_region_late 13 [5, 6, 7, 8, 9, 10, 11] (fun _ => none) (fun W' => Ext (· = w.heap.size + 1) V6 W') (fun _ W' => W'.heap[w.heap.size + 1]? = some (.cells #[.int .u64 (getN t 4 6), .int .u64 (getN t 10 6), .int .u64 (getN t 16 6), .int .u64 (getN t 22 6)] 128 (0, 0))) fol (by kernel_rfl) (fun b hb1 hb2 W' hW' => (Ext.of_below hb2).trans (Ext.of_below (S := (· = w.heap.size + 1)) hW') fun _ _ h => h) (fun U hU hh => ?_)
          clear hh
          have q0 : ∀ w2, Below U.heap.size U w2 → w2.cell? ⟨n, 0, none⟩ = some (.int .u64 (getN t 4 6)) := rcell hU y0
          have q1 := rcell hU y1
          have q2 := rcell hU y2
          have q3 := rcell hU y3
          have e0 : ∀ w2, Ext (· = w.heap.size + 1) V6 w2 → w2.cell? ⟨n, 0, none⟩ = some (.int .u64 (getN t 4 6)) := fun w2 h => h.cell_some y0 hn1
          simp only [List.take_succ_cons, List.take_zero, List.drop_succ_cons, List.drop_zero]
          repeat (first
            | (refine rl_move _ (by first | exact Or.inl rfl | exact Or.inr rfl) (by first | exact Or.inl rfl | exact Or.inr rfl) rfl ?_
               simp only [Act.put, Act.eval, Array.getD_eq_getD_getElem?, List.getElem?_toArray, List.getElem?_cons_zero, List.getElem?_cons_succ, Option.getD_some, List.setIfInBounds_toArray, List.set_cons_succ, List.set_cons_zero]
              )
            | (refine rl_small ?_ rfl rfl (fun w1 hb1 hf1 => ?_) ?_
               rotate_left
               (go_simp; (try simp (disch := omega) only [IntWalk.i64_quo, IntWalk.rem_in, IntWalk.i64_in, IntWalk.u64_in, IntWalk.u32_in, IntWalk.u8_in, IntWalk.toNatUp, IntWalk.iteOmega]); (try go_simp); rfl)
               simp only [Act.put, Act.eval, Array.getD_eq_getD_getElem?, List.getElem?_toArray, List.getElem?_cons_zero, List.getElem?_cons_succ, Option.getD_some, List.setIfInBounds_toArray, List.set_cons_succ, List.set_cons_zero]
              )
            | (refine rl_big ?_ rfl rfl (fun w1 hcb1 => ?_) ?_
               rotate_left
               ((try dsimp only at hcb1); go_simp; (try simp (disch := omega) only [IntWalk.i64_quo, IntWalk.rem_in, IntWalk.i64_in, IntWalk.u64_in, IntWalk.u32_in, IntWalk.u8_in, IntWalk.toNatUp, IntWalk.iteOmega]); (try go_simp); rfl)
               simp only [Act.put, Act.eval, Array.getD_eq_getD_getElem?, List.getElem?_toArray, List.getElem?_cons_zero, List.getElem?_cons_succ, Option.getD_some, List.setIfInBounds_toArray, List.set_cons_succ, List.set_cons_zero]
              )
            | (refine rl_skip (by first | exact Or.inl rfl | exact Or.inr rfl) rfl ?_
               simp only [Act.put, Act.eval, Array.getD_eq_getD_getElem?, List.getElem?_toArray, List.getElem?_cons_zero, List.getElem?_cons_succ, Option.getD_some, List.setIfInBounds_toArray, List.set_cons_succ, List.set_cons_zero]
              ))
          have gU := below_heap hU g1'
          obtain ⟨z0, z1, z2, z3⟩ := box4 gU
          have fU : ∀ j, U.frozen? ⟨w.heap.size + 1, j, none⟩ = false := fun j => by simp [World.frozen?, gU]
          refine rl_late _ rfl rfl ?_ ?_
          · have hset := heap_set4 (by rfl) (.int .u64 (getN t 4 6)) (.int .u64 (getN t 10 6)) (.int .u64 (getN t 16 6)) (.int .u64 (getN t 22 6)) gU
            have hXU : Ext (· = w.heap.size + 1) V6 ((((U.setCell ⟨w.heap.size + 1, 0, none⟩ (.int .u64 (getN t 4 6))).setCell ⟨w.heap.size + 1, 1, none⟩ (.int .u64 (getN t 10 6))).setCell ⟨w.heap.size + 1, 2, none⟩ (.int .u64 (getN t 16 6))).setCell ⟨w.heap.size + 1, 3, none⟩ (.int .u64 (getN t 22 6))) :=
              (Ext.of_below hU).trans ((((Ext.setCell (S := (· = w.heap.size + 1)) (p := ⟨w.heap.size + 1, 0, none⟩) rfl _).trans (Ext.setCell (S := (· = w.heap.size + 1)) (p := ⟨w.heap.size + 1, 1, none⟩) rfl _) (fun _ _ h => h)).trans (Ext.setCell (S := (· = w.heap.size + 1)) (p := ⟨w.heap.size + 1, 2, none⟩) rfl _) (fun _ _ h => h)).trans (Ext.setCell (S := (· = w.heap.size + 1)) (p := ⟨w.heap.size + 1, 3, none⟩) rfl _) (fun _ _ h => h)) (fun _ _ h => h)
            have HS := Lib.hid (And.intro hset hXU)
            clear hset hXU
            (unfold makes; go_simp; simp only [makesUpon])
            exact ⟨HS.out.2, HS.out.1⟩
          rintro v9 U9 hX9 hset9
          simp only [Act.put, Act.eval, Array.getD_eq_getD_getElem?, List.getElem?_toArray, List.getElem?_cons_zero, List.getElem?_cons_succ, Option.getD_some, List.setIfInBounds_toArray, List.set_cons_succ, List.set_cons_zero]
          refine rl_nil ?_
          have hBe : Below w.heap.size w U9 := hB6.trans (hX9.to_belowAt hB6.size fun k hk => by omega)
          have Hset := Lib.hid hset9
          clear hset9 hX9 z0 z1 z2 z3 gU fU q0 q1 q2 q3 e0 y0 y1 y2 y3
          go_wp2_with fail
          have hse := Hset.out
          obtain ⟨d0, d1, d2, d3⟩ := box4 hse
          refine ⟨rfl, .tuple #[headV (slotR x first size k).1, .bool (slotR x first size k).2], ?_, rfl, hBe⟩
          rw [Hs.out]
          simp [results, Tryz.f112, go_sem, d0, d1, d2, d3, headV, headOf] <;> rfl
      · rw [if_neg hsz] at hs
        have Hs := Lib.hid hs
        have Hcl := Lib.hid hcl
        have hne : ((getN t 28 4 : Int) != (size : Int)) = true := by rw [bne_iff_ne]; omega
        clear hs hcl hsz
        go_wp2_with fail
        refine wp_region_rg (fun i => if i = 10 then some (fun v w' => v = .bool true) else if i = 16 then some (fun v w' => v = .int .u64 (getN t 28 4)) else none) fol (by kernel_rfl) (fun W hW hh => ?_)
        clear hh
        have q1 := rcell hW hF1
        have q2 := rcell hW hF2
        have q3 := rcell hW p2
        repeat ((first | refine lex_move _ (by first | exact Or.inl rfl | exact Or.inr rfl) rfl rfl ?_ | (refine lex_float ?_ rfl rfl (fun w1 hb1 hf1 => ?_) ?_; rotate_left; (go_simp; (try simp (disch := omega) only [IntWalk.i64_quo, IntWalk.rem_in, IntWalk.i64_in, IntWalk.u64_in, IntWalk.u32_in, IntWalk.u8_in, IntWalk.toNatUp, IntWalk.iteOmega]); (try go_simp); rfl)) | refine lex_skip rfl ?_); simp only [Act.put, Act.eval, Array.getD_eq_getD_getElem?, List.getElem?_toArray, List.getElem?_cons_zero, List.getElem?_cons_succ, Option.getD_some, List.setIfInBounds_toArray, List.set_cons_succ, List.set_cons_zero])
        refine lex_make _ rfl (by exact fun _ _ _ h _ => h) rfl (fun w1 hb1 hf1 => ?_) ?_
        · (unfold makes; go_simp; simp only [makesUpon])
          refine (HC.out _ (below_trans hW hb1)).mono ?_
          rintro e w' ⟨rfl, rfl⟩
          exact ⟨_, rfl, Below.refl _ _, by rw [Hcl.out]⟩
        rintro v9 W3 hB9 rfl
        simp only [Act.put, Act.eval, Array.getD_eq_getD_getElem?, List.getElem?_toArray, List.getElem?_cons_zero, List.getElem?_cons_succ, Option.getD_some, List.setIfInBounds_toArray, List.set_cons_succ, List.set_cons_zero]
        repeat ((first | refine lex_move _ (by first | exact Or.inl rfl | exact Or.inr rfl) rfl rfl ?_ | (refine lex_float ?_ rfl rfl (fun w1 hb1 hf1 => ?_) ?_; rotate_left; (go_simp; (try simp (disch := omega) only [IntWalk.i64_quo, IntWalk.rem_in, IntWalk.i64_in, IntWalk.u64_in, IntWalk.u32_in, IntWalk.u8_in, IntWalk.toNatUp, IntWalk.iteOmega]); (try go_simp); rfl)) | refine lex_skip rfl ?_); simp only [Act.put, Act.eval, Array.getD_eq_getD_getElem?, List.getElem?_toArray, List.getElem?_cons_zero, List.getElem?_cons_succ, Option.getD_some, List.setIfInBounds_toArray, List.set_cons_succ, List.set_cons_zero])
        refine lex_make _ rfl (by exact fun _ _ _ h _ => h) rfl (fun w1 hb1 hf1 => ?_) ?_
        · (unfold makes; go_simp; simp only [makesUpon])
          refine (HG.out _ (below_trans hW hb1) 28 4 (by decide) (by decide)).mono ?_
          rintro e w' ⟨rfl, hbb⟩
          exact ⟨_, rfl, hbb, rfl⟩
        rintro v10 W4 hB10 rfl
        simp only [Act.put, Act.eval, Array.getD_eq_getD_getElem?, List.getElem?_toArray, List.getElem?_cons_zero, List.getElem?_cons_succ, Option.getD_some, List.setIfInBounds_toArray, List.set_cons_succ, List.set_cons_zero]
        repeat ((first | refine lex_move _ (by first | exact Or.inl rfl | exact Or.inr rfl) rfl rfl ?_ | (refine lex_float ?_ rfl rfl (fun w1 hb1 hf1 => ?_) ?_; rotate_left; (go_simp; (try simp (disch := omega) only [IntWalk.i64_quo, IntWalk.rem_in, IntWalk.i64_in, IntWalk.u64_in, IntWalk.u32_in, IntWalk.u8_in, IntWalk.toNatUp, IntWalk.iteOmega]); (try go_simp); rfl)) | refine lex_skip rfl ?_); simp only [Act.put, Act.eval, Array.getD_eq_getD_getElem?, List.getElem?_toArray, List.getElem?_cons_zero, List.getElem?_cons_succ, Option.getD_some, List.setIfInBounds_toArray, List.set_cons_succ, List.set_cons_zero])
        refine lex_nil ?_
        clear q1 q2 q3 HC HG
        have hW4 := below_trans hW (below_trans hB9 hB10)
        have g1 := below_heap hW4 g1
        obtain ⟨z0, z1, z2, z3⟩ := box4 g1
        have f1 : ∀ j, W4.frozen? ⟨w.heap.size + 1, j, none⟩ = false := fun j => by simp [World.frozen?, g1]
        have hset := heap_set4 (by rfl) (.int .u64 0) (.int .u64 0) (.int .u64 0) (.int .u64 0) g1
        have Hset := Lib.hid hset
        clear hset
        go_wp2_with fail
        have hBW := hB2.trans (hW4.mono hB2.size)
        have hBe := (((hBW.setCell (p := ⟨w.heap.size + 1, 0, none⟩) (Nat.le_succ _) (.int .u64 0)).setCell (p := ⟨w.heap.size + 1, 1, none⟩) (Nat.le_succ _) (.int .u64 0)).setCell (p := ⟨w.heap.size + 1, 2, none⟩) (Nat.le_succ _) (.int .u64 0)).setCell (p := ⟨w.heap.size + 1, 3, none⟩) (Nat.le_succ _) (.int .u64 0)
        have hse := Hset.out
        generalize World.setCell _ ⟨w.heap.size + 1, 3, none⟩ _ = We at hBe hse ⊢
        obtain ⟨d0, d1, d2, d3⟩ := box4 hse
        refine ⟨rfl, .tuple #[headV (slotR x first size k).1, .bool (slotR x first size k).2], ?_, rfl, hBe⟩
        rw [Hs.out]
        simp [results, Tryz.f112, go_sem, d0, d1, d2, d3, headV, noHead]
end Go.Proofs.YtbjofbhhnmehgaaGreatDoor.TT
namespace Go.Proofs.YtbjofbhhnmehgaaGreatDoor.TT
open Go.RowKit Go.RG Go.Hp Go.Proofs.YtbjofbhhnmehgaaGreatDoor


theorem allocs3 (w : World) (o1 o2 o3 : Obj) : Below w.heap.size w (((w.alloc o1).alloc o2).alloc o3) ∧ (((w.alloc o1).alloc o2).alloc o3).heap[w.heap.size]? = some o1 ∧ (((w.alloc o1).alloc o2).alloc o3).heap[w.heap.size + 1]? = some o2 ∧ (((w.alloc o1).alloc o2).alloc o3).heap[w.heap.size + 1 + 1]? = some o3 := by
  obtain ⟨h1, h2, h3⟩ := allocs2 w o1 o2
  have h4 := World.alloc_heap_new ((w.alloc o1).alloc o2) o3
  rw [show ((w.alloc o1).alloc o2).heap.size = w.heap.size + 1 + 1 by simp] at h4
  exact ⟨h1.alloc (by simp; omega) _, below_heap (below_box _ _) h2, below_heap (below_box _ _) h3, h4⟩
/-- the better of two heads -/
def bestR (best : Head × Int) (k : Nat) (s : Head × Bool) : Head × Int := if s.2 = true ∧ best.1.gen < s.1.gen then (s.1, (k : Int)) else best
/-- the head that counts among the first slots, and its slot -/
def runR (x : Dsk) (first size : Nat) : Nat → Head × Int
  | 0 => (noHead, -1)
  | k + 1 => bestR (runR x first size k) k (slotR x first size k)
def countsR (x : Dsk) (first size : Nat) : Head × Int := runR x first size 2
def headCells (h : Head) (T : TypeId) : Obj := .cells #[.int .u64 h.gen, .int .u64 h.epoch, .int .u64 h.first, .int .u64 h.least] T (0, 0)
set_option maxHeartbeats 1000000 in
set_option maxRecDepth 100000 in
theorem counts_any (b : Bks) (x : Dsk) (first size : Nat) (hi : first + 1 < x.dur.length) (hsz : size ≤ 65536) (w : World) (h : DskAt w b x) (hk : x.ok) (hP : Pkg w) :
    Calls Tryz.prog 77 #[placeV b first size] w fun e w' => e = .returned (.tuple #[headV (countsR x first size).1, .int .i64 (countsR x first size).2]) ∧ Below w.heap.size w w' := by
  have hlim := h.lim
  obtain ⟨hb, g0, g1, g2⟩ := allocs3 w (.cells #[.pointer (some ⟨b.d, 0, none⟩), .int .i64 first, .int .i64 size] 126) (.cells #[.int .u64 0, .int .u64 0, .int .u64 0, .int .u64 0] 128) (.cells #[.int .u64 0, .int .u64 0, .int .u64 0, .int .u64 0] 128)
  have H := Lib.hid (And.intro h (And.intro hk hP)); clear h hk hP
  unfold placeV
  go_enter Tryz.func77, Tryz.ntmps77
  go_wp2_with fail
  generalize World.alloc (World.alloc (World.alloc w _) _) _ = w1 at hb g0 g1 g2 ⊢
  go_loopw [5, 9] (fun vat vi wr => ∃ i : Nat, vi = .int .i64 i ∧ i ≤ 2 ∧ vat = .int .i64 (runR x first size i).2 ∧ Below w.heap.size w wr ∧ wr.heap[w.heap.size]? = some (.cells #[.pointer (some ⟨b.d, 0, none⟩), .int .i64 first, .int .i64 size] 126 (0, 0)) ∧
    wr.heap[w.heap.size + 1]? = some (.cells #[.int .u64 0, .int .u64 0, .int .u64 0, .int .u64 0] 128 (0, 0)) ∧ wr.heap[w.heap.size + 1 + 1]? = some (headCells (runR x first size i).1 128)) (fun _ vi _ => 2 - (intOf vi).toNat)
  case atStart => exact ⟨0, rfl, by omega, rfl, hb, g0, g1, g2⟩
  case round =>
    obtain ⟨i, rfl, hi2, rfl, hB, k0, k1, k2⟩ := hrel
    clear hb g0 g1 g2
    obtain ⟨hd, at', hr⟩ : ∃ hd at', runR x first size i = (hd, at') := ⟨_, _, rfl⟩
    rw [hr] at k2 ⊢
    simp only [headCells] at k2
    obtain ⟨hg, he, hf, hl⟩ := hd
    have Hr := Lib.hid hr; clear hr
    by_cases hlt : i < 2
    · have hii : (i : Int) < 2 := by omega
      have c0 : wr.cell? ⟨w.heap.size, 0, none⟩ = some (.pointer (some ⟨b.d, 0, none⟩)) ∧ wr.cell? ⟨w.heap.size, 1, none⟩ = some (.int .i64 first) ∧ wr.cell? ⟨w.heap.size, 2, none⟩ = some (.int .i64 size) := by simp [World.cell?, k0]
      obtain ⟨p0, p1, p2⟩ := c0
      go_wp2_with fail
      obtain ⟨hD, hk, hP⟩ := H.out
      refine (slot_any b x first size i (by omega) hlt hsz wr (hD.below hB) hk (hP.below hB)).mono ?_
      clear hD hk hP p0 p1 p2
      rintro e w2 ⟨rfl, hb2⟩
      have hB2 := hB.trans (hb2.mono hB.size)
      have k0 := below_heap hb2 k0
      have k1 := below_heap hb2 k1
      have k2 := below_heap hb2 k2
      obtain ⟨⟨⟨sg, se, sf, sl⟩, ok⟩, hs⟩ : ∃ s, slotR x first size i = s := ⟨_, rfl⟩
      rw [hs]
      have hstep : runR x first size (i + 1) = bestR (⟨hg, he, hf, hl⟩, at') i (⟨sg, se, sf, sl⟩, ok) := by
        show bestR (runR x first size i) i (slotR x first size i) = _
        rw [Hr.out, hs]
      clear hs hb2
      have Hstep := Lib.hid hstep; clear hstep
      have hb3 := below_box w2 (.cells #[.int .u64 sg, .int .u64 se, .int .u64 sf, .int .u64 sl] 128)
      have g3 := World.alloc_heap_new w2 (.cells #[.int .u64 sg, .int .u64 se, .int .u64 sf, .int .u64 sl] 128)
      have k0 := below_heap hb3 k0
      have k1 := below_heap hb3 k1
      have k2 := below_heap hb3 k2
      have hB3 := hB2.trans (hb3.mono hB2.size)
      have hs2 := hB2.size
      have hs3 := block_lt_of_heap k2
      simp only [headV]
      cases ok
      · go_wp2_with fail
        have e : runR x first size (i + 1) = (⟨hg, he, hf, hl⟩, at') := by rw [Hstep.out]; unfold bestR; rw [if_neg (by simp)]
        refine ⟨⟨i + 1, by simp, by omega, by rw [e], hB3, k0, k1, by rw [e]; exact k2⟩, ?_⟩
        show 2 - (((i : Int) + 1).toNat) < 2 - ((i : Int).toNat)
        omega
      · have y0 := (box4 k2).1
        obtain ⟨z0, z1, z2, z3⟩ := box4 g3
        by_cases hlt2 : hg < sg
        · have hlt3 : (hg : Int) < (sg : Int) := by omega
          obtain ⟨y0, y1, y2, y3⟩ := box4 k2
          have f1 : ∀ j, (w2.alloc (.cells #[.int .u64 sg, .int .u64 se, .int .u64 sf, .int .u64 sl] 128)).frozen? ⟨w.heap.size + 1 + 1, j, none⟩ = false := fun j => by simp [World.frozen?, k2]
          have hset := heap_set4 (by rfl) (.int .u64 sg) (.int .u64 se) (.int .u64 sf) (.int .u64 sl) k2
          have hX : Ext (· = w.heap.size + 1 + 1) (w2.alloc (.cells #[.int .u64 sg, .int .u64 se, .int .u64 sf, .int .u64 sl] 128)) (((((w2.alloc (.cells #[.int .u64 sg, .int .u64 se, .int .u64 sf, .int .u64 sl] 128)).setCell ⟨w.heap.size + 1 + 1, 0, none⟩ (.int .u64 sg)).setCell ⟨w.heap.size + 1 + 1, 1, none⟩ (.int .u64 se)).setCell ⟨w.heap.size + 1 + 1, 2, none⟩ (.int .u64 sf)).setCell ⟨w.heap.size + 1 + 1, 3, none⟩ (.int .u64 sl)) :=
            (((Ext.setCell (S := (· = w.heap.size + 1 + 1)) (p := ⟨w.heap.size + 1 + 1, 0, none⟩) rfl _).trans (Ext.setCell (S := (· = w.heap.size + 1 + 1)) (p := ⟨w.heap.size + 1 + 1, 1, none⟩) rfl _) (fun _ _ h => h)).trans (Ext.setCell (S := (· = w.heap.size + 1 + 1)) (p := ⟨w.heap.size + 1 + 1, 2, none⟩) rfl _) (fun _ _ h => h)).trans (Ext.setCell (S := (· = w.heap.size + 1 + 1)) (p := ⟨w.heap.size + 1 + 1, 3, none⟩) rfl _) (fun _ _ h => h)
          have HS := Lib.hid (And.intro hset hX)
          clear hset hX
          go_wp2_with fail
          have hset := HS.out.1
          have hX := HS.out.2
          clear HS y0 y1 y2 y3 z0 z1 z2 z3 f1
          generalize World.setCell _ ⟨w.heap.size + 1 + 1, 3, none⟩ _ = We at hset hX ⊢
          have e : runR x first size (i + 1) = (⟨sg, se, sf, sl⟩, (i : Int)) := by rw [Hstep.out]; unfold bestR; rw [if_pos ⟨rfl, hlt2⟩]
          refine ⟨⟨i + 1, by simp, by omega, by rw [e], hB3.trans (hX.to_belowAt hB3.size fun k hk => by omega), hX.heap k0 (by omega), hX.heap k1 (by omega), by rw [e]; exact hset⟩, ?_⟩
          show 2 - (((i : Int) + 1).toNat) < 2 - ((i : Int).toNat)
          omega
        · have hlt3 : ¬ ((hg : Int) < (sg : Int)) := by omega
          go_wp2_with fail
          have e : runR x first size (i + 1) = (⟨hg, he, hf, hl⟩, at') := by rw [Hstep.out]; unfold bestR; rw [if_neg (by rintro ⟨-, h⟩; exact hlt2 h)]
          refine ⟨⟨i + 1, by simp, by omega, by rw [e], hB3, k0, k1, by rw [e]; exact k2⟩, ?_⟩
          show 2 - (((i : Int) + 1).toNat) < 2 - ((i : Int).toNat)
          omega
    · obtain rfl : i = 2 := by omega
      obtain ⟨z0, z1, z2, z3⟩ := box4 k1
      obtain ⟨y0, y1, y2, y3⟩ := box4 k2
      have f1 : ∀ j, wr.frozen? ⟨w.heap.size + 1, j, none⟩ = false := fun j => by simp [World.frozen?, k1]
      have hset := heap_set4 (by rfl) (.int .u64 hg) (.int .u64 he) (.int .u64 hf) (.int .u64 hl) k1
      have Hset := Lib.hid hset
      clear hset
      go_wp2_with fail
      have hBe := (((hB.setCell (p := ⟨w.heap.size + 1, 0, none⟩) (Nat.le_succ _) (.int .u64 hg)).setCell (p := ⟨w.heap.size + 1, 1, none⟩) (Nat.le_succ _) (.int .u64 he)).setCell (p := ⟨w.heap.size + 1, 2, none⟩) (Nat.le_succ _) (.int .u64 hf)).setCell (p := ⟨w.heap.size + 1, 3, none⟩) (Nat.le_succ _) (.int .u64 hl)
      have hse := Hset.out
      generalize World.setCell _ ⟨w.heap.size + 1, 3, none⟩ _ = We at hBe hse ⊢
      obtain ⟨d0, d1, d2, d3⟩ := box4 hse
      refine ⟨rfl, .tuple #[headV (countsR x first size).1, .int .i64 (countsR x first size).2], ?_, rfl, hBe⟩
      rw [show countsR x first size = _ from Hr.out]
      simp [results, Tryz.f77, go_sem, d0, d1, d2, d3, headV]
end Go.Proofs.YtbjofbhhnmehgaaGreatDoor.TT
namespace Go.Proofs.YtbjofbhhnmehgaaGreatDoor.TT
open Go.RowKit Go.RG Go.Hp Go.Proofs.YtbjofbhhnmehgaaGreatDoor



/-- a disk in good order: bytes, a fuse in range, so many versions of a sector at most -/
structure DOk (x : Dsk) (N : Nat) : Prop where
  ok : x.ok
  fuse : x.fuse ≤ 9223372036854775807 ∧ -1 ≤ x.fuse
  vers : ∀ i, (x.cache i).length ≤ N
theorem DOk.mono {x : Dsk} {N M : Nat} (h : DOk x N) (hm : N ≤ M) : DOk x M := ⟨h.ok, h.fuse, fun i => Nat.le_trans (h.vers i) hm⟩
theorem goesD_fields (x : Dsk) : (goesD x).dur = x.dur ∧ (goesD x).torn = x.torn ∧ (goesD x).ks = x.ks ∧ (goesD x).cache = x.cache := by
  unfold goesD; split
  · exact ⟨rfl, rfl, rfl, rfl⟩
  · split
    · exact ⟨rfl, rfl, rfl, rfl⟩
    · split <;> exact ⟨rfl, rfl, rfl, rfl⟩
theorem DOk.goes {x : Dsk} {N : Nat} (h : DOk x N) : DOk (goesD x) N := by
  obtain ⟨h1, -, -, h4⟩ := goesD_fields x
  refine ⟨⟨by rw [h1]; exact h.ok.1, by rw [h4]; exact h.ok.2⟩, ?_, by rw [h4]; exact h.vers⟩
  have hf := h.fuse
  unfold goesD; split
  · exact hf
  · split
    · exact ⟨show (-1 : Int) ≤ _ by decide, Int.le_refl _⟩
    · split
      · show x.fuse - 1 ≤ _ ∧ -1 ≤ x.fuse - 1
        omega
      · exact hf
theorem DOk.wrote {x : Dsk} {N : Nat} (h : DOk x N) (i : Int) {bs : List Int} (hb : isBytes bs) : DOk (wroteD x i bs) (N + 1) := by
  refine ⟨⟨h.ok.1, fun j s hs => ?_⟩, h.fuse, fun j => ?_⟩
  · simp only [wroteD] at hs
    by_cases hj : j = i
    · rw [if_pos hj] at hs
      rcases List.mem_append.1 hs with hs | hs
      · exact h.ok.2 _ s hs
      · rw [List.mem_singleton.1 hs]; exact hb
    · rw [if_neg hj] at hs
      exact h.ok.2 _ s hs
  · simp only [wroteD]
    by_cases hj : j = i
    · rw [if_pos hj, List.length_append, List.length_singleton]
      exact Nat.succ_le_succ (h.vers i)
    · rw [if_neg hj]
      exact Nat.le_succ_of_le (h.vers j)
theorem DOk.flushed {x : Dsk} {N : Nat} (h : DOk x N) : DOk (flushD x) 0 := by
  refine ⟨⟨fun s hs => ?_, fun j s hs => by cases hs⟩, h.fuse, fun j => Nat.le_refl _⟩
  simp only [flushD, someD] at hs
  obtain ⟨i, hi, rfl⟩ := List.mem_mapIdx.1 hs
  by_cases hk : (decide ((i : Int) ∈ x.ks)) = true
  · rw [if_pos hk]
    cases hl : (x.cache i).getLast? with
    | none => exact h.ok.1 _ (List.getElem_mem _)
    | some t => exact h.ok.2 i t (List.mem_of_getLast? hl)
  · rw [if_neg hk]
    exact h.ok.1 _ (List.getElem_mem _)
/-- all together -/
structure Sys (w : World) (b : Bks) (x : Dsk) (N : Nat) : Prop where
  dsk : DskAt w b x
  ok : DOk x N
  pkg : Pkg w
  far : ∀ k, b.all k → 10 ≤ k
theorem Sys.below {w w' : World} {b : Bks} {x : Dsk} {N : Nat} (h : Sys w b x N) (hb : Below w.heap.size w w') : Sys w' b x N := ⟨h.dsk.below hb, h.ok, h.pkg.below hb, h.far⟩
theorem Sys.mono {w : World} {b : Bks} {x : Dsk} {N M : Nat} (h : Sys w b x N) (hm : N ≤ M) : Sys w b x M := ⟨h.dsk, h.ok.mono hm, h.pkg, h.far⟩
theorem Pkg.lt {w : World} (h : Pkg w) : 10 ≤ w.heap.size := block_lt_of_cell (a := ⟨9, 0, none⟩) (h.tab 0 (by decide))
theorem Pkg.ext {w w' : World} {S : Nat → Prop} (h : Pkg w) (hX : Ext S w w') (hS : ∀ k, S k → 10 ≤ k) : Pkg w' := by
  have hn : ∀ k, k < 10 → ¬ S k := fun k hk hs => by have := hS k hs; omega
  have hf : ∀ {g a n}, g < 10 → FieldAt w g a n → FieldAt w' g a n := fun hg h => ⟨hX.cell_some h.1 (hn _ hg), hX.cell_some h.2 (hn _ hg)⟩
  exact ⟨fun j hj => hX.cell_some (h.tab j hj) (hn 9 (by decide)), hf (by decide) h.number, hf (by decide) h.pieceEpoch, hf (by decide) h.bytes, hf (by decide) h.index, hf (by decide) h.size, hf (by decide) h.generation, hf (by decide) h.headEpoch, hf (by decide) h.first, hf (by decide) h.least⟩
theorem DskAt.ext {w w' : World} {b : Bks} {x : Dsk} {S : Nat → Prop} (h : DskAt w b x) (hX : Ext S w w') (hS : ∀ k, b.all k → ¬ S k) : DskAt w' b x := h.keep fun k hk => hX.block k (h.lt k hk) (hS k hk)
theorem Sys.ext {w w' : World} {b : Bks} {x : Dsk} {N : Nat} {S : Nat → Prop} (h : Sys w b x N) (hX : Ext S w w') (hS : ∀ k, S k → 10 ≤ k ∧ ¬ b.all k) : Sys w' b x N :=
  ⟨h.dsk.ext hX fun k hk hs => (hS k hs).2 hk, h.ok, h.pkg.ext hX fun k hk => (hS k hk).1, h.far⟩
/-- the disk has changed, and nothing else that was there -/
def SysPost (w : World) (b : Bks) (x' : Dsk) (N : Nat) (w' : World) : Prop := ∃ b' : Bks, b'.d = b.d ∧ (∀ k, b'.all k → b.all k ∨ w.heap.size ≤ k) ∧ Ext b.all w w' ∧ Sys w' b' x' N
theorem SysPost.trans {w w1 w2 : World} {b b1 : Bks} {x2 : Dsk} {N2 : Nat} (hd : b1.d = b.d) (ha : ∀ k, b1.all k → b.all k ∨ w.heap.size ≤ k) (hX : Ext b.all w w1) (h2 : SysPost w1 b1 x2 N2 w2) : SysPost w b x2 N2 w2 := by
  obtain ⟨b2, d2, a2, X2, S2⟩ := h2
  refine ⟨b2, d2.trans hd, fun k hk => ?_, hX.trans X2 fun k hk h => ?_, S2⟩
  · rcases a2 k hk with h | h
    · exact ha k h
    · exact .inr (Nat.le_trans hX.size h)
  · rcases ha k h with h | h
    · exact h
    · omega
theorem SysPost.of_below {w w1 w2 : World} {b : Bks} {x2 : Dsk} {N2 : Nat} (hb : Below w.heap.size w w1) (h2 : SysPost w1 b x2 N2 w2) : SysPost w b x2 N2 w2 :=
  .trans rfl (fun k h => .inl h) (Ext.of_below hb) h2
theorem SysPost.same {w w' : World} {b : Bks} {x : Dsk} {N : Nat} (h : Sys w b x N) (hb : Below w.heap.size w w') : SysPost w b x N w' := ⟨b, rfl, fun k h => .inl h, Ext.of_below hb, h.below hb⟩
theorem SysPost.mono {w w' : World} {b : Bks} {x : Dsk} {N M : Nat} (h : SysPost w b x N w') (hm : N ≤ M) : SysPost w b x M w' := by
  obtain ⟨b', h1, h2, h3, h4⟩ := h
  exact ⟨b', h1, h2, h3, h4.mono hm⟩
def writeX (x : Dsk) (i : Nat) (bs : List Int) : Dsk := if goesB x then wroteD (goesD x) i bs else goesD x
def goesE (x : Dsk) : Int := if goesB x then 0 else 5
def flushX (x : Dsk) : Dsk := if goesB x then flushD (goesD x) else goesD x
theorem write_sys (b : Bks) (x : Dsk) (N i : Nat) (hi : i < x.dur.length) (v : Value) (bs : List Int) (hl : bs.length = 128) (hb : isBytes bs) (w : World) (h : Sys w b x N) (hN : N ≤ 1099511627775) (hs : Src w v (u8s bs)) :
    Calls Tryz.prog 79 #[.pointer (some ⟨b.d, 0, none⟩), .int .i64 i, v] w fun e w' => e = .returned (.int .i64 (goesE x)) ∧ SysPost w b (writeX x i bs) (N + 1) w' := by
  refine (write_any b x i hi v bs hl w h.dsk h.ok.fuse hs (Nat.le_trans (h.ok.vers i) hN)).mono ?_
  rintro e w' ⟨b', hd, ha, hX, (⟨hg, rfl, hD⟩ | ⟨hg, rfl, hD⟩)⟩
  · refine ⟨by simp [goesE, hg], b', hd, ha, hX, ?_⟩
    have : writeX x i bs = wroteD (goesD x) i bs := by simp [writeX, hg]
    rw [this]
    exact ⟨hD, h.ok.goes.wrote _ hb, h.pkg.ext hX h.far, fun k hk => (ha k hk).elim (h.far k) fun h2 => Nat.le_trans h.pkg.lt h2⟩
  · refine ⟨by simp [goesE, hg], b', hd, ha, hX, ?_⟩
    have : writeX x i bs = goesD x := by simp [writeX, hg]
    rw [this]
    exact ⟨hD, h.ok.goes.mono (Nat.le_succ _), h.pkg.ext hX h.far, fun k hk => (ha k hk).elim (h.far k) fun h2 => Nat.le_trans h.pkg.lt h2⟩
def flushN (x : Dsk) (N : Nat) : Nat := if goesB x then 0 else N
theorem flush_sys (b : Bks) (x : Dsk) (N : Nat) (w : World) (h : Sys w b x N) :
    Calls Tryz.prog 80 #[.pointer (some ⟨b.d, 0, none⟩)] w fun e w' => e = .returned (.int .i64 (goesE x)) ∧ SysPost w b (flushX x) (flushN x N) w' := by
  refine (flush_any b x w h.dsk h.ok.fuse).mono ?_
  rintro e w' ⟨b', hd, ha, hX, (⟨hg, rfl, hD⟩ | ⟨hg, rfl, hD⟩)⟩
  · refine ⟨by simp [goesE, hg], b', hd, fun k hk => .inl (ha k hk), hX, ?_⟩
    have : flushX x = flushD (goesD x) := by simp [flushX, hg]
    rw [this, show flushN x N = 0 by simp [flushN, hg]]
    exact ⟨hD, h.ok.goes.flushed, h.pkg.ext hX h.far, fun k hk => h.far k (ha k hk)⟩
  · refine ⟨by simp [goesE, hg], b', hd, fun k hk => .inl (ha k hk), hX, ?_⟩
    have : flushX x = goesD x := by simp [flushX, hg]
    rw [this, show flushN x N = N by simp [flushN, hg]]
    exact ⟨hD, h.ok.goes, h.pkg.ext hX h.far, fun k hk => h.far k (ha k hk)⟩
theorem writeX_dur (x : Dsk) (i : Nat) (bs : List Int) : (writeX x i bs).dur = x.dur := by
  unfold writeX; split
  · exact (goesD_fields x).1
  · exact (goesD_fields x).1
theorem flushX_len (x : Dsk) : (flushX x).dur.length = x.dur.length := by
  unfold flushX; split
  · simp [flushD, someD, (goesD_fields x).1]
  · rw [(goesD_fields x).1]
/-- a text that lasts from now on -/
def layX (x : Dsk) (i : Nat) (bs : List Int) : Dsk := if goesB x then flushX (writeX x i bs) else writeX x i bs
def layE (x : Dsk) (i : Nat) (bs : List Int) : Int := if goesB x then goesE (writeX x i bs) else 5
def layN (x : Dsk) (i : Nat) (bs : List Int) (N : Nat) : Nat := if layE x i bs = 0 then 0 else N + 1
theorem layX_len (x : Dsk) (i : Nat) (bs : List Int) : (layX x i bs).dur.length = x.dur.length := by
  unfold layX; split
  · rw [flushX_len, writeX_dur]
  · rw [writeX_dur]
set_option maxHeartbeats 1000000 in
set_option maxRecDepth 100000 in
theorem lay_any (b : Bks) (x : Dsk) (N first size i : Nat) (hi : i < x.dur.length) (v : Value) (bs : List Int) (hl : bs.length = 128) (hb : isBytes bs) (w : World) (h : Sys w b x N) (hN : N ≤ 1099511627775) (hs : Src w v (u8s bs)) :
    Calls Tryz.prog 78 #[placeV b first size, .int .i64 i, v] w fun e w' => e = .returned (.int .i64 (layE x i bs)) ∧ SysPost w b (layX x i bs) (layN x i bs N) w' := by
  have hb0 := below_box w (.cells #[.pointer (some ⟨b.d, 0, none⟩), .int .i64 first, .int .i64 size] 126)
  have g0 := World.alloc_heap_new w (.cells #[.pointer (some ⟨b.d, 0, none⟩), .int .i64 first, .int .i64 size] 126)
  have HW := Lib.hid (write_sys b x N i hi v bs hl hb _ (h.below hb0) hN (hs.below hb0))
  have hfar := h.far
  have hlt := h.dsk.lt
  have Hsame := Lib.hid h
  clear hs h
  unfold placeV
  go_enter Tryz.func78, Tryz.ntmps78
  go_wp2_with fail
  generalize w.alloc (.cells #[.pointer (some ⟨b.d, 0, none⟩), .int .i64 first, .int .i64 size] 126) = w1 at hb0 g0 HW ⊢
  have c0 : w1.cell? ⟨w.heap.size, 0, none⟩ = some (.pointer (some ⟨b.d, 0, none⟩)) := by simp [World.cell?, g0]
  refine HW.out.mono ?_
  rintro e w2 ⟨rfl, b2, hd2, ha2, hX2, hS2⟩
  have hnw : ¬ b.all w.heap.size := fun h => Nat.lt_irrefl _ (hlt _ h)
  have c0 := hX2.cell_some c0 hnw
  cases hg : goesB x
  · have e1 : goesE x = 5 := by simp [goesE, hg]
    have e2 : layE x i bs = 5 := by simp [layE, hg]
    have e3 : layX x i bs = writeX x i bs := by simp [layX, hg]
    have HE := Lib.hid (And.intro e2 e3)
    rw [e1]
    have HS2 := Lib.hid hS2
    clear e1 e2 e3 hg hS2
    go_wp2_with fail
    go_ret
    rw [HE.out.1, HE.out.2, show layN x i bs N = N + 1 by simp [layN, HE.out.1]]
    exact ⟨rfl, .of_below hb0 ⟨b2, hd2, ha2, hX2, HS2.out⟩⟩
  · have e1 : goesE x = 0 := by simp [goesE, hg]
    have e2 : layE x i bs = goesE (writeX x i bs) := by simp [layE, hg]
    have e3 : layX x i bs = flushX (writeX x i bs) := by simp [layX, hg]
    have HE := Lib.hid (And.intro e2 e3)
    rw [e1]
    have HF := Lib.hid (flush_sys b2 (writeX x i bs) (N + 1) w2 hS2)
    rw [hd2] at HF
    clear e1 e2 e3 hg hS2
    go_wp2_with fail
    refine HF.out.mono ?_
    rintro e w3 ⟨rfl, hP3⟩
    go_wp2_with fail
    go_ret
    rw [HE.out.1, HE.out.2]
    refine ⟨rfl, .of_below hb0 (.trans hd2 ha2 hX2 (hP3.mono ?_))⟩
    unfold layN flushN
    rw [HE.out.1]
    unfold goesE
    cases goesB (writeX x i bs) <;> simp
end Go.Proofs.YtbjofbhhnmehgaaGreatDoor.TT
namespace Go.Proofs.YtbjofbhhnmehgaaGreatDoor.TT
open Go.RowKit Go.RG Go.Hp Go.Proofs.YtbjofbhhnmehgaaGreatDoor


/-- a head within range -/
def Head.ok (h : Head) : Prop := h.gen < 18446744073709551616 ∧ h.epoch < 18446744073709551616 ∧ h.first < 18446744073709551616 ∧ h.least < 18446744073709551616
def headText (h : Head) (size : Nat) : List Int := sealed' (headRaw h size)
theorem sealOf_isBytes (bs : List Int) : isBytes (sealOf bs) := by
  have hr := crc_range bs
  intro b hb
  simp only [sealOf, List.mem_cons, List.not_mem_nil, or_false] at hb
  omega
theorem sealOf_length (bs : List Int) : (sealOf bs).length = 4 := rfl
theorem headRaw_ok (h : Head) (size : Nat) : (headRaw h size).length = 124 ∧ isBytes (headRaw h size) := by
  have h0 : (headMark ++ zeros 120).length = 124 := by simp [headMark, zeros_length]
  have b0 : isBytes (headMark ++ zeros 120) := marks_isBytes.1.append (zeros_isBytes _)
  unfold headRaw
  refine ⟨?_, ((((b0.lay (leBytes_isBytes _ _)).lay (leBytes_isBytes _ _)).lay (leBytes_isBytes _ _)).lay (leBytes_isBytes _ _)).lay (leBytes_isBytes _ _)⟩
  have s1 : ∀ {bs : List Int} {at' : Nat} {D : List Int}, bs.length = 124 → at' + D.length ≤ 124 → (layB bs at' D).length = 124 := fun h1 h2 => by rw [layB_length (by omega), h1]
  refine s1 (s1 (s1 (s1 (s1 h0 ?_) ?_) ?_) ?_) ?_ <;> rw [leBytes_length] <;> decide
theorem headText_ok (h : Head) (size : Nat) : (headText h size).length = 128 ∧ isBytes (headText h size) :=
  ⟨by simp [headText, sealed', (headRaw_ok h size).1, sealOf_length], (headRaw_ok h size).2.append (sealOf_isBytes _)⟩
set_option maxHeartbeats 1000000 in
set_option maxRecDepth 100000 in
theorem writeH_any (b : Bks) (x : Dsk) (N first size : Nat) (hd : Head) (hh : hd.ok) (hi : first + 1 < x.dur.length) (hs : size ≤ 65536) (w : World) (h : Sys w b x N) (hN : N ≤ 1099511627775) :
    Calls Tryz.prog 81 #[placeV b first size, headV hd] w fun e w' => e = .returned (.int .i64 (layE x (first + hd.gen % 2) (headText hd size))) ∧ SysPost w b (layX x (first + hd.gen % 2) (headText hd size)) (layN x (first + hd.gen % 2) (headText hd size) N) w' := by
  have hlim := h.dsk.lim
  have hlt := h.dsk.lt
  have H := Lib.hid h
  obtain ⟨h1, h2, h3, h4⟩ := hh
  have HT := Lib.hid fun w' (hw : Below w.heap.size w w') => htext_any hd size hs h1 h2 h3 h4 w' (h.pkg.below hw)
  obtain ⟨hg, he, hf, hl⟩ := hd
  obtain ⟨hb, g0, g1⟩ := allocs2 w (.cells #[.pointer (some ⟨b.d, 0, none⟩), .int .i64 first, .int .i64 size] 126) (.cells #[.int .u64 hg, .int .u64 he, .int .u64 hf, .int .u64 hl] 128)
  have hm : first + hg % 2 < x.dur.length := by omega
  have hm1 : (hg : Int) % 2 < 2 := Int.emod_lt_of_pos _ (by decide)
  have hm0 : 0 ≤ (hg : Int) % 2 := Int.emod_nonneg _ (by decide)
  have q2 := IntWalk.i64_in ((hg : Int) % 2) (by omega)
  clear h
  unfold placeV headV
  simp only at h1 h2 h3 h4 hm hm0 hm1 HT q2 ⊢
  unfold headV at HT
  simp only at HT
  go_enter Tryz.func81, Tryz.ntmps81
  go_wp2_with fail
  generalize World.alloc (World.alloc w _) _ = w1 at hb g0 g1 ⊢
  have c0 : w1.cell? ⟨w.heap.size, 0, none⟩ = some (.pointer (some ⟨b.d, 0, none⟩)) ∧ w1.cell? ⟨w.heap.size, 1, none⟩ = some (.int .i64 first) ∧ w1.cell? ⟨w.heap.size, 2, none⟩ = some (.int .i64 size) := by simp [World.cell?, g0]
  obtain ⟨p0, p1, p2⟩ := c0
  obtain ⟨k0, k1, k2, k3⟩ := box4 g1
  refine wp_region_rg_tail 12 (fun i => if i = 11 then some (fun v w' => ∃ ad c, v = .slice ad 128 c ∧ Src w' v (u8s (headText ⟨hg, he, hf, hl⟩ size))) else none) fol (by kernel_rfl) (fun W hW hh => ?_)
  clear hh
  have q10 := rcell hW p0
  have q11 := rcell hW p1
  have q12 := rcell hW p2
  have q20 := rcell hW k0
  have q21 := rcell hW k1
  have q22 := rcell hW k2
  have q23 := rcell hW k3
  simp only [List.take_succ_cons, List.take_zero, List.drop_succ_cons, List.drop_zero]
  repeat ((first | refine lex_move _ (by first | exact Or.inl rfl | exact Or.inr rfl) rfl rfl ?_ | (refine lex_float ?_ rfl rfl (fun w1 hb1 hf1 => ?_) ?_; rotate_left; (go_simp; (try simp (disch := omega) only [IntWalk.i64_quo, IntWalk.rem_in, IntWalk.i64_in, IntWalk.u64_in, IntWalk.u32_in, IntWalk.u8_in, IntWalk.toNatUp, IntWalk.iteOmega]); (try go_simp); rfl)) | refine lex_skip rfl ?_); simp only [Act.put, Act.eval, Array.getD_eq_getD_getElem?, List.getElem?_toArray, List.getElem?_cons_zero, List.getElem?_cons_succ, Option.getD_some, List.setIfInBounds_toArray, List.set_cons_succ, List.set_cons_zero])
  refine lex_make _ rfl (by exact fun _ _ _ ⟨ad, c, h1, h2⟩ hb => ⟨ad, c, h1, h2.below hb⟩) rfl (fun w1 hb1 hf1 => ?_) ?_
  · (unfold makes; go_simp; simp only [makesUpon])
    refine (HT.out _ (below_trans hb (below_trans hW hb1))).mono ?_
    rintro e w' ⟨u, rfl, hown, hbb⟩
    obtain ⟨g, c, rfl, -⟩ := owns_parts hown (by decide)
    exact ⟨_, rfl, hbb, ⟨_, _, rfl⟩, Src.of_owns hown⟩
  rintro v9 W4 hB9 ⟨ad, c, rfl, hsrc⟩
  simp only [Act.put, Act.eval, Array.getD_eq_getD_getElem?, List.getElem?_toArray, List.getElem?_cons_zero, List.getElem?_cons_succ, Option.getD_some, List.setIfInBounds_toArray, List.set_cons_succ, List.set_cons_zero]
  repeat ((first | refine lex_move _ (by first | exact Or.inl rfl | exact Or.inr rfl) rfl rfl ?_ | (refine lex_float ?_ rfl rfl (fun w1 hb1 hf1 => ?_) ?_; rotate_left; (go_simp; (try simp (disch := omega) only [IntWalk.i64_quo, IntWalk.rem_in, IntWalk.i64_in, IntWalk.u64_in, IntWalk.u32_in, IntWalk.u8_in, IntWalk.toNatUp, IntWalk.iteOmega]); (try go_simp); rfl)) | refine lex_skip rfl ?_); simp only [Act.put, Act.eval, Array.getD_eq_getD_getElem?, List.getElem?_toArray, List.getElem?_cons_zero, List.getElem?_cons_succ, Option.getD_some, List.setIfInBounds_toArray, List.set_cons_succ, List.set_cons_zero])
  refine lex_nil ?_
  have hB4 : Below w.heap.size w W4 := below_trans hb (below_trans hW hB9)
  have HL := Lib.hid (lay_any b x N first size (first + hg % 2) hm (.slice ad 128 c) (headText ⟨hg, he, hf, hl⟩ size) (headText_ok _ _).1 (headText_ok _ _).2 W4 (H.out.below hB4) hN hsrc)
  unfold placeV at HL
  clear q10 q11 q12 q20 q21 q22 q23 hsrc
  go_wp2_with fail
  rw [show (first : Int) + (hg : Int) % 2 = ((first + hg % 2 : Nat) : Int) by omega]
  refine HL.out.mono ?_
  rintro e w' ⟨rfl, hP⟩
  go_wp2_with fail
  go_ret
  exact ⟨rfl, .of_below hB4 hP⟩
end Go.Proofs.YtbjofbhhnmehgaaGreatDoor.TT
namespace Go.Proofs.YtbjofbhhnmehgaaGreatDoor.TT
open Go.RowKit Go.RG Go.Hp Go.Proofs.YtbjofbhhnmehgaaGreatDoor



/-- a slice of bytes into a row that is new: what is behind it may be written -/
def Win (w : World) (base : Nat) (v : Value) (xs : List Value) : Prop := ∃ g o c L, v = .slice (some ⟨g, o, none⟩) xs.length c ∧ base ≤ g ∧ Row w g 5 L ∧ xs.length ≤ c ∧ c ≤ maxLen ∧ o + c ≤ L.length ∧ (L.drop o).take xs.length = xs
theorem Win.below {w w' : World} {base : Nat} {v : Value} {xs : List Value} (h : Win w base v xs) (hb : Below w.heap.size w w') : Win w' base v xs := by
  obtain ⟨g, o, c, L, h1, h2, h3, h4⟩ := h
  exact ⟨g, o, c, L, h1, h2, h3.below hb, h4⟩
theorem Win.base {w : World} {base base' : Nat} {v : Value} {xs : List Value} (h : Win w base v xs) (hb : base' ≤ base) : Win w base' v xs := by
  obtain ⟨g, o, c, L, h1, h2, h3⟩ := h
  exact ⟨g, o, c, L, h1, Nat.le_trans hb h2, h3⟩
theorem Win.src {w : World} {base : Nat} {v : Value} {xs : List Value} (h : Win w base v xs) : Src w v xs := by
  obtain ⟨g, o, c, L, rfl, -, h3, h4, -, h6, h7⟩ := h
  refine .inl ⟨g, o, c, rfl, h4, fun j u hu => ?_⟩
  rw [h3.cell]
  have hj : j < xs.length := by
    rcases Nat.lt_or_ge j xs.length with h | h
    · exact h
    · rw [List.getElem?_eq_none h] at hu; cases hu
  rw [← h7, List.getElem?_take_of_lt hj, List.getElem?_drop] at hu
  exact hu
theorem win_of {w : World} {base g cap n : Nat} {bs : List Int} (h : w.ownsRow base 5 1 (.slice (some ⟨g, 0, none⟩) n cap) n (u8s bs)) {o d : Nat} (hd : o + d ≤ n) : Win w base (.slice (some ⟨g, o, none⟩) d (cap - o)) (u8s ((bs.take (o + d)).drop o)) := by
  have hl := owns_length h
  rw [Nat.mul_one, u8s_length] at hl
  obtain ⟨L, hr, hL, ht, hn, hm⟩ := owns_row h
  rw [Nat.mul_one] at hL ht
  have hlen : (u8s ((bs.take (o + d)).drop o)).length = d := by rw [u8s_length, List.length_drop, List.length_take]; omega
  refine ⟨g, o, cap - o, L, by rw [hlen], (h.lt g rfl).1, hr, by rw [hlen]; omega, by omega, by omega, ?_⟩
  rw [hlen, u8s_drop, u8s_take, ← ht, List.take_take, Nat.min_eq_left hd, List.drop_take, Nat.add_sub_cancel_left]
def pieceOf (t : List Int) (data : List Int) : Piece := ⟨getN t 4 6, getN t 10 6, getN t 16 2, getN t 18 2, data⟩
def pieceEnd (t : List Int) : Nat := 20 + min 104 (getN t 16 2 - getN t 18 2 * 104)
/-- the piece with that number -/
def pieceR (x : Dsk) (first size n : Nat) : Except Int Piece := match sealedR x (ringN first size n) pieceMark with
  | .error c => .error c
  | .ok t => if getN t 4 6 ≠ n ∨ need (getN t 16 2) ≤ getN t 18 2 then .error 50 else
    if cleanB (t.drop (pieceEnd t)) then .ok (pieceOf t ((t.take (pieceEnd t)).drop 20)) else .error 50
def PiecePost (r : Except Int Piece) (B : Nat) (e : Ending) (w' : World) : Prop := match r with
  | .ok p => ∃ u, e = .returned (.tuple #[.agg #[.int .u64 p.num, .int .u64 p.epoch, .int .i64 p.bytes, .int .i64 p.index, u], .int .i64 0]) ∧ Win w' B u (u8s p.data)
  | .error k => e = .returned (.tuple #[.agg #[.int .u64 0, .int .u64 0, .int .i64 0, .int .i64 0, .slice none 0 0], .int .i64 k])
theorem getN_lt {t : List Int} (h : isBytes t) (at' n : Nat) (hl : at' + n ≤ t.length) : getN t at' n < 256 ^ n := by
  have h1 := leNum_bounds ((h.drop at').take n)
  have h2 : (List.take n (List.drop at' t)).length = n := by rw [List.length_take, List.length_drop]; omega
  rw [h2] at h1
  have h3 := getN_cast h at' n
  have h4 : (getN t at' n : Int) < 256 ^ n := by rw [h3]; exact h1.2
  have h5 : ((256 ^ n : Nat) : Int) = (256 : Int) ^ n := by rw [Int.natCast_pow]; rfl
  rw [← h5] at h4
  exact Int.ofNat_lt.1 h4
theorem heap_set5 {W : World} {g : Nat} {b0 b1 b2 b3 b4 : Value} {T : TypeId} (a0 a1 a2 a3 a4 : Value) (h : W.heap[g]? = some (.cells #[b0, b1, b2, b3, b4] T (0, 0))) :
    (((((W.setCell ⟨g, 0, none⟩ a0).setCell ⟨g, 1, none⟩ a1).setCell ⟨g, 2, none⟩ a2).setCell ⟨g, 3, none⟩ a3).setCell ⟨g, 4, none⟩ a4).heap[g]? = some (.cells #[a0, a1, a2, a3, a4] T (0, 0)) :=
  heap_set (i := 4) a4 (heap_set (i := 3) a3 (heap_set (i := 2) a2 (heap_set (i := 1) a1 (heap_set (i := 0) a0 h))))
theorem ext_set5 (W : World) (g : Nat) (a0 a1 a2 a3 a4 : Value) : Ext (· = g) W (((((W.setCell ⟨g, 0, none⟩ a0).setCell ⟨g, 1, none⟩ a1).setCell ⟨g, 2, none⟩ a2).setCell ⟨g, 3, none⟩ a3).setCell ⟨g, 4, none⟩ a4) :=
  ((((Ext.setCell (S := (· = g)) (p := ⟨g, 0, none⟩) rfl _).trans (Ext.setCell (S := (· = g)) (p := ⟨g, 1, none⟩) rfl _) (fun _ _ h => h)).trans (Ext.setCell (S := (· = g)) (p := ⟨g, 2, none⟩) rfl _) (fun _ _ h => h)).trans (Ext.setCell (S := (· = g)) (p := ⟨g, 3, none⟩) rfl _) (fun _ _ h => h)).trans (Ext.setCell (S := (· = g)) (p := ⟨g, 4, none⟩) rfl _) (fun _ _ h => h)
set_option maxHeartbeats 2000000 in
set_option maxRecDepth 100000 in
theorem piece_any (b : Bks) (x : Dsk) (first size n : Nat) (hn : n < 18446744073709551616) (h1 : 2 < size) (h2 : first + size ≤ x.dur.length) (w : World) (h : DskAt w b x) (hk : x.ok) (hP : Pkg w) :
    Calls Tryz.prog 116 #[placeV b first size, .int .u64 n] w fun e w' => PiecePost (pieceR x first size n) w.heap.size e w' ∧ Below w.heap.size w w' := by
  have hlim := h.lim
  have hri : ringN first size n < x.dur.length := by
    have := Nat.mod_lt n (show 0 < size - 2 by omega)
    unfold ringN
    omega
  obtain ⟨hb, g0, g1⟩ := allocs2 w (.cells #[.pointer (some ⟨b.d, 0, none⟩), .int .i64 first, .int .i64 size] 126) (.cells #[.int .u64 0, .int .u64 0, .int .i64 0, .int .i64 0, .slice none 0 0] 138)
  have HS := Lib.hid fun w' (hw : Below w.heap.size w w') => sealed_any b x first size (ringN first size n) hri pieceMark ⟨#[104, 108, 121, 80]⟩ rfl rfl marks_isBytes.2 w' (h.below hw) hk (hP.below hw)
  have HP := Lib.hid hP; clear hP
  have HR := Lib.hid fun w' => ring_any (some ⟨b.d, 0, none⟩) first size n w' h1 (by omega) (by omega) hn
  have HD := Lib.hid (And.intro h hk); clear h hk
  have hr0 : ∀ r, sealedR x (ringN first size n) pieceMark = r → pieceR x first size n = match r with
    | .error c => .error c
    | .ok t => if getN t 4 6 ≠ n ∨ need (getN t 16 2) ≤ getN t 18 2 then .error 50 else
      if cleanB (t.drop (pieceEnd t)) then .ok (pieceOf t ((t.take (pieceEnd t)).drop 20)) else .error 50 := fun r h => by unfold pieceR; rw [h]
  have Hr0 := Lib.hid hr0; clear hr0
  unfold placeV at HS ⊢
  go_enter Tryz.func116, Tryz.ntmps116
  go_wp2_with fail
  generalize World.alloc (World.alloc w _) _ = w1 at hb g0 g1 ⊢
  have c0 : w1.cell? ⟨w.heap.size, 0, none⟩ = some (.pointer (some ⟨b.d, 0, none⟩)) ∧ w1.cell? ⟨w.heap.size, 1, none⟩ = some (.int .i64 first) ∧ w1.cell? ⟨w.heap.size, 2, none⟩ = some (.int .i64 size) := by simp [World.cell?, g0]
  obtain ⟨p0, p1, p2⟩ := c0
  cases hr : sealedR x (ringN first size n) pieceMark with
  | error c =>
    have Hr := Lib.hid (Hr0.out _ hr)
    have hc : (c != 0) = true := by rcases sealedR_err hr with rfl | rfl | rfl <;> rfl
    rw [hr] at HS
    clear hr Hr0
    refine wp_region_rg (fun i => if i = 3 then some (fun v w' => v = .int .i64 (ringN first size n)) else if i = 4 then some (fun v w' => v = .tuple #[.slice none 0 0, .int .i64 c]) else none) fol (by kernel_rfl) (fun W hW hh => ?_)
    clear hh
    have q10 := rcell hW p0
    have q11 := rcell hW p1
    have q12 := rcell hW p2
    repeat ((first | refine lex_move _ (by first | exact Or.inl rfl | exact Or.inr rfl) rfl rfl ?_ | (refine lex_float ?_ rfl rfl (fun w1 hb1 hf1 => ?_) ?_; rotate_left; (go_simp; (try simp (disch := omega) only [IntWalk.i64_quo, IntWalk.rem_in, IntWalk.i64_in, IntWalk.u64_in, IntWalk.u32_in, IntWalk.u8_in, IntWalk.toNatUp, IntWalk.iteOmega]); (try go_simp); rfl)) | refine lex_skip rfl ?_); simp only [Act.put, Act.eval, Array.getD_eq_getD_getElem?, List.getElem?_toArray, List.getElem?_cons_zero, List.getElem?_cons_succ, Option.getD_some, List.setIfInBounds_toArray, List.set_cons_succ, List.set_cons_zero])
    refine lex_make _ rfl (by exact fun _ _ _ h _ => h) rfl (fun w1 hb1 hf1 => ?_) ?_
    · (unfold makes; go_simp; simp only [makesUpon])
      refine (HR.out _).mono ?_
      rintro e w' ⟨rfl, hbb⟩
      exact ⟨_, rfl, hbb, rfl⟩
    rintro v9 W3 hB9 rfl
    simp only [Act.put, Act.eval, Array.getD_eq_getD_getElem?, List.getElem?_toArray, List.getElem?_cons_zero, List.getElem?_cons_succ, Option.getD_some, List.setIfInBounds_toArray, List.set_cons_succ, List.set_cons_zero]
    repeat ((first | refine lex_move _ (by first | exact Or.inl rfl | exact Or.inr rfl) rfl rfl ?_ | (refine lex_float ?_ rfl rfl (fun w1 hb1 hf1 => ?_) ?_; rotate_left; (go_simp; (try simp (disch := omega) only [IntWalk.i64_quo, IntWalk.rem_in, IntWalk.i64_in, IntWalk.u64_in, IntWalk.u32_in, IntWalk.u8_in, IntWalk.toNatUp, IntWalk.iteOmega]); (try go_simp); rfl)) | refine lex_skip rfl ?_); simp only [Act.put, Act.eval, Array.getD_eq_getD_getElem?, List.getElem?_toArray, List.getElem?_cons_zero, List.getElem?_cons_succ, Option.getD_some, List.setIfInBounds_toArray, List.set_cons_succ, List.set_cons_zero])
    refine lex_make _ rfl (by exact fun _ _ _ h _ => h) rfl (fun w1 hb1 hf1 => ?_) ?_
    · (unfold makes; go_simp; simp only [makesUpon])
      refine (HS.out _ (below_trans hb (below_trans hW hb1))).mono ?_
      rintro e w' ⟨hpost, hbb⟩
      obtain rfl : e = _ := hpost
      exact ⟨_, rfl, hbb, rfl⟩
    rintro v10 W4 hB10 rfl
    simp only [Act.put, Act.eval, Array.getD_eq_getD_getElem?, List.getElem?_toArray, List.getElem?_cons_zero, List.getElem?_cons_succ, Option.getD_some, List.setIfInBounds_toArray, List.set_cons_succ, List.set_cons_zero]
    repeat ((first | refine lex_move _ (by first | exact Or.inl rfl | exact Or.inr rfl) rfl rfl ?_ | (refine lex_float ?_ rfl rfl (fun w1 hb1 hf1 => ?_) ?_; rotate_left; (go_simp; (try simp (disch := omega) only [IntWalk.i64_quo, IntWalk.rem_in, IntWalk.i64_in, IntWalk.u64_in, IntWalk.u32_in, IntWalk.u8_in, IntWalk.toNatUp, IntWalk.iteOmega]); (try go_simp); rfl)) | refine lex_skip rfl ?_); simp only [Act.put, Act.eval, Array.getD_eq_getD_getElem?, List.getElem?_toArray, List.getElem?_cons_zero, List.getElem?_cons_succ, Option.getD_some, List.setIfInBounds_toArray, List.set_cons_succ, List.set_cons_zero])
    refine lex_nil ?_
    clear q10 q11 q12 HS HR
    have hW4 : Below w1.heap.size w1 W4 := below_trans hW (below_trans hB9 hB10)
    have hB4 : Below w.heap.size w W4 := below_trans hb hW4
    have g4 := below_heap hW4 g1
    obtain ⟨z0, z1, z2, z3, z4⟩ := box5 g4
    have f1 : ∀ j, (W4).frozen? ⟨w.heap.size + 1, j, none⟩ = false := fun j => by simp [World.frozen?, g4]
    have hset := heap_set5 (.int .u64 0) (.int .u64 0) (.int .i64 0) (.int .i64 0) (.slice none 0 0) g4
    have hX := ext_set5 W4 (w.heap.size + 1) (.int .u64 0) (.int .u64 0) (.int .i64 0) (.int .i64 0) (.slice none 0 0)
    have HS := Lib.hid (And.intro hset hX)
    clear hset hX
    go_wp2_with fail
    have hse := HS.out.1
    have hX := HS.out.2
    clear HS z0 z1 z2 z3 z4 f1
    generalize World.setCell _ ⟨w.heap.size + 1, 4, none⟩ _ = We at hX hse ⊢
    have hBe : Below w.heap.size w We := hB4.trans (hX.to_belowAt hB4.size fun k hk => by omega)
    obtain ⟨d0, d1, d2, d3, d4⟩ := box5 hse
    refine ⟨rfl, .tuple #[.agg #[.int .u64 0, .int .u64 0, .int .i64 0, .int .i64 0, .slice none 0 0], .int .i64 c], ?_, ?_⟩
    · simp [results, Tryz.f116, go_sem, d0, d1, d2, d3, d4]
    refine ⟨?_, hBe⟩
    rw [Hr.out]
    rfl
  | ok t => 
    obtain ⟨hlt, hbt⟩ := sealedR_len HD.out.1 HD.out.2 hr
    have Hr := Lib.hid (Hr0.out _ hr)
    rw [hr] at HS
    clear hr Hr0
    refine wp_region_rg (fun i => if i = 3 then some (fun v w' => v = .int .i64 (ringN first size n)) else if i = 4 then some (fun v w' => ∃ g c, v = .tuple #[.slice (some ⟨g, 0, none⟩) 124 c, .int .i64 0] ∧ 124 ≤ c ∧ w.heap.size + 1 < g ∧ w'.ownsRow w.heap.size 5 1 (.slice (some ⟨g, 0, none⟩) 124 c) 124 (u8s t)) else none) fol (by kernel_rfl) (fun W hW hh => ?_)
    clear hh
    have q10 := rcell hW p0
    have q11 := rcell hW p1
    have q12 := rcell hW p2
    repeat ((first | refine lex_move _ (by first | exact Or.inl rfl | exact Or.inr rfl) rfl rfl ?_ | (refine lex_float ?_ rfl rfl (fun w1 hb1 hf1 => ?_) ?_; rotate_left; (go_simp; (try simp (disch := omega) only [IntWalk.i64_quo, IntWalk.rem_in, IntWalk.i64_in, IntWalk.u64_in, IntWalk.u32_in, IntWalk.u8_in, IntWalk.toNatUp, IntWalk.iteOmega]); (try go_simp); rfl)) | refine lex_skip rfl ?_); simp only [Act.put, Act.eval, Array.getD_eq_getD_getElem?, List.getElem?_toArray, List.getElem?_cons_zero, List.getElem?_cons_succ, Option.getD_some, List.setIfInBounds_toArray, List.set_cons_succ, List.set_cons_zero])
    refine lex_make _ rfl (by exact fun _ _ _ h _ => h) rfl (fun w1 hb1 hf1 => ?_) ?_
    · (unfold makes; go_simp; simp only [makesUpon])
      refine (HR.out _).mono ?_
      rintro e w' ⟨rfl, hbb⟩
      exact ⟨_, rfl, hbb, rfl⟩
    rintro v9 W3 hB9 rfl
    simp only [Act.put, Act.eval, Array.getD_eq_getD_getElem?, List.getElem?_toArray, List.getElem?_cons_zero, List.getElem?_cons_succ, Option.getD_some, List.setIfInBounds_toArray, List.set_cons_succ, List.set_cons_zero]
    repeat ((first | refine lex_move _ (by first | exact Or.inl rfl | exact Or.inr rfl) rfl rfl ?_ | (refine lex_float ?_ rfl rfl (fun w1 hb1 hf1 => ?_) ?_; rotate_left; (go_simp; (try simp (disch := omega) only [IntWalk.i64_quo, IntWalk.rem_in, IntWalk.i64_in, IntWalk.u64_in, IntWalk.u32_in, IntWalk.u8_in, IntWalk.toNatUp, IntWalk.iteOmega]); (try go_simp); rfl)) | refine lex_skip rfl ?_); simp only [Act.put, Act.eval, Array.getD_eq_getD_getElem?, List.getElem?_toArray, List.getElem?_cons_zero, List.getElem?_cons_succ, Option.getD_some, List.setIfInBounds_toArray, List.set_cons_succ, List.set_cons_zero])
    refine lex_make _ rfl (by exact fun _ _ _ ⟨g, c, h1, h2, h4, h3⟩ hb => ⟨g, c, h1, h2, h4, owns_below h3 hb⟩) rfl (fun w1 hb1 hf1 => ?_) ?_
    · (unfold makes; go_simp; simp only [makesUpon])
      have hBw := below_trans hb (below_trans hW hb1)
      refine (HS.out _ hBw).mono ?_
      rintro e w' ⟨⟨u, rfl, hown⟩, hbb⟩
      rw [hlt] at hown
      obtain ⟨g, c, rfl, hg, -, hc, -⟩ := owns_parts hown (by decide)
      have hz1 := block_lt_of_heap g1
      have hz2 := (below_trans hW hb1).size
      exact ⟨_, rfl, hbb, g, c, rfl, hc, by omega, owns_base hown (fun k hk => Nat.le_trans hBw.size (hown.lt k hk).1)⟩
    rintro v10 W4 hB10 ⟨g, c, rfl, hcl, hgw, hown⟩
    simp only [Act.put, Act.eval, Array.getD_eq_getD_getElem?, List.getElem?_toArray, List.getElem?_cons_zero, List.getElem?_cons_succ, Option.getD_some, List.setIfInBounds_toArray, List.set_cons_succ, List.set_cons_zero]
    repeat ((first | refine lex_move _ (by first | exact Or.inl rfl | exact Or.inr rfl) rfl rfl ?_ | (refine lex_float ?_ rfl rfl (fun w1 hb1 hf1 => ?_) ?_; rotate_left; (go_simp; (try simp (disch := omega) only [IntWalk.i64_quo, IntWalk.rem_in, IntWalk.i64_in, IntWalk.u64_in, IntWalk.u32_in, IntWalk.u8_in, IntWalk.toNatUp, IntWalk.iteOmega]); (try go_simp); rfl)) | refine lex_skip rfl ?_); simp only [Act.put, Act.eval, Array.getD_eq_getD_getElem?, List.getElem?_toArray, List.getElem?_cons_zero, List.getElem?_cons_succ, Option.getD_some, List.setIfInBounds_toArray, List.set_cons_succ, List.set_cons_zero])
    refine lex_nil ?_
    clear q10 q11 q12 HS HR
    have hW4 : Below w1.heap.size w1 W4 := below_trans hW (below_trans hB9 hB10)
    have hB4 : Below w.heap.size w W4 := below_trans hb hW4
    have Hown := Lib.hid hown
    have hsT := Src.of_owns hown
    have HG := Lib.hid (fun W' (h : Below W4.heap.size W4 W') at' n h1 h2 => get_n at' n _ t hbt (by rw [hlt]; exact h1) (by rw [hlt]; decide) h2 W' (hsT.below h))
    have l1 := getN_lt hbt 16 2 (by rw [hlt]; decide)
    have l2 := getN_lt hbt 18 2 (by rw [hlt]; decide)
    have hP4 := HP.out.below hB4
    obtain ⟨k1, k2⟩ := hP4.number
    obtain ⟨k3, k4⟩ := hP4.pieceEpoch
    obtain ⟨k5, k6⟩ := hP4.bytes
    obtain ⟨k7, k8⟩ := hP4.index
    have g1' := below_heap hW4 g1
    have hs0 := hB4.size
    have hs1 := block_lt_of_heap g1'
    clear hP4 hown hsT
    go_wp2_with fail
    refine wp_region_rg_tail 16 (fun i => if i = 2 then some (fun v w' => v = .int .u64 (getN t 4 6)) else if i = 5 then some (fun v w' => v = .int .u64 (getN t 10 6)) else if i = 8 then some (fun v w' => v = .int .u64 (getN t 16 2)) else if i = 12 then some (fun v w' => v = .int .u64 (getN t 18 2)) else if i = 15 then some (fun v w' => ∃ n, v = .pointer (some ⟨n, 0, none⟩) ∧ w.heap.size ≤ n ∧ n ≠ w.heap.size + 1 ∧ W4.heap.size ≤ n ∧ w'.heap[n]? = some (.cells #[.int .u64 0, .int .u64 0, .int .i64 0, .int .i64 0, .slice none 0 0] 138 (0, 0))) else none) fol (by kernel_rfl) (fun V hV hh => ?_)
    clear hh
    have q1 := rcell hV k1
    have q2 := rcell hV k2
    have q3 := rcell hV k3
    have q4 := rcell hV k4
    have q5 := rcell hV k5
    have q6 := rcell hV k6
    have q7 := rcell hV k7
    have q8 := rcell hV k8
    simp only [List.take_succ_cons, List.take_zero, List.drop_succ_cons, List.drop_zero]
    repeat ((first | refine lex_move _ (by first | exact Or.inl rfl | exact Or.inr rfl) rfl rfl ?_ | (refine lex_float ?_ rfl rfl (fun w1 hb1 hf1 => ?_) ?_; rotate_left; (go_simp; (try simp (disch := omega) only [IntWalk.i64_quo, IntWalk.rem_in, IntWalk.i64_in, IntWalk.u64_in, IntWalk.u32_in, IntWalk.u8_in, IntWalk.toNatUp, IntWalk.iteOmega]); (try go_simp); rfl)) | refine lex_skip rfl ?_); simp only [Act.put, Act.eval, Array.getD_eq_getD_getElem?, List.getElem?_toArray, List.getElem?_cons_zero, List.getElem?_cons_succ, Option.getD_some, List.setIfInBounds_toArray, List.set_cons_succ, List.set_cons_zero])
    refine lex_make _ rfl (by exact fun _ _ _ h _ => h) rfl (fun w1 hb1 hf1 => ?_) ?_
    · (unfold makes; go_simp; simp only [makesUpon])
      refine (HG.out _ (below_trans hV hb1) 4 6 (by decide) (by decide)).mono ?_
      rintro e w' ⟨rfl, hbb⟩
      exact ⟨_, rfl, hbb, rfl⟩
    rintro v1 V1 hV1 rfl
    simp only [Act.put, Act.eval, Array.getD_eq_getD_getElem?, List.getElem?_toArray, List.getElem?_cons_zero, List.getElem?_cons_succ, Option.getD_some, List.setIfInBounds_toArray, List.set_cons_succ, List.set_cons_zero]
    repeat ((first | refine lex_move _ (by first | exact Or.inl rfl | exact Or.inr rfl) rfl rfl ?_ | (refine lex_float ?_ rfl rfl (fun w1 hb1 hf1 => ?_) ?_; rotate_left; (go_simp; (try simp (disch := omega) only [IntWalk.i64_quo, IntWalk.rem_in, IntWalk.i64_in, IntWalk.u64_in, IntWalk.u32_in, IntWalk.u8_in, IntWalk.toNatUp, IntWalk.iteOmega]); (try go_simp); rfl)) | refine lex_skip rfl ?_); simp only [Act.put, Act.eval, Array.getD_eq_getD_getElem?, List.getElem?_toArray, List.getElem?_cons_zero, List.getElem?_cons_succ, Option.getD_some, List.setIfInBounds_toArray, List.set_cons_succ, List.set_cons_zero])
    refine lex_make _ rfl (by exact fun _ _ _ h _ => h) rfl (fun w1 hb1 hf1 => ?_) ?_
    · (unfold makes; go_simp; simp only [makesUpon])
      refine (HG.out _ (below_trans hV hb1) 10 6 (by decide) (by decide)).mono ?_
      rintro e w' ⟨rfl, hbb⟩
      exact ⟨_, rfl, hbb, rfl⟩
    rintro v1 V2 hV2 rfl
    simp only [Act.put, Act.eval, Array.getD_eq_getD_getElem?, List.getElem?_toArray, List.getElem?_cons_zero, List.getElem?_cons_succ, Option.getD_some, List.setIfInBounds_toArray, List.set_cons_succ, List.set_cons_zero]
    repeat ((first | refine lex_move _ (by first | exact Or.inl rfl | exact Or.inr rfl) rfl rfl ?_ | (refine lex_float ?_ rfl rfl (fun w1 hb1 hf1 => ?_) ?_; rotate_left; (go_simp; (try simp (disch := omega) only [IntWalk.i64_quo, IntWalk.rem_in, IntWalk.i64_in, IntWalk.u64_in, IntWalk.u32_in, IntWalk.u8_in, IntWalk.toNatUp, IntWalk.iteOmega]); (try go_simp); rfl)) | refine lex_skip rfl ?_); simp only [Act.put, Act.eval, Array.getD_eq_getD_getElem?, List.getElem?_toArray, List.getElem?_cons_zero, List.getElem?_cons_succ, Option.getD_some, List.setIfInBounds_toArray, List.set_cons_succ, List.set_cons_zero])
    refine lex_make _ rfl (by exact fun _ _ _ h _ => h) rfl (fun w1 hb1 hf1 => ?_) ?_
    · (unfold makes; go_simp; simp only [makesUpon])
      refine (HG.out _ (below_trans hV hb1) 16 2 (by decide) (by decide)).mono ?_
      rintro e w' ⟨rfl, hbb⟩
      exact ⟨_, rfl, hbb, rfl⟩
    rintro v1 V3 hV3 rfl
    simp only [Act.put, Act.eval, Array.getD_eq_getD_getElem?, List.getElem?_toArray, List.getElem?_cons_zero, List.getElem?_cons_succ, Option.getD_some, List.setIfInBounds_toArray, List.set_cons_succ, List.set_cons_zero]
    repeat ((first | refine lex_move _ (by first | exact Or.inl rfl | exact Or.inr rfl) rfl rfl ?_ | (refine lex_float ?_ rfl rfl (fun w1 hb1 hf1 => ?_) ?_; rotate_left; (go_simp; (try simp (disch := omega) only [IntWalk.i64_quo, IntWalk.rem_in, IntWalk.i64_in, IntWalk.u64_in, IntWalk.u32_in, IntWalk.u8_in, IntWalk.toNatUp, IntWalk.iteOmega]); (try go_simp); rfl)) | refine lex_skip rfl ?_); simp only [Act.put, Act.eval, Array.getD_eq_getD_getElem?, List.getElem?_toArray, List.getElem?_cons_zero, List.getElem?_cons_succ, Option.getD_some, List.setIfInBounds_toArray, List.set_cons_succ, List.set_cons_zero])
    refine lex_make _ rfl (by exact fun _ _ _ h _ => h) rfl (fun w1 hb1 hf1 => ?_) ?_
    · (unfold makes; go_simp; simp only [makesUpon])
      refine (HG.out _ (below_trans hV hb1) 18 2 (by decide) (by decide)).mono ?_
      rintro e w' ⟨rfl, hbb⟩
      exact ⟨_, rfl, hbb, rfl⟩
    rintro v1 V4 hV4 rfl
    simp only [Act.put, Act.eval, Array.getD_eq_getD_getElem?, List.getElem?_toArray, List.getElem?_cons_zero, List.getElem?_cons_succ, Option.getD_some, List.setIfInBounds_toArray, List.set_cons_succ, List.set_cons_zero]
    repeat ((first | refine lex_move _ (by first | exact Or.inl rfl | exact Or.inr rfl) rfl rfl ?_ | (refine lex_float ?_ rfl rfl (fun w1 hb1 hf1 => ?_) ?_; rotate_left; (go_simp; (try simp (disch := omega) only [IntWalk.i64_quo, IntWalk.rem_in, IntWalk.i64_in, IntWalk.u64_in, IntWalk.u32_in, IntWalk.u8_in, IntWalk.toNatUp, IntWalk.iteOmega]); (try go_simp); rfl)) | refine lex_skip rfl ?_); simp only [Act.put, Act.eval, Array.getD_eq_getD_getElem?, List.getElem?_toArray, List.getElem?_cons_zero, List.getElem?_cons_succ, Option.getD_some, List.setIfInBounds_toArray, List.set_cons_succ, List.set_cons_zero])
    refine lex_make _ rfl (by exact fun _ _ _ ⟨n, h1, h2, h3, h5, h4⟩ hb => ⟨n, h1, h2, h3, h5, below_heap hb h4⟩) rfl (fun w1 hb1 hf1 => ?_) ?_
    · have hsz1 := (below_trans hV hb1).size
      (unfold makes; go_simp; simp only [makesUpon])
      exact ⟨below_box _ _, _, rfl, by omega, by omega, by omega, World.alloc_heap_new _ _⟩
    rintro v5 V5 hV5 ⟨m, rfl, hm, hm1, hm4, gm⟩
    simp only [Act.put, Act.eval, Array.getD_eq_getD_getElem?, List.getElem?_toArray, List.getElem?_cons_zero, List.getElem?_cons_succ, Option.getD_some, List.setIfInBounds_toArray, List.set_cons_succ, List.set_cons_zero]
    repeat ((first | refine lex_move _ (by first | exact Or.inl rfl | exact Or.inr rfl) rfl rfl ?_ | (refine lex_float ?_ rfl rfl (fun w1 hb1 hf1 => ?_) ?_; rotate_left; (go_simp; (try simp (disch := omega) only [IntWalk.i64_quo, IntWalk.rem_in, IntWalk.i64_in, IntWalk.u64_in, IntWalk.u32_in, IntWalk.u8_in, IntWalk.toNatUp, IntWalk.iteOmega]); (try go_simp); rfl)) | refine lex_skip rfl ?_); simp only [Act.put, Act.eval, Array.getD_eq_getD_getElem?, List.getElem?_toArray, List.getElem?_cons_zero, List.getElem?_cons_succ, Option.getD_some, List.setIfInBounds_toArray, List.set_cons_succ, List.set_cons_zero])
    refine lex_nil ?_
    clear q1 q2 q3 q4 q5 q6 q7 q8 HG k1 k2 k3 k4 k5 k6 k7 k8
    have hW5 : Below W4.heap.size W4 V5 := below_trans hV (below_trans hV1 (below_trans hV2 (below_trans hV3 (below_trans hV4 hV5))))
    have g6' := below_heap hW5 g1'
    have hB5 : Below w.heap.size w V5 := below_trans hB4 hW5
    have hown5 := owns_below Hown.out hW5
    have hgm : g ≠ m := fun e => by have := owns_lt Hown.out (k := g) rfl; omega
    obtain ⟨z0, z1, z2, z3, z4⟩ := box5 gm
    have fn : ∀ j, V5.frozen? ⟨m, j, none⟩ = false := fun j => by simp [World.frozen?, gm]
    have hset := heap_set5 (.int .u64 (getN t 4 6)) (.int .u64 (getN t 10 6)) (.int .i64 (getN t 16 2)) (.int .i64 (getN t 18 2)) (.slice none 0 0) gm
    have hX := ext_set5 V5 m (.int .u64 (getN t 4 6)) (.int .u64 (getN t 10 6)) (.int .i64 (getN t 16 2)) (.int .i64 (getN t 18 2)) (.slice none 0 0)
    have HS := Lib.hid (And.intro hset hX)
    have H5 := Lib.hid (And.intro g6' hown5)
    clear hset hX Hown g1' g6' hown5
    go_wp2_with fail
    have hset := HS.out.1
    have hX := HS.out.2
    clear HS z0 z1 z2 z3 z4 fn gm
    generalize World.setCell _ ⟨m, 4, none⟩ _ = V6 at hset hX ⊢
    have hB6 : Below w.heap.size w V6 := hB5.trans (hX.to_belowAt hB5.size fun k hk => by omega)
    have g6 := hX.heap H5.out.1 (fun e => hm1 e.symm)
    have hown6 := owns_ext H5.out.2 hX (fun k e => by injection e with e; rw [← e]; exact hgm)
    have Hown6 := Lib.hid hown6
    have H6 := Lib.hid (And.intro g6 (And.intro hset hB6))
    obtain ⟨y0, y1, y2, y3, y4⟩ := box5 hset
    clear hX H5 hown6 hset g6 hB6
    by_cases hnum : getN t 4 6 = n
    · have e1 : ((getN t 4 6 : Int) != (n : Int)) = false := by rw [hnum]; simp
      by_cases hix : need (getN t 16 2) ≤ getN t 18 2
      · have Hr2 := Lib.hid (show pieceR x first size n = .error 50 by rw [Hr.out, if_pos (.inr hix)])
        have hix' : (need (getN t 16 2) : Int) ≤ (getN t 18 2 : Int) := by omega
        clear hnum
        refine wp_region_rg (fun i => if i = 9 then some (fun v w' => v = .int .i64 (need (getN t 16 2))) else none) fol (by kernel_rfl) (fun U hU hh => ?_)
        clear hh
        have q0 : ∀ w2, Below U.heap.size U w2 → w2.cell? ⟨m, 0, none⟩ = some (.int .u64 (getN t 4 6)) := rcell hU y0
        have q2 : ∀ w2, Below U.heap.size U w2 → w2.cell? ⟨m, 2, none⟩ = some (.int .i64 (getN t 16 2)) := rcell hU y2
        have q3 : ∀ w2, Below U.heap.size U w2 → w2.cell? ⟨m, 3, none⟩ = some (.int .i64 (getN t 18 2)) := rcell hU y3
        repeat ((first | refine lex_move _ (by first | exact Or.inl rfl | exact Or.inr rfl) rfl rfl ?_ | (refine lex_float ?_ rfl rfl (fun w1 hb1 hf1 => ?_) ?_; rotate_left; (go_simp; (try simp (disch := omega) only [IntWalk.i64_quo, IntWalk.rem_in, IntWalk.i64_in, IntWalk.u64_in, IntWalk.u32_in, IntWalk.u8_in, IntWalk.toNatUp, IntWalk.iteOmega]); (try go_simp); rfl)) | refine lex_skip rfl ?_); simp only [Act.put, Act.eval, Array.getD_eq_getD_getElem?, List.getElem?_toArray, List.getElem?_cons_zero, List.getElem?_cons_succ, Option.getD_some, List.setIfInBounds_toArray, List.set_cons_succ, List.set_cons_zero])
        refine lex_make _ rfl (by exact fun _ _ _ h _ => h) rfl (fun w1 hb1 hf1 => ?_) ?_
        · (unfold makes; go_simp; simp only [makesUpon])
          refine (need_any (getN t 16 2) (by omega) _).mono ?_
          rintro e w' ⟨rfl, rfl⟩
          exact ⟨_, rfl, Below.refl _ _, rfl⟩
        rintro v1 U1 hU1 rfl
        simp only [Act.put, Act.eval, Array.getD_eq_getD_getElem?, List.getElem?_toArray, List.getElem?_cons_zero, List.getElem?_cons_succ, Option.getD_some, List.setIfInBounds_toArray, List.set_cons_succ, List.set_cons_zero]
        repeat ((first | refine lex_move _ (by first | exact Or.inl rfl | exact Or.inr rfl) rfl rfl ?_ | (refine lex_float ?_ rfl rfl (fun w1 hb1 hf1 => ?_) ?_; rotate_left; (go_simp; (try simp (disch := omega) only [IntWalk.i64_quo, IntWalk.rem_in, IntWalk.i64_in, IntWalk.u64_in, IntWalk.u32_in, IntWalk.u8_in, IntWalk.toNatUp, IntWalk.iteOmega]); (try go_simp); rfl)) | refine lex_skip rfl ?_); simp only [Act.put, Act.eval, Array.getD_eq_getD_getElem?, List.getElem?_toArray, List.getElem?_cons_zero, List.getElem?_cons_succ, Option.getD_some, List.setIfInBounds_toArray, List.set_cons_succ, List.set_cons_zero])
        refine lex_nil ?_
        have hWU := below_trans hU hU1
        have g4 := below_heap hWU H6.out.1
        have hB4 := below_trans H6.out.2.2 hWU
        clear q0 q2 q3 y0 y1 y2 y3 y4
        obtain ⟨z0, z1, z2, z3, z4⟩ := box5 g4
        have f1 : ∀ j, (U1).frozen? ⟨w.heap.size + 1, j, none⟩ = false := fun j => by simp [World.frozen?, g4]
        have hset := heap_set5 (.int .u64 0) (.int .u64 0) (.int .i64 0) (.int .i64 0) (.slice none 0 0) g4
        have hX := ext_set5 U1 (w.heap.size + 1) (.int .u64 0) (.int .u64 0) (.int .i64 0) (.int .i64 0) (.slice none 0 0)
        have HS := Lib.hid (And.intro hset hX)
        clear hset hX
        go_wp2_with fail
        have hse := HS.out.1
        have hX := HS.out.2
        clear HS z0 z1 z2 z3 z4 f1
        generalize World.setCell _ ⟨w.heap.size + 1, 4, none⟩ _ = We at hX hse ⊢
        have hBe : Below w.heap.size w We := hB4.trans (hX.to_belowAt hB4.size fun k hk => by omega)
        obtain ⟨d0, d1, d2, d3, d4⟩ := box5 hse
        refine ⟨rfl, .tuple #[.agg #[.int .u64 0, .int .u64 0, .int .i64 0, .int .i64 0, .slice none 0 0], .int .i64 50], ?_, ?_⟩
        · simp [results, Tryz.f116, go_sem, d0, d1, d2, d3, d4]
        refine ⟨?_, hBe⟩
        rw [Hr2.out]
        rfl
      · have hix' : ¬ ((need (getN t 16 2) : Int) ≤ (getN t 18 2 : Int)) := by omega
        have hr2 := Hr.out
        rw [if_neg (by rintro (h | h); exact h hnum; exact hix h)] at hr2
        have Hr2 := Lib.hid hr2
        clear hnum hr2
        refine wp_region_rg (fun i => if i = 9 then some (fun v w' => v = .int .i64 (need (getN t 16 2))) else none) fol (by kernel_rfl) (fun U hU hh => ?_)
        clear hh
        have q0 : ∀ w2, Below U.heap.size U w2 → w2.cell? ⟨m, 0, none⟩ = some (.int .u64 (getN t 4 6)) := rcell hU y0
        have q2 : ∀ w2, Below U.heap.size U w2 → w2.cell? ⟨m, 2, none⟩ = some (.int .i64 (getN t 16 2)) := rcell hU y2
        have q3 : ∀ w2, Below U.heap.size U w2 → w2.cell? ⟨m, 3, none⟩ = some (.int .i64 (getN t 18 2)) := rcell hU y3
        repeat ((first | refine lex_move _ (by first | exact Or.inl rfl | exact Or.inr rfl) rfl rfl ?_ | (refine lex_float ?_ rfl rfl (fun w1 hb1 hf1 => ?_) ?_; rotate_left; (go_simp; (try simp (disch := omega) only [IntWalk.i64_quo, IntWalk.rem_in, IntWalk.i64_in, IntWalk.u64_in, IntWalk.u32_in, IntWalk.u8_in, IntWalk.toNatUp, IntWalk.iteOmega]); (try go_simp); rfl)) | refine lex_skip rfl ?_); simp only [Act.put, Act.eval, Array.getD_eq_getD_getElem?, List.getElem?_toArray, List.getElem?_cons_zero, List.getElem?_cons_succ, Option.getD_some, List.setIfInBounds_toArray, List.set_cons_succ, List.set_cons_zero])
        refine lex_make _ rfl (by exact fun _ _ _ h _ => h) rfl (fun w1 hb1 hf1 => ?_) ?_
        · (unfold makes; go_simp; simp only [makesUpon])
          refine (need_any (getN t 16 2) (by omega) _).mono ?_
          rintro e w' ⟨rfl, rfl⟩
          exact ⟨_, rfl, Below.refl _ _, rfl⟩
        rintro v1 U1 hU1 rfl
        simp only [Act.put, Act.eval, Array.getD_eq_getD_getElem?, List.getElem?_toArray, List.getElem?_cons_zero, List.getElem?_cons_succ, Option.getD_some, List.setIfInBounds_toArray, List.set_cons_succ, List.set_cons_zero]
        repeat ((first | refine lex_move _ (by first | exact Or.inl rfl | exact Or.inr rfl) rfl rfl ?_ | (refine lex_float ?_ rfl rfl (fun w1 hb1 hf1 => ?_) ?_; rotate_left; (go_simp; (try simp (disch := omega) only [IntWalk.i64_quo, IntWalk.rem_in, IntWalk.i64_in, IntWalk.u64_in, IntWalk.u32_in, IntWalk.u8_in, IntWalk.toNatUp, IntWalk.iteOmega]); (try go_simp); rfl)) | refine lex_skip rfl ?_); simp only [Act.put, Act.eval, Array.getD_eq_getD_getElem?, List.getElem?_toArray, List.getElem?_cons_zero, List.getElem?_cons_succ, Option.getD_some, List.setIfInBounds_toArray, List.set_cons_succ, List.set_cons_zero])
        refine lex_nil ?_
        have hWU := below_trans hU hU1
        clear q0 q2 q3
        have hU1c := H6.out.2.1
        have hB1 := below_trans H6.out.2.2 hWU
        have hgU := below_heap hWU H6.out.1
        have hmU := below_heap hWU H6.out.2.1
        have hownU := owns_below Hown6.out hWU
        obtain ⟨hn1, hn2⟩ : getN t 16 2 ≤ 8192 ∧ getN t 18 2 * 104 ≤ getN t 16 2 := by
          unfold need at hix
          split at hix
          · exact ⟨by assumption, by omega⟩
          · omega
        obtain ⟨yb, hyb⟩ : ∃ yb, getN t 16 2 = yb := ⟨_, rfl⟩
        obtain ⟨yi, hyi⟩ : ∃ yi, getN t 18 2 = yi := ⟨_, rfl⟩
        have hpe : pieceEnd t = 20 + min 104 (yb - yi * 104) := by unfold pieceEnd; rw [hyb, hyi]
        rw [hyb, hyi] at hmU
        rw [hyb] at hn1 hn2 ⊢
        rw [hyi] at hn2 ⊢
        obtain ⟨d, hd⟩ : ∃ d, min 104 (yb - yi * 104) = d := ⟨_, rfl⟩
        rw [hd] at hpe
        have hdI : (if (yb : Int) - (yi : Int) * 104 < 104 then (yb : Int) - (yi : Int) * 104 else 104) = (d : Int) := by rw [← hd]; split <;> omega
        have hd1 : d ≤ 104 := by omega
        have Hpe := Lib.hid (And.intro hyb (And.intro hyi hpe))
        have HU := Lib.hid (And.intro hgU (And.intro hmU hownU))
        obtain ⟨y0, y1, y2, y3, y4⟩ := box5 hmU
        clear hU1c hgU hmU hownU hyb hyi hpe hd hix hix' l1 l2
        rw [Hpe.out.2.2] at Hr2
        by_cases hc20 : c = 20 + d
        · obtain rfl : d = 104 := by omega
          obtain rfl : c = 124 := by omega
          have hnil : t.drop (20 + 104) = [] := List.drop_eq_nil_of_le (by rw [hlt]; decide)
          have HC := Lib.hid (clean_any (.slice (some ⟨g, 0, none⟩) 0 0) (t.drop (20 + 104)) U1 (by
            rw [hnil]
            exact .inl ⟨g, 0, 0, rfl, Nat.le_refl _, fun j u hu => by simp [u8s] at hu⟩) (by rw [List.length_drop, hlt]; decide))
          clear hnil hc20
          go_wp2_with fail
          refine HC.out.mono ?_
          rintro e w' ⟨rfl, rfl⟩
          clear HC
          cases hcl2 : cleanB (t.drop (20 + 104))
          · have Hr3 := Lib.hid (show pieceR x first size n = .error 50 from Hr2.out.trans (by rw [hcl2, if_neg (by decide)]))
            have g4 := HU.out.1
            have hB4 := hB1
            clear hcl2 y0 y1 y2 y3 y4 hdI
            obtain ⟨z0, z1, z2, z3, z4⟩ := box5 g4
            have f1 : ∀ j, (U1).frozen? ⟨w.heap.size + 1, j, none⟩ = false := fun j => by simp [World.frozen?, g4]
            have hset := heap_set5 (.int .u64 0) (.int .u64 0) (.int .i64 0) (.int .i64 0) (.slice none 0 0) g4
            have hX := ext_set5 U1 (w.heap.size + 1) (.int .u64 0) (.int .u64 0) (.int .i64 0) (.int .i64 0) (.slice none 0 0)
            have HS := Lib.hid (And.intro hset hX)
            clear hset hX
            go_wp2_with fail
            have hse := HS.out.1
            have hX := HS.out.2
            clear HS z0 z1 z2 z3 z4 f1
            generalize World.setCell _ ⟨w.heap.size + 1, 4, none⟩ _ = We at hX hse ⊢
            have hBe : Below w.heap.size w We := hB4.trans (hX.to_belowAt hB4.size fun k hk => by omega)
            obtain ⟨d0, d1, d2, d3, d4⟩ := box5 hse
            refine ⟨rfl, .tuple #[.agg #[.int .u64 0, .int .u64 0, .int .i64 0, .int .i64 0, .slice none 0 0], .int .i64 50], ?_, ?_⟩
            · simp [results, Tryz.f116, go_sem, d0, d1, d2, d3, d4]
            refine ⟨?_, hBe⟩
            rw [Hr3.out]
            rfl
          · have Hr3 := Lib.hid (show pieceR x first size n = .ok (pieceOf t ((t.take (20 + 104)).drop 20)) from Hr2.out.trans (by rw [hcl2, if_pos rfl]))
            clear hcl2 Hr2
            have gm := HU.out.2.1
            have fm : ∀ j, U1.frozen? ⟨m, j, none⟩ = false := fun j => by simp [World.frozen?, gm]
            have hset := heap_set (i := 4) (.slice (some ⟨g, 20, none⟩) 104 104) gm
            have hX := Ext.setCell (S := (· = m)) (w := U1) (p := ⟨m, 4, none⟩) rfl (.slice (some ⟨g, 20, none⟩) 104 104)
            have gr := hX.heap HU.out.1 (fun e => hm1 e.symm)
            have fr : ∀ j, (U1.setCell ⟨m, 4, none⟩ (.slice (some ⟨g, 20, none⟩) 104 104)).frozen? ⟨w.heap.size + 1, j, none⟩ = false := fun j => by simp [World.frozen?, gr]
            obtain ⟨e0, e1, e2, e3, e4⟩ := box5 hset
            obtain ⟨z0, z1, z2, z3, z4⟩ := box5 gr
            have hset2 := heap_set5 (.int .u64 (getN t 4 6)) (.int .u64 (getN t 10 6)) (.int .i64 yb) (.int .i64 yi) (.slice (some ⟨g, 20, none⟩) 104 104) gr
            have hX2 := ext_set5 (U1.setCell ⟨m, 4, none⟩ (.slice (some ⟨g, 20, none⟩) 104 104)) (w.heap.size + 1) (.int .u64 (getN t 4 6)) (.int .u64 (getN t 10 6)) (.int .i64 yb) (.int .i64 yi) (.slice (some ⟨g, 20, none⟩) 104 104)
            have HS := Lib.hid (And.intro hset2 (And.intro hX hX2))
            clear hset hset2 hX hX2 gm gr hdI
            go_wp2_with fail
            obtain ⟨hset2, hX, hX2⟩ := HS.out
            clear HS e0 e1 e2 e3 e4 z0 z1 z2 z3 z4 fr fm y0 y1 y2 y3 y4
            generalize World.setCell _ ⟨w.heap.size + 1, 4, none⟩ _ = We at hset2 hX2 ⊢
            have hXX := ext_two hX hX2
            have hBe : Below w.heap.size w We := hB1.trans (hXX.to_belowAt hB1.size fun k hk h => by rcases h with h | h <;> omega)
            have hw := win_of (owns_ext HU.out.2.2 hXX (fun k e h => by
              have e : g = k := by injection e
              subst e
              exact h.elim hgm fun h => by omega)) (o := 20) (d := 104) (by omega)
            obtain ⟨d0, d1, d2, d3, d4⟩ := box5 hset2
            refine ⟨rfl, .tuple #[.agg #[.int .u64 (getN t 4 6), .int .u64 (getN t 10 6), .int .i64 yb, .int .i64 yi, .slice (some ⟨g, 20, none⟩) 104 104], .int .i64 0], ?_, ?_, hBe⟩
            · simp [results, Tryz.f116, go_sem, d0, d1, d2, d3, d4]
            · rw [Hr3.out]
              refine ⟨_, ?_, hw⟩
              simp only [pieceOf, Hpe.out.1, Hpe.out.2.1]
        · have hsD := src_drop (Src.of_owns HU.out.2.2) (m := 20 + d) (by rw [u8s_length, hlt]; omega) (c - (20 + d)) (by rw [u8s_length, hlt]; omega)
          rw [← u8s_drop, u8s_length, hlt, Nat.zero_add] at hsD
          have HC := Lib.hid (clean_any _ (t.drop (20 + d)) U1 hsD (by rw [List.length_drop, hlt]; omega))
          clear hsD
          go_wp2_with fail
          refine HC.out.mono ?_
          rintro e w' ⟨rfl, rfl⟩
          clear HC
          cases hcl2 : cleanB (t.drop (20 + d))
          · have Hr3 := Lib.hid (show pieceR x first size n = .error 50 from Hr2.out.trans (by rw [hcl2, if_neg (by decide)]))
            have g4 := HU.out.1
            have hB4 := hB1
            clear hcl2 y0 y1 y2 y3 y4 hdI
            obtain ⟨z0, z1, z2, z3, z4⟩ := box5 g4
            have f1 : ∀ j, (U1).frozen? ⟨w.heap.size + 1, j, none⟩ = false := fun j => by simp [World.frozen?, g4]
            have hset := heap_set5 (.int .u64 0) (.int .u64 0) (.int .i64 0) (.int .i64 0) (.slice none 0 0) g4
            have hX := ext_set5 U1 (w.heap.size + 1) (.int .u64 0) (.int .u64 0) (.int .i64 0) (.int .i64 0) (.slice none 0 0)
            have HS := Lib.hid (And.intro hset hX)
            clear hset hX
            go_wp2_with fail
            have hse := HS.out.1
            have hX := HS.out.2
            clear HS z0 z1 z2 z3 z4 f1
            generalize World.setCell _ ⟨w.heap.size + 1, 4, none⟩ _ = We at hX hse ⊢
            have hBe : Below w.heap.size w We := hB4.trans (hX.to_belowAt hB4.size fun k hk => by omega)
            obtain ⟨d0, d1, d2, d3, d4⟩ := box5 hse
            refine ⟨rfl, .tuple #[.agg #[.int .u64 0, .int .u64 0, .int .i64 0, .int .i64 0, .slice none 0 0], .int .i64 50], ?_, ?_⟩
            · simp [results, Tryz.f116, go_sem, d0, d1, d2, d3, d4]
            refine ⟨?_, hBe⟩
            rw [Hr3.out]
            rfl
          · have Hr3 := Lib.hid (show pieceR x first size n = .ok (pieceOf t ((t.take (20 + d)).drop 20)) from Hr2.out.trans (by rw [hcl2, if_pos rfl]))
            clear hcl2 Hr2
            have gm := HU.out.2.1
            have fm : ∀ j, U1.frozen? ⟨m, j, none⟩ = false := fun j => by simp [World.frozen?, gm]
            have hset := heap_set (i := 4) (.slice (some ⟨g, 20, none⟩) d (c - 20)) gm
            have hX := Ext.setCell (S := (· = m)) (w := U1) (p := ⟨m, 4, none⟩) rfl (.slice (some ⟨g, 20, none⟩) d (c - 20))
            have gr := hX.heap HU.out.1 (fun e => hm1 e.symm)
            have fr : ∀ j, (U1.setCell ⟨m, 4, none⟩ (.slice (some ⟨g, 20, none⟩) d (c - 20))).frozen? ⟨w.heap.size + 1, j, none⟩ = false := fun j => by simp [World.frozen?, gr]
            obtain ⟨e0, e1, e2, e3, e4⟩ := box5 hset
            obtain ⟨z0, z1, z2, z3, z4⟩ := box5 gr
            have hset2 := heap_set5 (.int .u64 (getN t 4 6)) (.int .u64 (getN t 10 6)) (.int .i64 yb) (.int .i64 yi) (.slice (some ⟨g, 20, none⟩) d (c - 20)) gr
            have hX2 := ext_set5 (U1.setCell ⟨m, 4, none⟩ (.slice (some ⟨g, 20, none⟩) d (c - 20))) (w.heap.size + 1) (.int .u64 (getN t 4 6)) (.int .u64 (getN t 10 6)) (.int .i64 yb) (.int .i64 yi) (.slice (some ⟨g, 20, none⟩) d (c - 20))
            have HS := Lib.hid (And.intro hset2 (And.intro hX hX2))
            clear hset hset2 hX hX2 gm gr hdI
            go_wp2_with fail
            obtain ⟨hset2, hX, hX2⟩ := HS.out
            clear HS e0 e1 e2 e3 e4 z0 z1 z2 z3 z4 fr fm y0 y1 y2 y3 y4
            generalize World.setCell _ ⟨w.heap.size + 1, 4, none⟩ _ = We at hset2 hX2 ⊢
            have hXX := ext_two hX hX2
            have hBe : Below w.heap.size w We := hB1.trans (hXX.to_belowAt hB1.size fun k hk h => by rcases h with h | h <;> omega)
            have hw := win_of (owns_ext HU.out.2.2 hXX (fun k e h => by
              have e : g = k := by injection e
              subst e
              exact h.elim hgm fun h => by omega)) (o := 20) (d := d) (by omega)
            obtain ⟨d0, d1, d2, d3, d4⟩ := box5 hset2
            refine ⟨rfl, .tuple #[.agg #[.int .u64 (getN t 4 6), .int .u64 (getN t 10 6), .int .i64 yb, .int .i64 yi, .slice (some ⟨g, 20, none⟩) d (c - 20)], .int .i64 0], ?_, ?_, hBe⟩
            · simp [results, Tryz.f116, go_sem, d0, d1, d2, d3, d4]
            · rw [Hr3.out]
              refine ⟨_, ?_, hw⟩
              simp only [pieceOf, Hpe.out.1, Hpe.out.2.1]
    · have e1 : ((getN t 4 6 : Int) != (n : Int)) = true := by rw [bne_iff_ne]; omega
      have Hr2 := Lib.hid (show pieceR x first size n = .error 50 by rw [Hr.out, if_pos (.inl hnum)])
      clear hnum
      refine wp_region_rg (fun i => if i = 9 then some (fun v w' => v = .int .i64 (need (getN t 16 2))) else none) fol (by kernel_rfl) (fun U hU hh => ?_)
      clear hh
      have q0 : ∀ w2, Below U.heap.size U w2 → w2.cell? ⟨m, 0, none⟩ = some (.int .u64 (getN t 4 6)) := rcell hU y0
      have q2 : ∀ w2, Below U.heap.size U w2 → w2.cell? ⟨m, 2, none⟩ = some (.int .i64 (getN t 16 2)) := rcell hU y2
      have q3 : ∀ w2, Below U.heap.size U w2 → w2.cell? ⟨m, 3, none⟩ = some (.int .i64 (getN t 18 2)) := rcell hU y3
      repeat ((first | refine lex_move _ (by first | exact Or.inl rfl | exact Or.inr rfl) rfl rfl ?_ | (refine lex_float ?_ rfl rfl (fun w1 hb1 hf1 => ?_) ?_; rotate_left; (go_simp; (try simp (disch := omega) only [IntWalk.i64_quo, IntWalk.rem_in, IntWalk.i64_in, IntWalk.u64_in, IntWalk.u32_in, IntWalk.u8_in, IntWalk.toNatUp, IntWalk.iteOmega]); (try go_simp); rfl)) | refine lex_skip rfl ?_); simp only [Act.put, Act.eval, Array.getD_eq_getD_getElem?, List.getElem?_toArray, List.getElem?_cons_zero, List.getElem?_cons_succ, Option.getD_some, List.setIfInBounds_toArray, List.set_cons_succ, List.set_cons_zero])
      refine lex_nil ?_
      have g4 := below_heap hU H6.out.1
      have hB4 := below_trans H6.out.2.2 hU
      clear q0 q2 q3 y0 y1 y2 y3 y4
      obtain ⟨z0, z1, z2, z3, z4⟩ := box5 g4
      have f1 : ∀ j, (U).frozen? ⟨w.heap.size + 1, j, none⟩ = false := fun j => by simp [World.frozen?, g4]
      have hset := heap_set5 (.int .u64 0) (.int .u64 0) (.int .i64 0) (.int .i64 0) (.slice none 0 0) g4
      have hX := ext_set5 U (w.heap.size + 1) (.int .u64 0) (.int .u64 0) (.int .i64 0) (.int .i64 0) (.slice none 0 0)
      have HS := Lib.hid (And.intro hset hX)
      clear hset hX
      go_wp2_with fail
      have hse := HS.out.1
      have hX := HS.out.2
      clear HS z0 z1 z2 z3 z4 f1
      generalize World.setCell _ ⟨w.heap.size + 1, 4, none⟩ _ = We at hX hse ⊢
      have hBe : Below w.heap.size w We := hB4.trans (hX.to_belowAt hB4.size fun k hk => by omega)
      obtain ⟨d0, d1, d2, d3, d4⟩ := box5 hse
      refine ⟨rfl, .tuple #[.agg #[.int .u64 0, .int .u64 0, .int .i64 0, .int .i64 0, .slice none 0 0], .int .i64 50], ?_, ?_⟩
      · simp [results, Tryz.f116, go_sem, d0, d1, d2, d3, d4]
      refine ⟨?_, hBe⟩
      rw [Hr2.out]
      rfl
end Go.Proofs.YtbjofbhhnmehgaaGreatDoor.TT
namespace Go.Proofs.YtbjofbhhnmehgaaGreatDoor.TT
open Go.RowKit Go.RG Go.Hp Go.Proofs.YtbjofbhhnmehgaaGreatDoor


theorem splice_take (L : List Value) (o n : Nat) (ys : List Value) (xs : List Value) (hx : (L.drop o).take n = xs) (hl : o + n + ys.length ≤ L.length) (hn : xs.length = n) : ((L.take (o + n) ++ ys ++ L.drop (o + n + ys.length)).drop o).take (n + ys.length) = xs ++ ys := by
  have e1 : (L.take (o + n)).length = o + n := by rw [List.length_take]; omega
  have e2 : (L.take (o + n)).drop o = xs := by rw [← hx, List.drop_take, Nat.add_sub_cancel_left]
  rw [List.append_assoc, List.drop_append_of_le_length (by omega), e2, ← List.append_assoc]
  rw [List.take_append_of_le_length (by rw [List.length_append]; omega), List.take_of_length_le (by rw [List.length_append]; omega)]
set_option maxRecDepth 100000 in
theorem run_win_append {w : World} {base : Nat} {v : Value} {xs ys : List Value} {u : Value} (h : Win w base v xs) (hu : ∃ a m c, u = .slice (some a) m c) (hy : Src w u ys) (h1 : ∀ u ∈ ys, u.oneCell' = true) (hb : xs.length + ys.length ≤ 549755813888) (hbase : base ≤ w.heap.size) (ty : TypeId) :
    ∃ v' w', (Builtin.append_ #[52, 52] ty #[v, u]).run Tryz.prog w = .ok v' w' ∧ Win w' base v' (xs ++ ys) ∧ Below base w w' ∧ ∀ (k : Nat) (o : Obj), w.heap[k]? = some o → (∀ L : Array Value, o ≠ Obj.cells L 5 (0, 0)) → w'.heap[k]? = some o := by
  obtain ⟨i0, hi, hz0, hz1, hz2⟩ := info_parts info_byte
  have hsrc0 := h.src
  obtain ⟨g, o, c, L, rfl, hg, hr, hc, hcm, hoc, ht⟩ := h
  obtain ⟨a, m, c', rfl⟩ := hu
  obtain ⟨g', o', c'', e1, hy2⟩ : ∃ g' o' c'', Value.slice (some a) m c' = .slice (some ⟨g', o', none⟩) ys.length c'' ∧ ∀ j u, ys[j]? = some u → w.cell? ⟨g', o' + j, none⟩ = some u := by
    rcases hy with ⟨g', o', c'', e1, -, hy⟩ | ⟨e1, -⟩
    · exact ⟨g', o', c'', e1, hy⟩
    · injection e1 with e1; cases e1
  injection e1 with e1 e2 e3
  injection e1 with e1
  subst e1 e2 e3
  have hyc : ∀ j u, ys[j]? = some u → w.cell? ((⟨g', o', none⟩ : Addr).add j) = some u := fun j u hu => by rw [Addr.add_lit]; exact hy2 j u hu
  by_cases hroom : xs.length + ys.length ≤ c
  · have hf := run_firstCells_some (P := Tryz.prog) w i0.size ys.length ⟨g', o', none⟩ ys.length c' ys (by rw [hz1, Nat.mul_one]) hyc
    have hst := Go.run_storeCells_at Tryz.prog g (o + xs.length) 5 ys 0 L.toArray w hr (by simp; omega) h1
    simp only [Nat.add_zero] at hst
    refine ⟨.slice (some ⟨g, o, none⟩) (xs.length + ys.length) c, w.setRow g (L.take (o + xs.length) ++ ys ++ L.drop (o + xs.length + ys.length)).toArray, ?_, ?_, ?_, ?_⟩
    · rw [hz1] at hf
      simp [Builtin.append_, run_underlying und_bytes, sizeOf, typeInfo, hi, hz1, Builtin.lenOf, hroom, hf, Addr.add_lit, hst]
    · refine ⟨g, o, c, _, by rw [List.length_append], hg, row_put hr _, by rw [List.length_append]; exact hroom, hcm, ?_, ?_⟩
      · simp only [List.length_append, List.length_take, List.length_drop]; omega
      · rw [List.length_append]
        exact splice_take L o xs.length ys xs ht (by omega) rfl
    · exact (ext_setRow w g _).to_belowAt hbase fun k hk => by omega
    · intro k ob hk hn
      rw [setRow_other w g k _ (fun e => by subst e; rw [hr] at hk; injection hk with hk; exact hn _ hk.symm)]
      exact hk
  · have holds : ∀ j u, xs[j]? = some u → w.cell? ((⟨g, o, none⟩ : Addr).add j) = some u := fun j u hu => by
      rw [Addr.add_lit]
      rcases hsrc0 with ⟨g1, o1, c1, e1, -, hs⟩ | ⟨e1, -⟩
      · injection e1 with e1
        injection e1 with e1
        injection e1 with e1 e2
        subst e1 e2
        exact hs j u hu
      · injection e1 with e1; cases e1
    have hgr := run_append_grow (P := Tryz.prog) w 52 ty 5 i0 (.int .u8 0) und_bytes hi hz0 ⟨g, o, none⟩ xs.length c xs (by rw [hz1, Nat.mul_one]) holds ⟨g', o', none⟩ ys.length c' ys (by rw [hz1, Nat.mul_one]) hyc (by omega) (by omega) (growslice_fits (by omega) (by rw [hz2]; omega))
    have hge := grownCap_ge w (xs.length + ys.length) c 5
    have hcm2 := grownCap_le_maxLen w (xs.length + ys.length) c 5 (by unfold maxLen; omega)
    refine ⟨_, _, hgr, ?_, ?_, ?_⟩
    · refine ⟨w.heap.size, 0, _, xs ++ ys ++ (Builtin.zeroCells (Value.int .u8 0).cells (grownCap w (xs.length + ys.length) c 5 - (xs.length + ys.length))).toList, by rw [List.length_append], hbase, ?_, by rw [List.length_append]; exact hge, hcm2, ?_, ?_⟩
      · have := heap_alloc_new w.drew (.cells (xs.toArray ++ ys.toArray ++ Builtin.zeroCells (Value.int .u8 0).cells (grownCap w (xs.length + ys.length) c 5 - (xs.length + ys.length))) 5)
        unfold Row
        rw [show w.drew.heap.size = w.heap.size from rfl] at this
        rw [this]
        congr 2
        apply Array.ext'
        simp
      · simp only [List.length_append, Array.length_toList, size_zeroCells]
        show _ ≤ xs.length + ys.length + _ * 1
        omega
      · rw [List.drop_zero, List.take_append_of_le_length (Nat.le_refl _), List.take_length]
    · exact (((Below.refl _ w).mono hbase).drew).alloc (by simpa using hbase) _
    · intro k ob hk hn
      exact below_heap (((Below.refl _ w).drew).alloc (Nat.le_refl _) _) hk
end Go.Proofs.YtbjofbhhnmehgaaGreatDoor.TT
namespace Go.Proofs.YtbjofbhhnmehgaaGreatDoor.TT
open Go.RowKit Go.RG Go.Hp Go.Proofs.YtbjofbhhnmehgaaGreatDoor


theorem Win.shape {w : World} {base : Nat} {v : Value} {xs : List Value} (h : Win w base v xs) : ∃ g o n c, v = .slice (some ⟨g, o, none⟩) n c := by
  obtain ⟨g, o, c, L, rfl, -⟩ := h
  exact ⟨_, _, _, _, rfl⟩
/-- the bytes of a record's pieces up to the k-th behind the first -/
def recUp (x : Dsk) (first size n : Nat) (p0 : Piece) : Nat → Except Int (List Int)
  | 0 => .ok p0.data
  | k + 1 => match recUp x first size n p0 k with
    | .error c => .error c
    | .ok d => match pieceR x first size (n + (k + 1)) with
      | .error c => .error c
      | .ok p => if p.index ≠ k + 1 ∨ p.bytes ≠ p0.bytes ∨ p.epoch ≠ p0.epoch then .error 50 else .ok (d ++ p.data)
/-- the record at n, and its epoch -/
def recordR (x : Dsk) (first size n least most : Nat) : Except Int (List Int × Nat) := match pieceR x first size n with
  | .error c => .error c
  | .ok p0 => if p0.index ≠ 0 ∨ p0.epoch < least ∨ most < p0.epoch then .error 50 else match recUp x first size n p0 (need p0.bytes - 1) with
    | .error c => .error c
    | .ok d => .ok (d, p0.epoch)
def RecPost (r : Except Int (List Int × Nat)) (B : Nat) (e : Ending) (w' : World) : Prop := match r with
  | .ok d => ∃ u, e = .returned (.tuple #[u, .int .u64 d.2, .int .i64 0]) ∧ Win w' B u (u8s d.1)
  | .error k => k ≠ 0 ∧ e = .returned (.tuple #[.slice none 0 0, .int .u64 0, .int .i64 k])
theorem recUp_err {x : Dsk} {first size n : Nat} {p0 : Piece} {c : Int} {k K : Nat} (h : recUp x first size n p0 k = .error c) (hk : k ≤ K) : recUp x first size n p0 K = .error c := by
  induction K with
  | zero => rw [Nat.le_zero.1 hk] at h; exact h
  | succ K ih =>
    rcases Nat.eq_or_lt_of_le hk with rfl | hk
    · exact h
    · unfold recUp
      rw [ih (Nat.lt_succ_iff.1 hk)]
theorem pieceR_ok {x : Dsk} {first size n : Nat} {p : Piece} (h : pieceR x first size n = .ok p) : p.data.length ≤ 104 ∧ p.num = n ∧ p.index < need p.bytes ∧ p.bytes ≤ 8192 := by
  unfold pieceR at h
  split at h
  · cases h
  · rename_i t ht
    split at h
    · cases h
    · rename_i hc
      split at h
      · injection h with h
        subst h
        have h1 : ¬ need (getN t 16 2) ≤ getN t 18 2 := fun e => hc (.inr e)
        have h2 : getN t 4 6 = n := Classical.byContradiction fun e => hc (.inl e)
        refine ⟨?_, h2, Nat.lt_of_not_le h1, ?_⟩
        · simp only [pieceOf, List.length_drop, List.length_take, pieceEnd]; omega
        · show getN t 16 2 ≤ 8192
          unfold need at h1
          split at h1
          · assumption
          · omega
      · cases h
theorem pieceR_err {x : Dsk} {first size n : Nat} {c : Int} (h : pieceR x first size n = .error c) : c ≠ 0 := by
  unfold pieceR at h
  split at h
  · rename_i e
    injection h with h
    subst h
    rcases sealedR_err e with rfl | rfl | rfl <;> decide
  · split at h
    · injection h with h; subst h; decide
    · split at h
      · cases h
      · injection h with h; subst h; decide
theorem recUp_len {x : Dsk} {first size n : Nat} {p0 : Piece} (h0 : p0.data.length ≤ 104) {k : Nat} {d : List Int} (h : recUp x first size n p0 k = .ok d) : d.length ≤ 104 * (k + 1) := by
  induction k generalizing d with
  | zero => injection h with h; subst h; omega
  | succ k ih =>
    unfold recUp at h
    split at h
    · cases h
    · rename_i d' hd'
      split at h
      · cases h
      · rename_i p hp
        split at h
        · cases h
        · injection h with h
          subst h
          have h1 := ih hd'
          have h2 := (pieceR_ok hp).1
          rw [List.length_append]
          omega
theorem need_pos (n : Nat) (h : n ≤ 8192) : 1 ≤ need n ∧ need n ≤ 79 := by
  unfold need
  rw [if_pos h]
  omega
set_option maxHeartbeats 2000000 in
set_option maxRecDepth 100000 in
theorem record_any (b : Bks) (x : Dsk) (first size n least most : Nat) (hn : n ≤ 9223372036854775807) (h1 : 2 < size) (h2 : first + size ≤ x.dur.length) (w : World) (h : DskAt w b x) (hk : x.ok) (hP : Pkg w) :
    Calls Tryz.prog 82 #[placeV b first size, .int .u64 n, .int .u64 least, .int .u64 most] w fun e w' => RecPost (recordR x first size n least most) w.heap.size e w' ∧ Below w.heap.size w w' := by
  have hb := below_box w (.cells #[.pointer (some ⟨b.d, 0, none⟩), .int .i64 first, .int .i64 size] 126)
  have g0 := World.alloc_heap_new w (.cells #[.pointer (some ⟨b.d, 0, none⟩), .int .i64 first, .int .i64 size] 126)
  have HI := Lib.hid fun w' (hw : Below w.heap.size w w') n' (hn' : n' < 18446744073709551616) => piece_any b x first size n' hn' h1 h2 w' (h.below hw) hk (hP.below hw)
  clear h hk hP
  unfold placeV at HI ⊢
  go_enter Tryz.func82, Tryz.ntmps82
  go_wp2_with fail
  generalize World.alloc w _ = w1 at hb g0 ⊢
  have c0 : w1.cell? ⟨w.heap.size, 0, none⟩ = some (.pointer (some ⟨b.d, 0, none⟩)) ∧ w1.cell? ⟨w.heap.size, 1, none⟩ = some (.int .i64 first) ∧ w1.cell? ⟨w.heap.size, 2, none⟩ = some (.int .i64 size) := by simp [World.cell?, g0]
  obtain ⟨p0, p1, p2⟩ := c0
  refine (HI.out w1 hb n (by omega)).mono ?_
  rintro e w2 ⟨hpost, hb2⟩
  have hB2 := hb.trans (hb2.mono hb.size)
  cases hr : pieceR x first size n with
  | error c =>
    rw [hr] at hpost
    obtain rfl : e = _ := hpost
    have Hr := Lib.hid (show recordR x first size n least most = .error c by unfold recordR; rw [hr])
    have hc0 := pieceR_err hr
    have hc : (c != 0) = true := by simp [hc0]
    clear hr
    go_wp2_with fail
    refine ⟨rfl, .tuple #[.slice none 0 0, .int .u64 0, .int .i64 c], by simp [results, Tryz.f82, go_sem], ?_, ?_⟩
    · rw [Hr.out]
      exact ⟨hc0, rfl⟩
    · exact hB2.alloc (by have := hB2.size; simpa using this) _
  | ok q =>
    rw [hr] at hpost
    obtain ⟨u, rfl, hw⟩ := hpost
    obtain ⟨ug, uo, ul, uc, rfl⟩ := hw.shape
    have hq := pieceR_ok hr
    have hnd := need_pos q.bytes hq.2.2.2
    have hrr : recordR x first size n least most = if q.index ≠ 0 ∨ q.epoch < least ∨ most < q.epoch then .error 50 else match recUp x first size n q (need q.bytes - 1) with
      | .error c => .error c
      | .ok d => .ok (d, q.epoch) := by unfold recordR; rw [hr]
    have HR := Lib.hid hrr
    clear hr hrr p0 p1 p2
    obtain ⟨qn, qe, qb, qi, qd⟩ := q
    simp only at hq hnd hw ⊢
    obtain ⟨hq1, rfl, hq3, hq4⟩ := hq
    have hw := hw.base hb.size
    obtain ⟨m, hm⟩ : ∃ m, w2.heap.size = m := ⟨_, rfl⟩
    have hs2 := hB2.size
    rw [hm] at hs2
    have g0 := below_heap hb2 g0
    have g3 := World.alloc_heap_new w2 (.cells #[.int .u64 qn, .int .u64 qe, .int .i64 qb, .int .i64 qi, .slice (some ⟨ug, uo, none⟩) ul uc] 138)
    have hb3 := below_box w2 (.cells #[.int .u64 qn, .int .u64 qe, .int .i64 qb, .int .i64 qi, .slice (some ⟨ug, uo, none⟩) ul uc] 138)
    have g0 := below_heap hb3 g0
    have hw3 := hw.below hb3
    clear hw
    have hB3 := below_trans hB2 hb3
    rw [hm] at g3
    obtain ⟨k0, k1, k2, k3, k4⟩ := box5 g3
    by_cases c1 : qi = 0
    · subst c1
      by_cases c2 : qe < least
      · have c2' : (qe : Int) < (least : Int) := by omega
        have Hr := Lib.hid (HR.out.trans (if_pos (.inr (.inl c2))))
        go_wp2_with fail
        refine ⟨rfl, .tuple #[.slice none 0 0, .int .u64 0, .int .i64 50], by simp [results, Tryz.f82, go_sem], ?_, hB3⟩
        rw [Hr.out]
        exact ⟨by decide, rfl⟩
      · have c2' : ¬ (qe : Int) < (least : Int) := by omega
        by_cases c3 : most < qe
        · have c3' : (most : Int) < (qe : Int) := by omega
          have Hr := Lib.hid (HR.out.trans (if_pos (.inr (.inr c3))))
          go_wp2_with fail
          refine ⟨rfl, .tuple #[.slice none 0 0, .int .u64 0, .int .i64 50], by simp [results, Tryz.f82, go_sem], ?_, hB3⟩
          rw [Hr.out]
          exact ⟨by decide, rfl⟩
        · have c3' : ¬ (most : Int) < (qe : Int) := by omega
          have hrr := HR.out.trans (if_neg (by rintro (h | h | h); exact h rfl; exact c2 h; exact c3 h))
          simp only at hrr
          have Hr := Lib.hid hrr
          clear hrr HR
          go_wp2_with fail
          obtain ⟨q0, hq0⟩ : ∃ q0 : Piece, (⟨qn, qe, qb, 0, qd⟩ : Piece) = q0 := ⟨_, rfl⟩
          have HQ := Lib.hid (show q0.bytes = qb ∧ q0.epoch = qe ∧ q0.data = qd by rw [← hq0]; exact ⟨rfl, rfl, rfl⟩)
          rw [hq0] at Hr
          clear hq0 k0 k1 k2 k3 k4
          generalize World.alloc w2 _ = w3 at g3 g0 hb3 hB3 hw3 ⊢
          clear hb2 hB2 hb3
          go_loopw [8, 12] (fun vr vi wr => ∃ (i : Nat) (d : List Int), vi = .int .i64 i ∧ 1 ≤ i ∧ i ≤ need qb ∧ recUp x first size qn q0 (i - 1) = .ok d ∧ Win wr w.heap.size vr (u8s d) ∧ Below w.heap.size w wr ∧
            wr.heap[w.heap.size]? = some (.cells #[.pointer (some ⟨b.d, 0, none⟩), .int .i64 first, .int .i64 size] 126 (0, 0)) ∧ wr.heap[m]? = some (.cells #[.int .u64 qn, .int .u64 qe, .int .i64 qb, .int .i64 0, .slice (some ⟨ug, uo, none⟩) ul uc] 138 (0, 0))) (fun _ vi _ => 100 - (intOf vi).toNat)
          case atStart => exact ⟨1, qd, rfl, Nat.le_refl _, hnd.1, by rw [← HQ.out.2.2]; rfl, hw3, hB3, g0, g3⟩
          case round =>
            obtain ⟨i, d, rfl, hi1, hi2, hd, hwr, hB, e0, e3⟩ := hrel
            clear hw3 hB3 g0 g3
            obtain ⟨j, rfl⟩ : ∃ j, i = j + 1 := ⟨i - 1, by omega⟩
            rw [Nat.add_sub_cancel] at hd
            have hj : j + 1 ≤ 79 := by omega
            obtain ⟨k0, k1, k2, k3, k4⟩ := box5 e3
            have p0 : wr.cell? ⟨w.heap.size, 0, none⟩ = some (.pointer (some ⟨b.d, 0, none⟩)) ∧ wr.cell? ⟨w.heap.size, 1, none⟩ = some (.int .i64 first) ∧ wr.cell? ⟨w.heap.size, 2, none⟩ = some (.int .i64 size) := by simp [World.cell?, e0]
            obtain ⟨p0, p1, p2⟩ := p0
            have HN := Lib.hid (need_any qb (by omega) wr)
            have Hwr := Lib.hid hwr; clear hwr
            have Hd := Lib.hid hd; clear hd
            by_cases hlt : j + 1 < need qb
            · have hii : (((j + 1 : Nat) : Int)) < (need qb : Int) := by omega
              go_wp2_with fail
              refine HN.out.mono ?_
              rintro e w' ⟨rfl, rfl⟩
              clear HN
              go_wp2_with fail
              rw [show (qn : Int) + ((j : Int) + 1) = ((qn + (j + 1) : Nat) : Int) by omega]
              refine (HI.out wr hB (qn + (j + 1)) (by omega)).mono ?_
              rintro e w4 ⟨hpost, hb4⟩
              have hB4 := hB.trans (hb4.mono hB.size)
              have hstep : recUp x first size qn q0 (j + 1) = match pieceR x first size (qn + (j + 1)) with
                | .error c => .error c
                | .ok p => if p.index ≠ j + 1 ∨ p.bytes ≠ q0.bytes ∨ p.epoch ≠ q0.epoch then .error 50 else .ok (d ++ p.data) := by
                show (match recUp x first size qn q0 j with | .error c => _ | .ok d => _) = _
                rw [Hd.out]
              rw [HQ.out.1, HQ.out.2.1] at hstep
              cases hr2 : pieceR x first size (qn + (j + 1)) with
              | error c =>
                rw [hr2] at hpost hstep
                obtain rfl : e = _ := hpost
                have hc0 := pieceR_err hr2
                have hc : (c != 0) = true := by simp [hc0]
                have Hr2 := Lib.hid (show recordR x first size qn least most = .error c by rw [Hr.out, recUp_err hstep (show j + 1 ≤ need qb - 1 by omega)])
                have hs4 := hB4.size
                clear hr2 hstep
                go_wp2_with fail
                refine ⟨rfl, .tuple #[.slice none 0 0, .int .u64 0, .int .i64 c], by simp [results, Tryz.f82, go_sem], ?_, hB4.alloc hs4 _⟩
                rw [Hr2.out]
                exact ⟨hc0, rfl⟩
              | ok p =>
                rw [hr2] at hpost hstep
                have hp := pieceR_ok hr2
                have hdl := recUp_len (by rw [HQ.out.2.2]; exact hq1) Hd.out
                obtain ⟨pn, pe, pb, pi, pd⟩ := p
                obtain ⟨u, rfl, hw5⟩ := hpost
                obtain ⟨vg, vo, vl, vc, rfl⟩ := hw5.shape
                simp only at hstep hw5 hp ⊢
                have hpd := hp.1
                have hpb := hp.2.2.2
                have hpi := hp.2.2.1
                have hpn := (need_pos pb hpb).2
                have hm2 : m < w4.heap.size := Nat.lt_of_lt_of_le (block_lt_of_heap e3) hb4.size
                have e0 := below_heap hb4 e0
                have e3 := below_heap hb4 e3
                have hwr := Hwr.out.below hb4
                have hb5 := below_box w4 (.cells #[.int .u64 pn, .int .u64 pe, .int .i64 pb, .int .i64 pi, .slice (some ⟨vg, vo, none⟩) vl vc] 138)
                have e5 := World.alloc_heap_new w4 (.cells #[.int .u64 pn, .int .u64 pe, .int .i64 pb, .int .i64 pi, .slice (some ⟨vg, vo, none⟩) vl vc] 138)
                have e0 := below_heap hb5 e0
                have e3 := below_heap hb5 e3
                have hwr := hwr.below hb5
                have hw5 := hw5.below hb5
                have hB5 := below_trans hB4 hb5
                obtain ⟨n0, n1, n2, n3, n4⟩ := box5 e5
                obtain ⟨k0, k1, k2, k3, k4⟩ := box5 e3
                have Hwr5 := Lib.hid (And.intro hwr hw5)
                clear hr2 hp hwr hw5 Hwr
                by_cases c1 : pi = j + 1
                · by_cases c4 : pb = qb
                  · by_cases c5 : pe = qe
                    · have c5' : ((pe : Int) != (qe : Int)) = false := by rw [bne_eq_false_iff_eq]; omega
                      have c4' : ((pb : Int) != (qb : Int)) = false := by rw [bne_eq_false_iff_eq]; omega
                      have c1' : ((pi : Int) != ((j : Int) + 1)) = false := by rw [bne_eq_false_iff_eq]; omega
                      rw [if_neg (by rintro (h | h | h); exact h c1; exact h c4; exact h c5)] at hstep
                      have Hst := Lib.hid hstep
                      obtain ⟨v', w6, hrun, hw6, hb6, hkeep⟩ := run_win_append Hwr5.out.1 ⟨_, _, _, rfl⟩ Hwr5.out.2.src (u8s_one _) (by rw [u8s_length, u8s_length]; omega) hB5.size 52
                      have hB6 := hB5.trans hb6
                      have e0 := hkeep _ _ e0 (by intro L h; injection h with _ h; exact absurd h (by decide))
                      have e3 := hkeep _ _ e3 (by intro L h; injection h with _ h; exact absurd h (by decide))
                      rw [← u8s_append] at hw6
                      have HE := Lib.hid (And.intro hw6 (And.intro hB6 (And.intro e0 e3)))
                      have hne : j + 2 ≤ need qb := by omega
                      have Hne := Lib.hid hne
                      have Hrun := Lib.hid hrun
                      clear c1 c4 c5 hstep hw6 hB6 e0 e3 hb6 hkeep Hwr5 hB5 HI hne hrun
                      go_wp2_with (at_builtin; go_loud (refine wpList_value rfl (exec_append (.tmp 78) (.tmp 80) 52 52 rfl Hrun.out) ?_))
                      refine ⟨⟨j + 2, d ++ pd, by simp; omega, by omega, Hne.out, Hst.out, HE.out.1, HE.out.2.1, HE.out.2.2.1, HE.out.2.2.2⟩, ?_⟩
                      show 100 - ((j : Int) + 1 + 1).toNat < 100 - ((j : Int) + 1).toNat
                      omega
                    · have c5' : ((pe : Int) != (qe : Int)) = true := by rw [bne_iff_ne]; omega
                      have c4' : ((pb : Int) != (qb : Int)) = false := by rw [bne_eq_false_iff_eq]; omega
                      have c1' : ((pi : Int) != ((j : Int) + 1)) = false := by rw [bne_eq_false_iff_eq]; omega
                      rw [if_pos (.inr (.inr c5))] at hstep
                      clear c1 c4 c5
                      have Hr2 := Lib.hid (show recordR x first size qn least most = .error 50 by rw [Hr.out, recUp_err hstep (show j + 1 ≤ need qb - 1 by omega)])
                      clear hstep
                      go_wp2_with fail
                      refine ⟨rfl, .tuple #[.slice none 0 0, .int .u64 0, .int .i64 50], by simp [results, Tryz.f82, go_sem], ?_, hB5⟩
                      rw [Hr2.out]
                      exact ⟨by decide, rfl⟩
                  · have c4' : ((pb : Int) != (qb : Int)) = true := by rw [bne_iff_ne]; omega
                    have c1' : ((pi : Int) != ((j : Int) + 1)) = false := by rw [bne_eq_false_iff_eq]; omega
                    rw [if_pos (.inr (.inl c4))] at hstep
                    clear c1 c4
                    have Hr2 := Lib.hid (show recordR x first size qn least most = .error 50 by rw [Hr.out, recUp_err hstep (show j + 1 ≤ need qb - 1 by omega)])
                    clear hstep
                    go_wp2_with fail
                    refine ⟨rfl, .tuple #[.slice none 0 0, .int .u64 0, .int .i64 50], by simp [results, Tryz.f82, go_sem], ?_, hB5⟩
                    rw [Hr2.out]
                    exact ⟨by decide, rfl⟩
                · have c1' : ((pi : Int) != ((j : Int) + 1)) = true := by rw [bne_iff_ne]; omega
                  rw [if_pos (.inl c1)] at hstep
                  clear c1
                  have Hr2 := Lib.hid (show recordR x first size qn least most = .error 50 by rw [Hr.out, recUp_err hstep (show j + 1 ≤ need qb - 1 by omega)])
                  clear hstep
                  go_wp2_with fail
                  refine ⟨rfl, .tuple #[.slice none 0 0, .int .u64 0, .int .i64 50], by simp [results, Tryz.f82, go_sem], ?_, hB5⟩
                  rw [Hr2.out]
                  exact ⟨by decide, rfl⟩
            · have hjn : need qb - 1 = j := by omega
              have hii : ¬ (((j + 1 : Nat) : Int)) < (need qb : Int) := by omega
              have Hr2 := Lib.hid (show recordR x first size qn least most = .ok (d, qe) by rw [Hr.out, hjn, Hd.out])
              clear hjn HI
              go_wp2_with fail
              refine HN.out.mono ?_
              rintro e w' ⟨rfl, rfl⟩
              clear HN
              go_wp2_with fail
              refine wp_region_rg (fun _ => none) fol (by kernel_rfl) (fun W hW hh => ?_)
              clear hh
              have q1 := rcell hW k1
              repeat ((first | refine lex_move _ (by first | exact Or.inl rfl | exact Or.inr rfl) rfl rfl ?_ | (refine lex_float ?_ rfl rfl (fun w1 hb1 hf1 => ?_) ?_; rotate_left; (go_simp; (try simp (disch := omega) only [IntWalk.i64_quo, IntWalk.rem_in, IntWalk.i64_in, IntWalk.u64_in, IntWalk.u32_in, IntWalk.u8_in, IntWalk.toNatUp, IntWalk.iteOmega]); (try go_simp); rfl)) | refine lex_skip rfl ?_); simp only [Act.put, Act.eval, Array.getD_eq_getD_getElem?, List.getElem?_toArray, List.getElem?_cons_zero, List.getElem?_cons_succ, Option.getD_some, List.setIfInBounds_toArray, List.set_cons_succ, List.set_cons_zero])
              refine lex_nil ?_
              have hwW := Hwr.out.below hW
              have hBW := below_trans hB hW
              clear q1
              go_wp2_with fail
              refine ⟨rfl, .tuple #[_, .int .u64 qe, .int .i64 0], by simp [results, Tryz.f82, go_sem]; rfl, ?_, hBW⟩
              rw [Hr2.out]
              exact ⟨_, rfl, hwW⟩
    · have c1' : ((qi : Int) != 0) = true := by rw [bne_iff_ne]; omega
      have Hr := Lib.hid (HR.out.trans (if_pos (.inl c1)))
      go_wp2_with fail
      refine ⟨rfl, .tuple #[.slice none 0 0, .int .u64 0, .int .i64 50], by simp [results, Tryz.f82, go_sem], ?_, hB3⟩
      rw [Hr.out]
      exact ⟨by decide, rfl⟩
end Go.Proofs.YtbjofbhhnmehgaaGreatDoor.TT
namespace Go.Proofs.YtbjofbhhnmehgaaGreatDoor.TT
open Go.RowKit Go.RG Go.Hp Go.Proofs.YtbjofbhhnmehgaaGreatDoor


/-- numbers, as the machine holds them -/
def nums (l : List Nat) : List Value := l.map fun (n : Nat) => .int .u64 (n : Int)
theorem nums_length (l : List Nat) : (nums l).length = l.length := by simp [nums]
theorem nums_one (l : List Nat) : ∀ u ∈ nums l, u.oneCell' = true := by
  intro u hu
  obtain ⟨b, -, rfl⟩ := List.mem_map.1 hu
  rfl
theorem nums_get {l : List Nat} {i : Nat} {n : Nat} (h : l[i]? = some n) : (nums l)[i]? = some (.int .u64 n) := by simp [nums, h]
/-- how many are below -/
def posU (l : List Nat) (x : Nat) : Nat := l.countP fun y => decide (y < x)
theorem posU_unique : ∀ {l : List Nat} {x i : Nat} (_ : i ≤ l.length) (_ : ∀ q n, q < i → l[q]? = some n → n < x) (_ : ∀ q n, i ≤ q → l[q]? = some n → x ≤ n), posU l x = i
  | [], x, i, hi, _, _ => by simp at hi; subst hi; rfl
  | y :: l, x, 0, _, _, h2 => by
    have h0 := h2 0 y (Nat.le_refl _) rfl
    have := posU_unique (l := l) (x := x) (i := 0) (Nat.zero_le _) (fun q n hq => absurd hq (Nat.not_lt_zero _)) (fun q n _ hn => h2 (q + 1) n (Nat.zero_le _) (by simpa using hn))
    unfold posU at this ⊢
    rw [List.countP_cons_of_neg (by simp; omega), this]
  | y :: l, x, i + 1, hi, h1, h2 => by
    have h0 := h1 0 y (Nat.succ_pos _) rfl
    have := posU_unique (l := l) (x := x) (i := i) (by simpa using hi) (fun q n hq hn => h1 (q + 1) n (by omega) (by simpa using hn)) (fun q n hq hn => h2 (q + 1) n (by omega) (by simpa using hn))
    unfold posU at this ⊢
    rw [List.countP_cons_of_pos (by simpa using h0), this]
theorem isNaN_any (x : Nat) (w : World) : Calls Tryz.prog 120 #[.int .u64 x] w fun e w' => e = .returned (.bool false) ∧ w = w' := by
  have h1 : ((x : Int) != (x : Int)) = false := by simp
  go_enter Tryz.func120, Tryz.ntmps120
  go_wp2_with fail
  go_ret
  exact ⟨rfl, rfl⟩
theorem cisNaN_any (x : Nat) (w : World) : Calls Tryz.prog 139 #[.int .u64 x] w fun e w' => e = .returned (.bool false) ∧ w = w' := by
  have h1 : ((x : Int) != (x : Int)) = false := by simp
  go_enter Tryz.func139, Tryz.ntmps139
  go_wp2_with fail
  go_ret
  exact ⟨rfl, rfl⟩
theorem less_any (x y : Nat) (w : World) : Calls Tryz.prog 119 #[.int .u64 x, .int .u64 y] w fun e w' => e = .returned (.bool (decide (x < y))) ∧ w = w' := by
  have L := cisNaN_any
  go_enter Tryz.func119, Tryz.ntmps119
  go_wp2_with (go_at_call 139; refine (L _ _).mono ?_; rintro e w2 ⟨rfl, rfl⟩)
  go_ret
  exact ⟨rfl, rfl⟩
theorem rising_at {l : List Nat} (h : l.Pairwise (· < ·)) {i j a b : Nat} (hij : i < j) (ha : l[i]? = some a) (hb : l[j]? = some b) : a < b := by
  obtain ⟨hi, rfl⟩ := List.getElem?_eq_some_iff.1 ha
  obtain ⟨hj, rfl⟩ := List.getElem?_eq_some_iff.1 hb
  exact List.pairwise_iff_getElem.1 h i j hi hj hij
set_option maxHeartbeats 1000000 in
set_option maxRecDepth 100000 in
theorem search_any (v : Value) (l : List Nat) (hr : l.Pairwise (· < ·)) (x : Nat) (w : World) (hv : Src w v (nums l)) (hl : l.length ≤ 1099511627776) :
    Calls Tryz.prog 91 #[v, .int .u64 x] w fun e w' => e = .returned (.tuple #[.int .i64 (posU l x), .bool (decide (x ∈ l))]) ∧ Below w.heap.size w w' := by
  have L := less_any
  have L2 := isNaN_any
  obtain ⟨n, hn⟩ : ∃ n, l.length = n := ⟨_, rfl⟩
  obtain ⟨a, c, rfl, -⟩ := hv.shape
  rw [nums_length, hn] at hv ⊢
  rw [hn] at hl
  have Hn := Lib.hid hn; clear hn
  have hcell : ∀ (i : Nat), i < n → ∃ g o, a = some ⟨g, o, none⟩ ∧ ∀ W, Below w.heap.size w W → W.cell? ⟨g, o + i, none⟩ = some (.int .u64 ((l.getD i 0 : Nat) : Int)) := fun i hi => by
    rcases hv with ⟨g, o, c', e1, -, h⟩ | ⟨e1, e2⟩
    · injection e1 with e1 _ _
      refine ⟨g, o, e1, fun W hW => below_cell hW (h i _ (nums_get ?_))⟩
      rw [List.getD_eq_getElem?_getD, List.getElem?_eq_getElem (by rw [Hn.out]; exact hi)]
      rfl
    · injection e1 with e1 e3 _
      subst e3
      omega
  have Hc := Lib.hid hcell; clear hcell hv
  have hget : ∀ (i : Nat), i < n → l[i]? = some (l.getD i 0) := fun i hi => by
    rw [List.getD_eq_getElem?_getD, List.getElem?_eq_getElem (by rw [Hn.out]; exact hi)]; rfl
  have Hg := Lib.hid hget; clear hget
  go_enter Tryz.func91, Tryz.ntmps91
  go_wp2_with fail
  go_loopw [7, 8] (fun vi vj wr => ∃ i j : Nat, vi = .int .i64 i ∧ vj = .int .i64 j ∧ i ≤ j ∧ j ≤ n ∧ (∀ q y, q < i → l[q]? = some y → y < x) ∧ (∀ q y, j ≤ q → l[q]? = some y → x ≤ y) ∧ Below w.heap.size w wr)
    (fun vi vj _ => (intOf vj).toNat - (intOf vi).toNat)
  case atStart => exact ⟨0, n, rfl, rfl, by omega, by omega, fun q y hq _ => absurd hq (Nat.not_lt_zero _), fun q y hq hy => (by rw [List.getElem?_eq_none (by rw [Hn.out]; exact hq)] at hy; cases hy), Below.refl _ _⟩
  case round =>
    obtain ⟨i, j, rfl, rfl, hij, hjn, hlo, hhi, hB⟩ := hrel
    have Hlo := Lib.hid hlo; clear hlo
    have Hhi := Lib.hid hhi; clear hhi
    by_cases hlt : i < j
    · obtain ⟨h, hh1, hh2, hhe⟩ : ∃ h : Nat, i ≤ h ∧ h < j ∧ ((i : Int) + (j : Int)) / 2 = (h : Int) := ⟨(i + j) / 2, by omega, by omega, by omega⟩
      obtain ⟨g, o, rfl, hc⟩ := Hc.out h (by omega)
      replace hc := hc wr hB
      have hhn : (h : Int) < (n : Int) := by omega
      obtain ⟨y, hy⟩ : ∃ y, l.getD h 0 = y := ⟨_, rfl⟩
      have hgy := Hg.out h (by omega)
      rw [hy] at hc hgy
      have Hy := Lib.hid hgy; clear hgy hy
      by_cases hyx : y < x
      · go_wp2_with (first | (rw [hhe]) | (go_at_call 119; refine (L _ _ _).mono ?_; rintro e w2 ⟨rfl, rfl⟩))
        refine ⟨⟨h + 1, j, by simp, rfl, by omega, by omega, fun q z hq hz => ?_, Hhi.out, hB⟩, by simp [intOf]; omega⟩
        rcases Nat.lt_or_ge q h with hq1 | hq1
        · exact Nat.lt_trans (rising_at hr hq1 hz Hy.out) hyx
        · obtain rfl : q = h := by omega
          rw [Hy.out] at hz
          injection hz with hz
          omega
      · go_wp2_with (first | (rw [hhe]) | (go_at_call 119; refine (L _ _ _).mono ?_; rintro e w2 ⟨rfl, rfl⟩))
        refine ⟨⟨i, h, rfl, rfl, by omega, by omega, Hlo.out, fun q z hq hz => ?_, hB⟩, by simp [intOf]; omega⟩
        rcases Nat.lt_or_ge h q with hq1 | hq1
        · have := rising_at hr hq1 Hy.out hz
          omega
        · obtain rfl : q = h := by omega
          rw [Hy.out] at hz
          injection hz with hz
          omega
    · obtain rfl : j = i := by omega
      have hrank : posU l x = j := posU_unique (by rw [Hn.out]; exact hjn) Hlo.out Hhi.out
      have Hrank := Lib.hid hrank; clear hrank
      by_cases hin : j < n
      · obtain ⟨g, o, rfl, hc⟩ := Hc.out j hin
        replace hc := hc wr hB
        have hhn : (j : Int) < (n : Int) := by omega
        obtain ⟨y, hy⟩ : ∃ y, l.getD j 0 = y := ⟨_, rfl⟩
        have hgy := Hg.out j (by omega)
        rw [hy] at hc hgy
        have Hy := Lib.hid hgy; clear hgy hy
        by_cases hyx : y = x
        · have hm : decide (x ∈ l) = true := by rw [decide_eq_true_iff, ← hyx]; exact List.mem_of_getElem? Hy.out
          have Hm := Lib.hid hm; clear hm
          subst hyx
          go_wp2_with (go_at_call 120; refine (L2 _ _).mono ?_; rintro e w2 ⟨rfl, rfl⟩)
          go_ret2
          rw [Hrank.out, Hm.out]
          exact ⟨rfl, hB⟩
        · have hyx' : ((y : Int) == (x : Int)) = false := by rw [beq_eq_false_iff_ne]; omega
          have hm : decide (x ∈ l) = false := by
            rw [decide_eq_false_iff_not]
            intro hx
            obtain ⟨q, hq⟩ := List.mem_iff_getElem?.1 hx
            have h1 := Hhi.out j y (Nat.le_refl _) Hy.out
            rcases Nat.lt_trichotomy q j with h2 | h2 | h2
            · exact absurd (Hlo.out q x h2 hq) (Nat.lt_irrefl _)
            · subst h2
              rw [Hy.out] at hq
              injection hq with hq
              exact hyx hq
            · have := rising_at hr h2 Hy.out hq
              omega
          have Hm := Lib.hid hm; clear hm
          go_wp2_with (go_at_call 120; refine (L2 _ _).mono ?_; rintro e w2 ⟨rfl, rfl⟩)
          go_ret2
          rw [Hrank.out, Hm.out]
          exact ⟨rfl, hB⟩
      · have hm : decide (x ∈ l) = false := by
          rw [decide_eq_false_iff_not]
          intro hx
          obtain ⟨q, hq⟩ := List.mem_iff_getElem?.1 hx
          have h3 := (List.getElem?_eq_some_iff.1 hq).1
          rw [Hn.out] at h3
          exact absurd (Hlo.out q x (by omega) hq) (Nat.lt_irrefl _)
        have Hm := Lib.hid hm; clear hm
        have hhn : ¬ (j : Int) < (n : Int) := by omega
        go_wp2_with (go_at_call 120; refine (L2 _ _).mono ?_; rintro e w2 ⟨rfl, rfl⟩)
        go_ret2
        rw [Hrank.out, Hm.out]
        exact ⟨rfl, hB⟩
end Go.Proofs.YtbjofbhhnmehgaaGreatDoor.TT
