/-
  is: does the table tell just these pairs?
-/
import Derived.Test.YtbjofbhhnmehgaaGreatDoorCKNz9
import Derived.Test.YtbjofbhhnmehgaaGreatDoorCards
import Derived.Test.YtbjofbhhnmehgaaGreatDoorTie
import Derived.Lib.LaidTab
import Derived.OpenShut
import Derived.LaidSub
import Derived.Test.YtbjofbhhnmehgaaGreatDoorRows
import Derived.WalkKit
import Derived.ProofKit
import Derived.JoinedCond
import Derived.Deep.DeepHandedRow
set_option linter.unusedSimpArgs false
set_option linter.unusedVariables false
namespace Go.Proofs.YtbjofbhhnmehgaaGreatDoor.TT
open Go.RowKit Go.RG Go.Hp Go.Proofs.YtbjofbhhnmehgaaGreatDoor


attribute [local go_sem] Oper.semAt_some
/-- what stands between rounds -/
structure IsI (w5 : World) (B1 B2 : Nat) (ts ps : List Pr) (pre : List (Value × Value)) (W : World) : Prop where
  below : Below B1 w5 W
  eq : ts.take pre.length = ps.take pre.length
  len : pre.length ≤ ts.length ∧ pre.length ≤ ps.length
  one : W.heap[B1]? = some (.cells #[.bool false] 4 (0, 0))
  two : W.heap[B2]? = some (.cells #[.int .i64 pre.length] 3 (0, 0))
theorem IsI.box {w5 W : World} {B1 B2 : Nat} {ts ps : List Pr} {pre : List (Value × Value)} (h : IsI w5 B1 B2 ts ps pre W) : BoxInv B1 B2 W :=
  ⟨⟨_, _, h.one, fun j hj => by cases hj⟩, ⟨_, _, h.two, fun j hj => by cases hj⟩⟩
theorem grown_below {w5 A B : World} {B1 : Nat} {row : Option Nat} (hB : B1 ≤ w5.heap.size) (h1 : Below B1 w5 A) (hg : A.grownBy B row) (hr : ∀ r, row = some r → w5.heap.size ≤ r) : Below B1 w5 B :=
  ⟨hg.os.trans h1.os, hg.tape.trans h1.tape, hg.output.trans h1.output, Nat.le_trans h1.size hg.size, fun k hk => (hg.block k (Nat.lt_of_lt_of_le (Nat.lt_of_lt_of_le hk hB) h1.size) fun e => by have := hr k e.symm; omega).trans (h1.block k hk)⟩
theorem isI_own {w5 : World} {B1 B2 : Nat} {ts ps : List Pr} (hB : B1 ≤ w5.heap.size) : OwnFrom w5.heap.size (IsI w5 B1 B2 ts ps) := by
  rintro pre A B row ⟨h1, h2, h3, h4, h5⟩ hg hr
  have hX := grown_ext hg fun r e => (hr r e).2
  have hc1 : CellsB A B1 := ⟨_, h4, rfl⟩
  have hc2 : CellsB A B2 := ⟨_, h5, rfl⟩
  exact ⟨grown_below hB h1 hg fun r e => (hr r e).1, h2, h3, (hX.block _ hc1.lt (fun h => h hc1)).trans h4, (hX.block _ hc2.lt (fun h => h hc2)).trans h5⟩
/-- the way out of the midst of the loop -/
structure IsX (w5 : World) (B1 : Nat) (ts ps : List Pr) (W : World) : Prop where
  below : Below B1 w5 W
  ne : ts ≠ ps
  one : W.heap[B1]? = some (.cells #[.bool false] 4 (0, 0))
theorem isX_own {w5 : World} {B1 : Nat} {ts ps : List Pr} (hB : B1 ≤ w5.heap.size) (c : Code) : OwnFrom w5.heap.size (fun (_ : List (Value × Value)) W => c = .ret ∧ IsX w5 B1 ts ps W) := by
  rintro pre A B row ⟨rfl, h1, h2, h4⟩ hg hr
  have hX := grown_ext hg fun r e => (hr r e).2
  have hc1 : CellsB A B1 := ⟨_, h4, rfl⟩
  exact ⟨rfl, grown_below hB h1 hg fun r e => (hr r e).1, h2, (hX.block _ hc1.lt (fun h => h hc1)).trans h4⟩
/-- what the body is told -/
def IsO (w5 : World) (B1 B2 : Nat) (ts : List Pr) (pre : List (Value × Value)) (x : Value × Value) (W : World) : Prop :=
  BoxInv B1 B2 W ∧ ∃ p, ts[pre.length]? = some p ∧ Src W x.1 (u8s p.1) ∧ Src W x.2 (u8s p.2) ∧ ∀ j, x.1.ownBlock = some j ∨ x.2.ownBlock = some j → BoxPr B1 B2 W j
theorem isO_own {w5 : World} {B1 B2 : Nat} {ts : List Pr} {pre : List (Value × Value)} {x : Value × Value} : OwnFrom w5.heap.size (fun (_ : Unit) W => IsO w5 B1 B2 ts pre x W) := by
  rintro - A B row ⟨h0, p, h1, h2, h3, h4⟩ hg hr
  have hX := grown_ext hg fun r e => (hr r e).2
  obtain ⟨k1, k2⟩ := (guard_box B1 B2).grown A B row h0 hg fun r e => (hr r e).2
  exact ⟨k1, p, h1, src_ext h2 hX fun j hj h => h (h4 j (.inl hj)).1, src_ext h3 hX fun j hj h => h (h4 j (.inr hj)).1, fun j hj => (k2 j (h4 j hj)).1⟩
theorem isI_step {w5 W U : World} {B1 B2 : Nat} {ts ps : List Pr} {pre : List (Value × Value)} {x : Value × Value} {p : Pr} {X : Nat → Prop} (hB12 : B1 < B2) (hB2 : B2 < w5.heap.size) (hI : IsI w5 B1 B2 ts ps pre W) (h1 : ts[pre.length]? = some p) (h2 : ps[pre.length]? = some p) (hU : Below W.heap.size W U) :
    KeepsFrom w5.heap.size W (U.setCell ⟨B2, 0, none⟩ (.int .i64 ((pre.length : Int) + 1))) ∧ KeepX (BoxInv B1 B2) (BoxPr B1 B2) X W (U.setCell ⟨B2, 0, none⟩ (.int .i64 ((pre.length : Int) + 1))) ∧ IsI w5 B1 B2 ts ps (pre ++ [x]) (U.setCell ⟨B2, 0, none⟩ (.int .i64 ((pre.length : Int) + 1))) := by
  have hX1 : Ext (· = B2) U (U.setCell ⟨B2, 0, none⟩ (.int .i64 ((pre.length : Int) + 1))) := Ext.setCell (S := (· = B2)) (p := ⟨B2, 0, none⟩) rfl _
  have t2 := heap_cell (j := 0) (below_heap hU hI.two) (.int .i64 ((pre.length : Int) + 1))
  generalize U.setCell ⟨B2, 0, none⟩ (.int .i64 ((pre.length : Int) + 1)) = V at *
  have hX : Ext (· = B2) W V := (Ext.of_below hU).trans hX1 fun _ _ h => h
  have hw5 := hI.below.size
  have hB1W := block_lt_of_heap hI.one
  have hB2W := block_lt_of_heap hI.two
  have t1 := (hX.block _ hB1W (by omega)).trans hI.one
  have hnew : IsI w5 B1 B2 ts ps (pre ++ [x]) V := by
    refine ⟨?_, ?_, ?_, t1, ?_⟩
    · exact hI.below.trans ⟨hX.os, hX.tape, hX.output, hX.size, fun k hk => hX.block k (by omega) (by omega)⟩
    · rw [List.length_append, List.length_singleton, List.take_add_one, List.take_add_one, h1, h2, hI.eq]
    · have := (List.getElem?_eq_some_iff.1 h1).1
      have := (List.getElem?_eq_some_iff.1 h2).1
      simp
      omega
    · rw [t2]
      simp
  refine ⟨⟨hX.size, fun k o hk ho hc => (hX.block k (block_lt_of_heap ho) (by omega)).trans ho⟩, ⟨fun _ => hnew.box, hX.size, fun h0 k hk _ => ?_⟩, hnew⟩
  obtain ⟨h3, h4, h5, h6⟩ := hk
  have hkk := hX.block k h3.lt h5
  refine ⟨⟨by obtain ⟨o, h7, h8⟩ := h3; exact ⟨o, hkk.trans h7, h8⟩, h4, h5, fun v hv => ?_⟩, hkk⟩
  rcases hv with hv | hv
  · have : V.cell? ⟨B1, 0, none⟩ = some (.bool false) := by simp [World.cell?, t1]
    rw [this] at hv
    injection hv with hv
    subst hv
    exact fun e => by cases e
  · have : V.cell? ⟨B2, 0, none⟩ = some (.int .i64 ((pre.length : Int) + 1)) := by simp [World.cell?, t2]
    rw [this] at hv
    injection hv with hv
    subst hv
    exact fun e => by cases e
theorem isX_step {w5 W U : World} {B1 B2 : Nat} {ts ps : List Pr} {pre : List (Value × Value)} (hB12 : B1 < B2) (hB2 : B2 < w5.heap.size) (hI : IsI w5 B1 B2 ts ps pre W) (hne : ts ≠ ps) (hU : Below W.heap.size W U) :
    KeepsFrom w5.heap.size W (U.setCell ⟨B1, 0, none⟩ (.bool false)) ∧ IsX w5 B1 ts ps (U.setCell ⟨B1, 0, none⟩ (.bool false)) := by
  have hX1 : Ext (· = B1) U (U.setCell ⟨B1, 0, none⟩ (.bool false)) := Ext.setCell (S := (· = B1)) (p := ⟨B1, 0, none⟩) rfl _
  have t2 := heap_cell (j := 0) (below_heap hU hI.one) (.bool false)
  generalize U.setCell ⟨B1, 0, none⟩ (.bool false) = V at *
  have hX : Ext (· = B1) W V := (Ext.of_below hU).trans hX1 fun _ _ h => h
  have hw5 := hI.below.size
  exact ⟨⟨hX.size, fun k o hk ho hc => (hX.block k (block_lt_of_heap ho) (by omega)).trans ho⟩, hI.below.trans ⟨hX.os, hX.tape, hX.output, hX.size, fun k hk => hX.block k (by omega) (by omega)⟩, hne, t2⟩
theorem valP_mem {ps : List Pr} {p : Pr} (hr : KRising (keysP ps)) (hp : p ∈ ps) : valP ps p.1 = p.2 := by
  have hk : p.1 ∈ keysP ps := List.mem_map_of_mem hp
  obtain ⟨v, h1, h2, h3⟩ := pair_at hr hk
  rw [h3]
  obtain ⟨i, hi, hpi⟩ := List.mem_iff_getElem.1 hp
  obtain ⟨j, hj, hpj⟩ := List.mem_iff_getElem.1 h2
  have hnd := krising_nodup hr
  have key : i = j := by
    refine (List.getElem_inj (h₀ := by unfold keysP; rw [List.length_map]; exact hi) (h₁ := by unfold keysP; rw [List.length_map]; exact hj) hnd).1 ?_
    simp only [keysP, List.getElem_map, hpi, hpj]
  subst key
  rw [hpi] at hpj
  rw [hpj]
theorem nilf_no (f : Fn) (x y : Array Value) (w : World) : Sem.run Tryz.prog (binOp BinOp.eql 60 (.func f x y) .nilFunc) w = .ok (.bool false) w := by kernel_rfl
set_option maxHeartbeats 4000000 in
set_option maxRecDepth 100000 in
theorem is_any (d l : Nat) (q : TBk) (T : TblS) (F : Nat → Prop) (v : Value) (ps : List Pr) (w : World) (h : TblAt w d l q T) (hp : PrsAt w F v ps) (hlive : T.live = liveN T.ps) (hsum : T.live ≤ 1000000000) (hl : ps.length ≤ 1048576) (hg : ∀ p ∈ ps, p.1.length ≤ 1048576 ∧ p.2.length ≤ 1048576) :
    Calls Tryz.prog 19 #[.pointer (some ⟨q.t, 0, none⟩), v] w fun e w' => e = .returned (.bool (decide (T.ps = ps))) ∧ Below w.heap.size w w' := by
  obtain ⟨a, cap, rfl, -⟩ := id hp
  obtain ⟨n, hn⟩ : ∃ n, ps.length = n := ⟨_, rfl⟩
  rw [hn] at hp hl ⊢
  obtain ⟨hb0, g0, g1, g2, g3, hs4⟩ := allocs4 w (.cells #[.pointer (some ⟨q.t, 0, none⟩)] 26) (.cells #[.slice a n cap] 44) (.cells #[.bool false] 4) (.cells #[.int .i64 0] 3)
  have HH := Lib.hid (And.intro h (And.intro hp (And.intro hlive (And.intro hsum (And.intro hl (And.intro hg hn))))))
  clear h hp hlive hsum hl hg hn
  refine (callsIn_wide (n := 3)).1 ?_
  refine callsIn_of_wp_marks Tryz.func19 rfl trivial ?_ rfl
  simp only [Tryz.ntmps19, List.size_toArray, List.length_cons, List.length_nil, Nat.reduceAdd, Nat.reduceSub, Array.replicate_succ, Array.replicate_zero, List.push_toArray, List.append_toArray, List.nil_append, List.cons_append]
  gi_wp2_with fail
  obtain ⟨w4, hw4⟩ : ∃ w4, ((((w.alloc (.cells #[.pointer (some ⟨q.t, 0, none⟩)] 26)).alloc (.cells #[.slice a n cap] 44)).alloc (.cells #[.bool false] 4)).alloc (.cells #[.int .i64 0] 3)) = w4 := ⟨_, rfl⟩
  rw [hw4] at hb0 g0 g1 g2 g3 hs4 ⊢
  clear hw4
  have H0 := Lib.hid (And.intro hb0 (And.intro g2 (And.intro g3 hs4)))
  have c0 : w4.cell? ⟨w.heap.size, 0, none⟩ = some (.pointer (some ⟨q.t, 0, none⟩)) := by simp [World.cell?, g0]
  have c1 : w4.cell? ⟨w.heap.size + 1, 0, none⟩ = some (.slice a n cap) := by simp [World.cell?, g1]
  clear hb0 g0 g1 g2 g3 hs4
  have hsn : Src w4 (.slice none 0 0) (u8s []) := .inr ⟨rfl, rfl⟩
  refine ⟨trivial, callsIn_wide.2 ((twalk_any (some ⟨q.t, 0, none⟩) (.slice none 0 0) (.slice none 0 0) [] [] w4 hsn hsn).mono ?_)⟩
  rintro e w5 ⟨Bt, Bl, Bh, rfl, hbt, hbl, hbh, ct, cl, ch, hB5⟩
  have c0 := below_cell hB5 c0
  have c1 := below_cell hB5 c1
  have HB := Lib.hid (And.intro hB5 (And.intro hbt (And.intro hbl (And.intro hbh (And.intro ct (And.intro cl ch))))))
  clear hsn hB5 hbt hbl hbh ct cl ch
  have hnf := nilf_no
  gi_wp2_with fail
  clear hnf
  have hs5 := HB.out.1.size
  have hs4 := H0.out.2.2.2
  have k1 := below_heap HB.out.1 H0.out.2.1
  have k2 := below_heap HB.out.1 H0.out.2.2.1
  have hBw : Below w.heap.size w w5 := H0.out.1.trans (HB.out.1.mono H0.out.1.size)
  have hT5 := HH.out.1.below hBw
  have hX0 : BoxInv (w.heap.size + 1 + 1) (w.heap.size + 1 + 1 + 1) w5 := ⟨⟨_, _, k1, fun j hj => (by cases hj)⟩, ⟨_, _, k2, fun j hj => (by cases hj)⟩⟩
  have hI0 : IsI w5 (w.heap.size + 1 + 1) (w.heap.size + 1 + 1 + 1) T.ps ps [] w5 := ⟨Below.refl _ _, rfl, ⟨Nat.zero_le _, Nat.zero_le _⟩, k1, k2⟩
  have hseq := walk_seq 2 d l q T [] [] w5 hT5 (fun b hb => by cases hb) (fun b hb => by cases hb) (by have h1 := HH.out.2.2.1; have h2 := HH.out.2.2.2.1; omega) Bt Bl Bh HB.out.2.2.2.2.1 HB.out.2.2.2.2.2.1 HB.out.2.2.2.2.2.2
    (BoxInv (w.heap.size + 1 + 1) (w.heap.size + 1 + 1 + 1)) (BoxPr (w.heap.size + 1 + 1) (w.heap.size + 1 + 1 + 1)) (guard_box _ _) hX0
  have hwr : walkR T.ps [] [] = T.ps := by
    unfold walkR walkEnd
    rw [if_pos rfl, List.take_length]
    have : posK (keysP T.ps) [] = 0 := by
      unfold posK
      exact List.countP_eq_zero.2 fun y _ => by cases y <;> simp [klt]
    rw [this]
    rfl
  rw [hwr] at hseq
  have HI := Lib.hid (And.intro hBw (And.intro hI0 hT5))
  have hB12 : w.heap.size + 1 + 1 < w.heap.size + 1 + 1 + 1 := Nat.lt_succ_self _
  have hB2 : w.heap.size + 1 + 1 + 1 < w5.heap.size := by omega
  have HB12 := Lib.hid (And.intro hB12 hB2)
  clear hI0 hT5 hBw hX0 k1 k2 hwr hB12 hB2 hs5 hs4
  generalize hA0 : Act.mk _ [] = a0
  refine wpIn_range_x (F := Fence.wide) rfl (by decide) (gf := 67) (lb := #[.pointer (some ⟨Bt, 0, none⟩), .pointer (some ⟨Bl, 0, none⟩), .pointer (some ⟨Bh, 0, none⟩)]) (by subst hA0; rfl) trivial (enters_of Tryz.func67 (by kernel_rfl) rfl) hseq (fun h k => h.trans k) (fun x W l o o' h1 h2 h3 h4 => KeepX.putObj (guard_box _ _) W l o o' h2 h3) (Below.refl _ _) (fun _ => rfl)
    (IsI w5 (w.heap.size + 1 + 1) (w.heap.size + 1 + 1 + 1) T.ps ps) (fun c _ W => c = .ret ∧ IsX w5 (w.heap.size + 1 + 1) T.ps ps W) (isI_own (by have := HB12.out.2; omega)) (fun c => isX_own (by have := HB12.out.2; omega) c) HI.out.2.1
    (fun pre x a' W => a' = { tmps := (((a0.tmps.setIfInBounds 16 x.1).setIfInBounds 17 x.2).setIfInBounds 7 x.1).setIfInBounds 8 x.2, defers := [] } ∧ IsO w5 (w.heap.size + 1 + 1) (w.heap.size + 1 + 1 + 1) T.ps pre x W)
    (fun pre x a' u A B row hs hg hr => ⟨hs.1, isO_own (w5 := w5) u A B row hs.2 hg hr⟩) ?assign ?body ?done ?stop
  case assign =>
    rintro l pre ⟨x1, x2⟩ W K hI hok hK
    subst hA0
    obtain ⟨p, q1, q2, q3, q4, -⟩ := hok
    dsimp only at q2 q3 q4 hK ⊢
    obtain ⟨ay, cy, hyv, -⟩ := q2.src.shape
    obtain ⟨az, cz, hzv, -⟩ := owns_shape q3
    rw [u8s_length] at hyv
    subst hyv
    subst hzv
    have HQ := Lib.hid (And.intro q2 (And.intro q3 q4))
    clear q2 q3 q4
    gi_wp2_with fail
    refine hK _ _ (KeepsFrom.refl _ _) (KeepX.refl _) hI ⟨rfl, hI.box, ?_⟩
    exact ⟨p, q1, HQ.out.1.src, Src.of_owns HQ.out.2.1, HQ.out.2.2⟩
  case body =>
    rintro l' pre ⟨x1, x2⟩ a' W hl' ⟨r, hr⟩ hI ⟨rfl, hX⟩
    subst hA0
    simp only [List.setIfInBounds_toArray, List.set_cons_succ, List.set_cons_zero]
    obtain ⟨i, hi⟩ : ∃ i, pre.length = i := ⟨_, rfl⟩
    obtain ⟨hbox, p, hp1, s1, s2, hpr⟩ := hX
    dsimp only at s1 s2 hpr ⊢
    obtain ⟨ay, cy, hyv, -⟩ := s1.shape
    obtain ⟨az, cz, hzv, -⟩ := s2.shape
    rw [u8s_length] at hyv hzv
    subst hyv
    subst hzv
    have hWw : Below w.heap.size w W := HI.out.1.trans (hI.below.mono (by omega))
    have hb12 := HB12.out
    have d0 : W.cell? ⟨w.heap.size, 0, none⟩ = some (.pointer (some ⟨q.t, 0, none⟩)) := (World.cell?_of_block (w := w5) (hI.below.block _ (by show w.heap.size < _; omega))).trans c0
    have d1 : W.cell? ⟨w.heap.size + 1, 0, none⟩ = some (.slice a n cap) := (World.cell?_of_block (w := w5) (hI.below.block _ (by show w.heap.size + 1 < _; omega))).trans c1
    have h1 := hI.one
    have h2 := hI.two
    rw [hi] at h2
    have HK := Lib.hid (And.intro hI (And.intro (hi ▸ hp1) (And.intro s1 (And.intro s2 (And.intro (HH.out.1.below hWw) (And.intro (HH.out.2.1.below hWw) (And.intro hi (And.intro h1 h2))))))))
    clear hI hp1 s1 s2 hWw hb12 h1 h2 hi hr hbox hpr hl' c0 c1
    by_cases hin : i < n
    · have hn20 : (i : Int) ≤ 1048576 := by have := HH.out.2.2.2.2.1; omega
      have hlt : ¬ (n : Int) ≤ (i : Int) := by omega
      have hi0 : (i : Int) < (n : Int) := by omega
      obtain ⟨p', hp'⟩ : ∃ p', ps[i]? = some p' := ⟨_, List.getElem?_eq_getElem (by rw [HH.out.2.2.2.2.2.2]; exact hin)⟩
      obtain ⟨g, o, va, vb, rfl, ca, cb, sa, sb, -, -⟩ := HK.out.2.2.2.2.2.1.at hp'
      obtain ⟨l1, l2⟩ := HH.out.2.2.2.2.2.1 p' (List.mem_of_getElem? hp')
      obtain ⟨-, -, l3, l4⟩ := HK.out.2.2.2.2.1.good p (List.mem_of_getElem? HK.out.2.1)
      have HN1 := Lib.hid fun (hne : p ≠ p') => fun (U : World) (hU : Below W.heap.size W U) => isX_step (ps := ps) (ts := T.ps) HB12.out.1 HB12.out.2 HK.out.1 (fun e => by
        have h1 := HK.out.2.1
        rw [e, hp'] at h1
        exact hne (Option.some.inj h1).symm) hU
      have HP := Lib.hid (And.intro hp' (And.intro cb (And.intro sb (And.intro l2 l4))))
      have HY := Lib.hid (bytes_any (.slice ay p.1.length cy) va p.1 p'.1 W HK.out.2.2.1 sa (by omega) (by omega))
      clear hp' cb sa sb l1 l2 l3 l4
      have y1 := below_heap (Below.refl W.heap.size W) HK.out.2.2.2.2.2.2.2.1
      have y2 := below_heap (Below.refl W.heap.size W) HK.out.2.2.2.2.2.2.2.2
      have z1 : (W).cell? ⟨w.heap.size + 1 + 1, 0, none⟩ = some (.bool false) := by simp [World.cell?, y1]
      have z2 : (W).cell? ⟨w.heap.size + 1 + 1 + 1, 0, none⟩ = some (.int .i64 i) := by simp [World.cell?, y2]
      have zf1 : (W).frozen? ⟨w.heap.size + 1 + 1, 0, none⟩ = false := by simp [World.frozen?, y1]
      have zf2 : (W).frozen? ⟨w.heap.size + 1 + 1 + 1, 0, none⟩ = false := by simp [World.frozen?, y2]
      clear y1 y2
      gi_wp2_with fail
      refine ⟨trivial, callsIn_wide.2 (HY.out.mono ?_)⟩
      rintro e w1 ⟨rfl, hb1⟩
      clear HY z1 z2 zf1 zf2
      have d0 := below_cell hb1 d0
      have d1 := below_cell hb1 d1
      clear ca
      by_cases hk1 : p.1 = p'.1
      · simp only [decide_eq_true hk1]
        have cb := below_cell hb1 HP.out.2.1
        have HY := Lib.hid (bytes_any (.slice az p.2.length cz) vb p.2 p'.2 w1 (HK.out.2.2.2.1.below hb1) (HP.out.2.2.1.below hb1) (by have := HP.out.2.2.2.2; omega) (by have := HP.out.2.2.2.1; omega))
        have y1 := below_heap hb1 HK.out.2.2.2.2.2.2.2.1
        have y2 := below_heap hb1 HK.out.2.2.2.2.2.2.2.2
        have z1 : (w1).cell? ⟨w.heap.size + 1 + 1, 0, none⟩ = some (.bool false) := by simp [World.cell?, y1]
        have z2 : (w1).cell? ⟨w.heap.size + 1 + 1 + 1, 0, none⟩ = some (.int .i64 i) := by simp [World.cell?, y2]
        have zf1 : (w1).frozen? ⟨w.heap.size + 1 + 1, 0, none⟩ = false := by simp [World.frozen?, y1]
        have zf2 : (w1).frozen? ⟨w.heap.size + 1 + 1 + 1, 0, none⟩ = false := by simp [World.frozen?, y2]
        clear y1 y2
        gi_wp2_with fail
        refine ⟨trivial, callsIn_wide.2 (HY.out.mono ?_)⟩
        rintro e w2 ⟨rfl, hb2⟩
        have hb2' := hb1.trans (hb2.mono hb1.size)
        have d0 := below_cell hb2 d0
        clear HY z1 z2 zf1 zf2 cb d1
        by_cases hk2 : p.2 = p'.2
        · simp only [decide_eq_true hk2]
          have hmem := List.mem_of_getElem? HK.out.2.1
          obtain ⟨hkb, -, hkl, hvl⟩ := HK.out.2.2.2.2.1.good p hmem
          have hkey : p.1 ∈ keysP T.ps := List.mem_map_of_mem hmem
          have hval : valP T.ps p.1 = p.2 := valP_mem HK.out.2.2.2.2.1.rise hmem
          have HG := Lib.hid (tget_any d l q T (.slice ay p.1.length cy) p.1 w2 (HK.out.2.2.2.2.1.below hb2') (HK.out.2.2.1.below hb2') hkb (by omega))
          rw [decide_eq_true hkey, hval] at HG
          have Hvl := Lib.hid hvl
          have Hkk := Lib.hid (And.intro hk1 hk2)
          clear hmem hkb hkl hvl hkey hval hk1 hk2
          have y1 := below_heap hb2' HK.out.2.2.2.2.2.2.2.1
          have y2 := below_heap hb2' HK.out.2.2.2.2.2.2.2.2
          have z1 : (w2).cell? ⟨w.heap.size + 1 + 1, 0, none⟩ = some (.bool false) := by simp [World.cell?, y1]
          have z2 : (w2).cell? ⟨w.heap.size + 1 + 1 + 1, 0, none⟩ = some (.int .i64 i) := by simp [World.cell?, y2]
          have zf1 : (w2).frozen? ⟨w.heap.size + 1 + 1, 0, none⟩ = false := by simp [World.frozen?, y1]
          have zf2 : (w2).frozen? ⟨w.heap.size + 1 + 1 + 1, 0, none⟩ = false := by simp [World.frozen?, y2]
          clear y1 y2
          gi_wp2_with fail
          refine ⟨trivial, callsIn_wide.2 (HG.out.mono ?_)⟩
          rintro e w3 ⟨u, rfl, hown, hb3⟩
          have hb3' := hb2'.trans (hb3.mono hb2'.size)
          clear HG z1 z2 zf1 zf2 d0
          obtain ⟨au, cu, rfl, -⟩ := owns_shape hown
          have HY := Lib.hid (bytes_any (.slice au p.2.length cu) (.slice az p.2.length cz) p.2 p.2 w3 (Src.of_owns hown) (HK.out.2.2.2.1.below hb3') (by have := Hvl.out; omega) (by have := Hvl.out; omega))
          clear hown
          have y1 := below_heap hb3' HK.out.2.2.2.2.2.2.2.1
          have y2 := below_heap hb3' HK.out.2.2.2.2.2.2.2.2
          have z1 : (w3).cell? ⟨w.heap.size + 1 + 1, 0, none⟩ = some (.bool false) := by simp [World.cell?, y1]
          have z2 : (w3).cell? ⟨w.heap.size + 1 + 1 + 1, 0, none⟩ = some (.int .i64 i) := by simp [World.cell?, y2]
          have zf1 : (w3).frozen? ⟨w.heap.size + 1 + 1, 0, none⟩ = false := by simp [World.frozen?, y1]
          have zf2 : (w3).frozen? ⟨w.heap.size + 1 + 1 + 1, 0, none⟩ = false := by simp [World.frozen?, y2]
          clear y1 y2
          gi_wp2_with fail
          refine ⟨trivial, callsIn_wide.2 (HY.out.mono ?_)⟩
          rintro e w4' ⟨rfl, hb4⟩
          have hb4' := hb3'.trans (hb4.mono hb3'.size)
          clear HY z1 z2 zf1 zf2
          simp only [decide_eq_true (rfl : p.2 = p.2)]
          have y1 := below_heap hb4' HK.out.2.2.2.2.2.2.2.1
          have y2 := below_heap hb4' HK.out.2.2.2.2.2.2.2.2
          have z1 : (w4').cell? ⟨w.heap.size + 1 + 1, 0, none⟩ = some (.bool false) := by simp [World.cell?, y1]
          have z2 : (w4').cell? ⟨w.heap.size + 1 + 1 + 1, 0, none⟩ = some (.int .i64 i) := by simp [World.cell?, y2]
          have zf1 : (w4').frozen? ⟨w.heap.size + 1 + 1, 0, none⟩ = false := by simp [World.frozen?, y1]
          have zf2 : (w4').frozen? ⟨w.heap.size + 1 + 1 + 1, 0, none⟩ = false := by simp [World.frozen?, y2]
          clear y1 y2
          have hpp : p = p' := Prod.ext Hkk.out.1 Hkk.out.2
          have hst := isI_step (x := (Value.slice ay p.1.length cy, Value.slice az p.2.length cz)) (X := fun j => (Value.slice ay p.1.length cy).ownBlock = some j ∨ (Value.slice az p.2.length cz).ownBlock = some j) HB12.out.1 HB12.out.2 HK.out.1 (p := p) (by rw [HK.out.2.2.2.2.2.2.1]; exact HK.out.2.1) (by rw [HK.out.2.2.2.2.2.2.1, hpp]; exact HP.out.1) hb4'
          rw [HK.out.2.2.2.2.2.2.1] at hst
          have HST := Lib.hid hst
          clear hst hpp
          gi_wp2_with fail
          exact HST.out
        · simp only [decide_eq_false hk2]
          have y1 := below_heap hb2' HK.out.2.2.2.2.2.2.2.1
          have y2 := below_heap hb2' HK.out.2.2.2.2.2.2.2.2
          have z1 : (w2).cell? ⟨w.heap.size + 1 + 1, 0, none⟩ = some (.bool false) := by simp [World.cell?, y1]
          have z2 : (w2).cell? ⟨w.heap.size + 1 + 1 + 1, 0, none⟩ = some (.int .i64 i) := by simp [World.cell?, y2]
          have zf1 : (w2).frozen? ⟨w.heap.size + 1 + 1, 0, none⟩ = false := by simp [World.frozen?, y1]
          have zf2 : (w2).frozen? ⟨w.heap.size + 1 + 1 + 1, 0, none⟩ = false := by simp [World.frozen?, y2]
          clear y1 y2
          gi_wp2_with fail
          have hst := HN1.out (fun e => hk2 (by rw [e])) w2 hb2'
          exact ⟨hst.1, rfl, hst.2⟩
      · simp only [decide_eq_false hk1]
        have y1 := below_heap hb1 HK.out.2.2.2.2.2.2.2.1
        have y2 := below_heap hb1 HK.out.2.2.2.2.2.2.2.2
        have z1 : (w1).cell? ⟨w.heap.size + 1 + 1, 0, none⟩ = some (.bool false) := by simp [World.cell?, y1]
        have z2 : (w1).cell? ⟨w.heap.size + 1 + 1 + 1, 0, none⟩ = some (.int .i64 i) := by simp [World.cell?, y2]
        have zf1 : (w1).frozen? ⟨w.heap.size + 1 + 1, 0, none⟩ = false := by simp [World.frozen?, y1]
        have zf2 : (w1).frozen? ⟨w.heap.size + 1 + 1 + 1, 0, none⟩ = false := by simp [World.frozen?, y2]
        clear y1 y2
        gi_wp2_with fail
        refine ⟨trivial, ?_⟩
        gi_wp2_with fail
        have hst := HN1.out (fun e => hk1 (by rw [e])) w1 hb1
        exact ⟨hst.1, rfl, hst.2⟩
    · have hge : (n : Int) ≤ (i : Int) := by omega
      have y1 := below_heap (Below.refl W.heap.size W) HK.out.2.2.2.2.2.2.2.1
      have y2 := below_heap (Below.refl W.heap.size W) HK.out.2.2.2.2.2.2.2.2
      have z1 : (W).cell? ⟨w.heap.size + 1 + 1, 0, none⟩ = some (.bool false) := by simp [World.cell?, y1]
      have z2 : (W).cell? ⟨w.heap.size + 1 + 1 + 1, 0, none⟩ = some (.int .i64 i) := by simp [World.cell?, y2]
      have zf1 : (W).frozen? ⟨w.heap.size + 1 + 1, 0, none⟩ = false := by simp [World.frozen?, y1]
      have zf2 : (W).frozen? ⟨w.heap.size + 1 + 1 + 1, 0, none⟩ = false := by simp [World.frozen?, y2]
      clear y1 y2
      gi_wp2_with fail
      refine ⟨trivial, ?_⟩
      gi_wp2_with fail
      refine ⟨trivial, ?_⟩
      gi_wp2_with fail
      have hst := isX_step (ps := ps) (ts := T.ps) HB12.out.1 HB12.out.2 HK.out.1 (fun e => by
        have h1 := (List.getElem?_eq_some_iff.1 HK.out.2.1).1
        have h2 := HH.out.2.2.2.2.2.2
        rw [e] at h1
        omega) (Below.refl _ _)
      exact ⟨hst.1, rfl, hst.2⟩
  case stop =>
    rintro D c pre W hD hpre ⟨rfl, h⟩ hK
    subst hA0
    have hb12 := HB12.out
    have hXD : Ext (· = D) W (W.putObj D (.deferred none)) := Ext.grown (grownBy_putObj' W D _) fun k e _ => (Option.some.inj e).symm
    have y1 := (hXD.block _ (block_lt_of_heap h.one) (by omega)).trans h.one
    have z1 : (W.putObj D (.deferred none)).cell? ⟨w.heap.size + 1 + 1, 0, none⟩ = some (.bool false) := by simp [World.cell?, y1]
    have hBf : Below w.heap.size w (W.putObj D (.deferred none)) := (HI.out.1.trans (h.below.mono (by omega))).trans ⟨hXD.os, hXD.tape, hXD.output, hXD.size, fun k hk => hXD.block k (by have := HI.out.1.size; have := h.below.size; omega) (by have := HI.out.1.size; omega)⟩
    have HZ := Lib.hid (And.intro z1 (And.intro hBf (And.intro h.ne hK)))
    clear hXD y1 z1 hBf h hK hb12
    gi_wp2_with fail
    refine ⟨by simp, .inl ⟨_, _, rfl, run_takeDeferred HZ.out.2.2.2, ?_⟩⟩
    refine ⟨.bool false, by simp [results, Tryz.f19, go_sem, HZ.out.1], ?_⟩
    rw [decide_eq_false HZ.out.2.2.1]
    exact ⟨rfl, HZ.out.2.1⟩
  case done =>
    rintro D zs W hD hS hI hK
    subst hA0
    have hb12 := HB12.out
    obtain ⟨m, hm⟩ : ∃ m, T.ps.length = m := ⟨_, rfl⟩
    have hz : zs.length = m := by rw [← hm]; exact hS
    have hWw : Below w.heap.size w W := HI.out.1.trans (hI.below.mono (by omega))
    have d0 : W.cell? ⟨w.heap.size, 0, none⟩ = some (.pointer (some ⟨q.t, 0, none⟩)) := (World.cell?_of_block (w := w5) (hI.below.block _ (by show w.heap.size < _; omega))).trans c0
    have d1 : W.cell? ⟨w.heap.size + 1, 0, none⟩ = some (.slice a n cap) := (World.cell?_of_block (w := w5) (hI.below.block _ (by show w.heap.size + 1 < _; omega))).trans c1
    have h2 := hI.two
    rw [hz] at h2
    have d2 : W.cell? ⟨w.heap.size + 1 + 1 + 1, 0, none⟩ = some (.int .i64 m) := by simp [World.cell?, h2]
    have heq := hI.eq
    have hle := hI.len
    have h6 := HH.out.2.2.2.2.2.2
    rw [hz, List.take_of_length_le (by omega)] at heq
    rw [hz, h6] at hle
    have hpost : ∀ (U : World) (r : Bool), Below W.heap.size W U → Below w.heap.size w ((U.setCell ⟨w.heap.size + 1 + 1, 0, none⟩ (.bool r)).putObj D (.deferred none)) ∧ ((U.setCell ⟨w.heap.size + 1 + 1, 0, none⟩ (.bool r)).putObj D (.deferred none)).cell? ⟨w.heap.size + 1 + 1, 0, none⟩ = some (.bool r) ∧ (U.setCell ⟨w.heap.size + 1 + 1, 0, none⟩ (.bool r)).heap[D]? = some (.deferred (some [])) := fun U r hU => by
      have hws := hWw.size
      have hw5 := HI.out.1.size
      have hDW := block_lt_of_heap hK
      have hX1 : Ext (· = w.heap.size + 1 + 1) U (U.setCell ⟨w.heap.size + 1 + 1, 0, none⟩ (.bool r)) := Ext.setCell (S := (· = w.heap.size + 1 + 1)) (p := ⟨w.heap.size + 1 + 1, 0, none⟩) rfl _
      have t1 := heap_cell (j := 0) (below_heap hU hI.one) (.bool r)
      have t2 := (hX1.block D (by have := hU.size; omega) (by omega)).trans (below_heap hU hK)
      generalize U.setCell ⟨w.heap.size + 1 + 1, 0, none⟩ (.bool r) = V at *
      have hXD : Ext (· = D) V (V.putObj D (.deferred none)) := Ext.grown (grownBy_putObj' V D _) fun k e _ => (Option.some.inj e).symm
      have y1 := (hXD.block _ (block_lt_of_heap t1) (by omega)).trans t1
      have hb1 := hWw.trans (hU.mono hws)
      have hX : Ext (fun k => k = D ∨ k = w.heap.size + 1 + 1) U (V.putObj D (.deferred none)) := (hX1.mono (fun _ _ h => .inr h)).trans hXD fun _ _ h => .inl h
      refine ⟨hb1.trans ⟨hX.os, hX.tape, hX.output, hX.size, fun k hk => hX.block k (by have := hb1.size; omega) (by omega)⟩, by simp [World.cell?, y1], t2⟩
    have hT := HH.out.1.below hWw
    have hP := HH.out.2.1.below hWw
    have y1 := hI.one
    have HK := Lib.hid (And.intro hT (And.intro hP (And.intro hpost y1)))
    clear hT hP hpost hI hK hz hS h2 hWw hb12 h6 c0 c1 y1
    by_cases hmn : m = n
    · subst hmn
      have hTp : T.ps = ps := by rw [heq, List.take_of_length_le (by rw [HH.out.2.2.2.2.2.2]; exact Nat.le_refl _)]
      have Hm := Lib.hid (And.intro hm hTp)
      clear hm hTp heq hle
      gi_wp2_with fail
      refine wpIn_wide.2 ?_
      refine wp_region_rg_tail 18 (fun j => if j = 6 then some (fun v _ => v = .int .i64 m) else if j = 13 then some (fun v _ => v = .int .i64 T.live) else if j = 15 then some (fun v _ => v = .int .i64 T.live) else none) fol (by kernel_rfl) (fun U hU hh => ?_)
      clear hh
      have q0 := rcell hU d0
      have q1 := rcell hU d1
      have q2 := rcell hU d2
      repeat ((first | refine lex_move _ (by first | exact Or.inl rfl | exact Or.inr rfl) rfl rfl ?_ | (refine lex_float ?_ rfl rfl (fun w1 hb1 hf1 => ?_) ?_; rotate_left; (go_simp; (try simp (disch := omega) only [IntWalk.i64_quo, IntWalk.rem_in, IntWalk.i64_in, IntWalk.u64_in, IntWalk.u32_in, IntWalk.u8_in, IntWalk.toNatUp, IntWalk.iteOmega]); (try go_simp); rfl)) | refine lex_skip rfl ?_); simp only [Act.put, Act.eval, Array.getD_eq_getD_getElem?, List.getElem?_toArray, List.getElem?_cons_zero, List.getElem?_cons_succ, Option.getD_some, List.setIfInBounds_toArray, List.set_cons_succ, List.set_cons_zero])
      refine lex_make _ rfl (by exact fun _ _ _ h _ => h) rfl (fun w1 hb1 hf1 => ?_) ?_
      · (unfold makes; go_simp; simp only [makesUpon])
        refine (len_any d l q T _ (HK.out.1.below (below_trans hU hb1))).mono ?_
        rintro e w' ⟨rfl, rfl⟩
        rw [Hm.out.1]
        exact ⟨_, rfl, Below.refl _ _, rfl⟩
      rintro v6 W6 hB6 rfl
      simp only [Act.put, Act.eval, Array.getD_eq_getD_getElem?, List.getElem?_toArray, List.getElem?_cons_zero, List.getElem?_cons_succ, Option.getD_some, List.setIfInBounds_toArray, List.set_cons_succ, List.set_cons_zero]
      repeat ((first | refine lex_move _ (by first | exact Or.inl rfl | exact Or.inr rfl) rfl rfl ?_ | (refine lex_float ?_ rfl rfl (fun w1 hb1 hf1 => ?_) ?_; rotate_left; (go_simp; (try simp (disch := omega) only [IntWalk.i64_quo, IntWalk.rem_in, IntWalk.i64_in, IntWalk.u64_in, IntWalk.u32_in, IntWalk.u8_in, IntWalk.toNatUp, IntWalk.iteOmega]); (try go_simp); rfl)) | refine lex_skip rfl ?_); simp only [Act.put, Act.eval, Array.getD_eq_getD_getElem?, List.getElem?_toArray, List.getElem?_cons_zero, List.getElem?_cons_succ, Option.getD_some, List.setIfInBounds_toArray, List.set_cons_succ, List.set_cons_zero])
      refine lex_make _ rfl (by exact fun _ _ _ h _ => h) rfl (fun w1 hb1 hf1 => ?_) ?_
      · (unfold makes; go_simp; simp only [makesUpon])
        refine (live_any d l q T _ (HK.out.1.below (below_trans hU hb1))).mono ?_
        rintro e w' ⟨rfl, rfl⟩
        exact ⟨_, rfl, Below.refl _ _, rfl⟩
      rintro v13 W13 hB13 rfl
      simp only [Act.put, Act.eval, Array.getD_eq_getD_getElem?, List.getElem?_toArray, List.getElem?_cons_zero, List.getElem?_cons_succ, Option.getD_some, List.setIfInBounds_toArray, List.set_cons_succ, List.set_cons_zero]
      repeat ((first | refine lex_move _ (by first | exact Or.inl rfl | exact Or.inr rfl) rfl rfl ?_ | (refine lex_float ?_ rfl rfl (fun w1 hb1 hf1 => ?_) ?_; rotate_left; (go_simp; (try simp (disch := omega) only [IntWalk.i64_quo, IntWalk.rem_in, IntWalk.i64_in, IntWalk.u64_in, IntWalk.u32_in, IntWalk.u8_in, IntWalk.toNatUp, IntWalk.iteOmega]); (try go_simp); rfl)) | refine lex_skip rfl ?_); simp only [Act.put, Act.eval, Array.getD_eq_getD_getElem?, List.getElem?_toArray, List.getElem?_cons_zero, List.getElem?_cons_succ, Option.getD_some, List.setIfInBounds_toArray, List.set_cons_succ, List.set_cons_zero])
      refine lex_make _ rfl (by exact fun _ _ _ h _ => h) rfl (fun w1 hb1 hf1 => ?_) ?_
      · (unfold makes; go_simp; simp only [makesUpon])
        refine (bytesOf_any F _ ps _ (HK.out.2.1.below (below_trans hU hb1)) (by rw [HH.out.2.2.2.2.2.2]; exact HH.out.2.2.2.2.1) HH.out.2.2.2.2.2.1).mono ?_
        rintro e w' ⟨rfl, hB⟩
        rw [← Hm.out.2, ← HH.out.2.2.1]
        exact ⟨_, rfl, hB, rfl⟩
      rintro v15 W15 hB15 rfl
      simp only [Act.put, Act.eval, Array.getD_eq_getD_getElem?, List.getElem?_toArray, List.getElem?_cons_zero, List.getElem?_cons_succ, Option.getD_some, List.setIfInBounds_toArray, List.set_cons_succ, List.set_cons_zero]
      repeat ((first | refine lex_move _ (by first | exact Or.inl rfl | exact Or.inr rfl) rfl rfl ?_ | (refine lex_float ?_ rfl rfl (fun w1 hb1 hf1 => ?_) ?_; rotate_left; (go_simp; (try simp (disch := omega) only [IntWalk.i64_quo, IntWalk.rem_in, IntWalk.i64_in, IntWalk.u64_in, IntWalk.u32_in, IntWalk.u8_in, IntWalk.toNatUp, IntWalk.iteOmega]); (try go_simp); rfl)) | refine lex_skip rfl ?_); simp only [Act.put, Act.eval, Array.getD_eq_getD_getElem?, List.getElem?_toArray, List.getElem?_cons_zero, List.getElem?_cons_succ, Option.getD_some, List.setIfInBounds_toArray, List.set_cons_succ, List.set_cons_zero])
      refine lex_nil ?_
      have hBW := below_trans hU (below_trans hB6 (below_trans hB13 hB15))
      obtain ⟨r1, r2, r3⟩ := HK.out.2.2.1 W15 true hBW
      have y1 := below_heap hBW HK.out.2.2.2
      have z1 : W15.cell? ⟨w.heap.size + 1 + 1, 0, none⟩ = some (.bool false) := by simp [World.cell?, y1]
      have zf1 : W15.frozen? ⟨w.heap.size + 1 + 1, 0, none⟩ = false := by simp [World.frozen?, y1]
      have HZ := Lib.hid (And.intro r1 (And.intro r2 r3))
      clear r1 r2 r3 y1 q0 q1 q2 hB6 hB13 hB15 hBW hU d0 d1 d2
      go_wp2_with fail
      gi_wp2_with fail
      refine ⟨by simp, .inl ⟨_, _, rfl, run_takeDeferred HZ.out.2.2, ?_⟩⟩
      refine ⟨.bool true, by simp [results, Tryz.f19, go_sem, HZ.out.2.1], ?_⟩
      rw [decide_eq_true Hm.out.2]
      exact ⟨rfl, HZ.out.1⟩
    · have hne : T.ps ≠ ps := fun e => hmn (by rw [← hm, e]; exact HH.out.2.2.2.2.2.2)
      have Hne := Lib.hid hne
      have hmn' : ((m : Int) == (n : Int)) = false := by rw [beq_eq_false_iff_ne]; omega
      clear hne hm heq hle
      gi_wp2_with fail
      refine wpIn_wide.2 ?_
      refine wp_region_rg_tail 18 (fun j => none) fol (by kernel_rfl) (fun U hU hh => ?_)
      clear hh
      have q0 := rcell hU d0
      have q1 := rcell hU d1
      have q2 := rcell hU d2
      repeat ((first | refine lex_move _ (by first | exact Or.inl rfl | exact Or.inr rfl) rfl rfl ?_ | (refine lex_float ?_ rfl rfl (fun w1 hb1 hf1 => ?_) ?_; rotate_left; (go_simp; (try simp (disch := omega) only [IntWalk.i64_quo, IntWalk.rem_in, IntWalk.i64_in, IntWalk.u64_in, IntWalk.u32_in, IntWalk.u8_in, IntWalk.toNatUp, IntWalk.iteOmega]); (try go_simp); rfl)) | refine lex_skip rfl ?_); simp only [Act.put, Act.eval, Array.getD_eq_getD_getElem?, List.getElem?_toArray, List.getElem?_cons_zero, List.getElem?_cons_succ, Option.getD_some, List.setIfInBounds_toArray, List.set_cons_succ, List.set_cons_zero])
      refine lex_nil ?_
      obtain ⟨r1, r2, r3⟩ := HK.out.2.2.1 U false hU
      have y1 := below_heap hU HK.out.2.2.2
      have z1 : U.cell? ⟨w.heap.size + 1 + 1, 0, none⟩ = some (.bool false) := by simp [World.cell?, y1]
      have zf1 : U.frozen? ⟨w.heap.size + 1 + 1, 0, none⟩ = false := by simp [World.frozen?, y1]
      have HZ := Lib.hid (And.intro r1 (And.intro r2 r3))
      clear r1 r2 r3 y1 q0 q1 q2 hU d0 d1 d2
      go_wp2_with fail
      gi_wp2_with fail
      refine ⟨by simp, .inl ⟨_, _, rfl, run_takeDeferred HZ.out.2.2, ?_⟩⟩
      refine ⟨.bool false, by simp [results, Tryz.f19, go_sem, HZ.out.2.1], ?_⟩
      rw [decide_eq_false Hne.out]
      exact ⟨rfl, HZ.out.1⟩
end Go.Proofs.YtbjofbhhnmehgaaGreatDoor.TT
namespace Go.Proofs.YtbjofbhhnmehgaaGreatDoor.TT
open Go.RowKit Go.RG Go.Hp Go.Proofs.YtbjofbhhnmehgaaGreatDoor
theorem sdnv_small {n : Nat} (h : n < 128) : (sdnv n).length = 1 := by
  unfold sdnv
  rw [show n / 128 = 0 by omega, digitsHi_zero]
  rfl
theorem costN_101 : costN 101 = 1 := by
  have hp : partsN 101 = 1 := by decide
  unfold costN
  rw [hp]
  show 0 + need ((headB 0 (partsN 101)).length + min 8112 (101 - 0 * 8112)) = 1
  rw [hp, headB_length, sdnv_small (by decide), sdnv_small (by decide)]
  decide
theorem costN_102 : costN 102 = 2 := by
  have hp : partsN 102 = 1 := by decide
  unfold costN
  rw [hp]
  show 0 + need ((headB 0 (partsN 102)).length + min 8112 (102 - 0 * 8112)) = 2
  rw [hp, headB_length, sdnv_small (by decide), sdnv_small (by decide)]
  decide
theorem cap_ge {ring c : Nat} (h1 : 81 ≤ ring) (h : CapOf ring c) : 101 ≤ c := by
  refine Nat.le_of_not_lt fun hlt => h.top 101 hlt (by decide) ?_
  unfold fitsN
  rw [costN_101]
  omega
theorem cap_81 {c : Nat} (h : CapOf 81 c) : c = 101 := by
  have h1 := cap_ge (Nat.le_refl 81) h
  have h2 := h.le
  refine Nat.le_antisymm (Nat.le_of_not_lt fun hlt => ?_) h1
  rcases h.fit with e | e
  · omega
  · have := costN_mono (show 102 ≤ c by omega) (by omega)
    rw [costN_102] at this
    unfold fitsN at e
    omega
theorem topen_on (b : Bks) (x : Dsk) (N first size : Nat) (h1 : 83 ≤ size) (w : World) (h : Sys w b x N) (hN : N ≤ 1080000000000) {L : LogS} {rs : List Rc} (hV : LogV x first size L rs) (on : x.on) (hg : L.head.gen < 281474976710655) (he : L.head.epoch < 281474976710655)
    (ps : List Pr) (css : List (List Chg)) (hrec : rs.map Prod.fst = tblRecs ps css 0) (hr : KRising (keysP ps)) (hgd : ∀ p ∈ ps, isBytes p.1 ∧ isBytes p.2 ∧ 0 < p.1.length ∧ p.1.length ≤ 64 ∧ p.2.length ≤ 1024)
    (hcs : ∀ cs ∈ css, cs ≠ [] ∧ cs.length ≤ 80 ∧ ∀ c ∈ cs, c.good = true ∧ isBytes c.key ∧ isBytes c.value ∧ c.value.length ≤ 1024) (hcap : ∀ c, CapOf (size - 2) c → ∀ i, i ≤ css.length → liveN (allP ps (css.take i)) ≤ c) :
    Calls Tryz.prog 16 #[.pointer (some ⟨b.d, 0, none⟩), .int .i64 first, .int .i64 size] w fun e w' => ∃ c y, CapOf (size - 2) c ∧ LogV y first size { L with head := openHd L rs } rs ∧ y.on ∧ y.dur.length = x.dur.length ∧
      TOpenOk w b y (N + 1) first size { L with head := openHd L rs } ⟨c, allP ps css, liveN (allP ps css), 0, 0⟩ e w' := by
  obtain ⟨o1, o2, o3, o4, o5⟩ := hV.open on hg he
  have hes : HasRecs (openR x first size).1 first size (openR x first size).2.2 ((startsN (openHd L rs).first rs).zip (rs.map Prod.fst)) := by rw [o2]; exact o3.has
  refine (topen_ok b x N first size h1 hV.fit w h hN o1 _ ps css 0 hes ((LogV.has_snd (L := { L with head := openHd L rs }) rs).trans hrec) hr hgd hcs hcap (Nat.zero_le _)).mono ?_
  rintro e w' ⟨c, hc, hp⟩
  rw [if_pos rfl, o2] at hp
  exact ⟨c, _, hc, o3, o4, o5, hp⟩
end Go.Proofs.YtbjofbhhnmehgaaGreatDoor.TT
namespace Go.Proofs.YtbjofbhhnmehgaaGreatDoor.TT
open Go.RowKit Go.RG Go.Hp Go.Proofs.YtbjofbhhnmehgaaGreatDoor


/-- a keeper's cells -/
def keepCells (d t size : Nat) (vw : Value) (room epoch : Nat) (dead : Bool) : Array Value := #[.pointer (some ⟨d, 0, none⟩), .pointer (some ⟨t, 0, none⟩), .int .i64 size, vw, .int .i64 room, .int .u64 epoch, .bool dead]
theorem below_ext {B : Nat} {w w1 w2 : World} {S : Nat → Prop} (h : Below B w w1) (hX : Ext S w1 w2) (hB : B ≤ w1.heap.size) (hS : ∀ j, S j → B ≤ j) : Below B w w2 :=
  ⟨hX.os.trans h.os, hX.tape.trans h.tape, hX.output.trans h.output, Nat.le_trans h.size hX.size, fun k hk => (hX.block k (by omega) fun e => by have := hS k e; omega).trans (h.block k hk)⟩
theorem zero_ok (n : Nat) : DOk (zeroDsk n) 0 := by
  refine ⟨⟨fun s hs => ?_, fun i s hs => by cases hs⟩, ⟨by show (-1 : Int) ≤ _; decide, by show (-1 : Int) ≤ -1; decide⟩, fun i => Nat.le_refl _⟩
  rw [List.eq_of_mem_replicate hs]
  exact zeros_isBytes 128
theorem new_sys {w w' : World} {b : Bks} {n : Nat} (hP : Pkg w) (hD : DskAt w' b (zeroDsk n)) (ha : ∀ k, b.all k → w.heap.size ≤ k) (hB : Below w.heap.size w w') : Sys w' b (zeroDsk n) 0 :=
  ⟨hD, zero_ok n, hP.below hB, fun k hk => by have := ha k hk; have := hP.lt; omega⟩
theorem empty_recs : tblRecs [] [] 0 = [partB [] 0] := by
  unfold tblRecs ckRecs
  rfl
/-- a table that has just been formatted and opened -/
structure FreshT (w : World) (b : Bks) (x : Dsk) (N first size : Nat) (k : LBk) (L : LogS) (q : TBk) (c : Nat) : Prop where
  sys : TSys w b x N first size k L q ⟨c, [], 0, 0, 0⟩
  view : LogV x first size L [(partB [] 0, 1)]
  on : x.on
  cap : CapOf (size - 2) c
  epoch : L.head.epoch = 2
  gen : L.head.gen = 3
  first : L.head.first = 0
theorem room_fresh (d l : Nat) (q : TBk) (c : Nat) (w : World) (h : TblAt w d l q ⟨c, [], 0, 0, 0⟩) (h1 : c ≤ 1073741824) :
    Calls Tryz.prog 17 #[.pointer (some ⟨q.t, 0, none⟩)] w fun e w' => e = .returned (.int .i64 c) ∧ Below w.heap.size w w' := by
  refine (room_any d l q ⟨c, [], 0, 0, 0⟩ w h h1 (Nat.zero_le _)).mono ?_
  rintro e w' ⟨rfl, hB⟩
  exact ⟨by simp, hB⟩
set_option maxHeartbeats 1000000 in
set_option maxRecDepth 100000 in
theorem begin_any (n : Int) (hn : -9223372036854775808 ≤ n ∧ n ≤ 9223372036854775807) (w : World) (hP : Pkg w) :
    Calls Tryz.prog 12 #[.int .i64 n] w fun e w' => ∃ kb g b k q x N L c, e = .returned (.tuple #[.pointer (some ⟨kb, 0, none⟩), .bool true]) ∧
      w'.heap[kb]? = some (.cells (keepCells b.d q.t (spanZ n 83 65532).toNat (.slice (some ⟨g, 0, none⟩) 1 1) c 2 false) 30 (0, 0)) ∧ w'.heap[g]? = some (.cells #[.slice none 0 0] 44 (0, 0)) ∧ g < kb ∧ w.heap.size ≤ g ∧ ¬ allB b k q g ∧ ¬ allB b k q kb ∧ (∀ j, allB b k q j → w.heap.size ≤ j) ∧
      FreshT w' b x N 2 (spanZ n 83 65532).toNat k L q c ∧ x.dur.length = (spanZ n 83 65532).toNat + 4 ∧ N ≤ 100000 ∧ Below w.heap.size w w' := by
  have hsp := spanZ_in n (show (83 : Int) ≤ 65532 by decide)
  obtain ⟨s, hs⟩ : ∃ s : Nat, spanZ n 83 65532 = s := ⟨(spanZ n 83 65532).toNat, by omega⟩
  have HSP := Lib.hid (span_any n 83 65532 hn (by decide) w)
  rw [hs] at HSP hsp ⊢
  rw [Int.toNat_natCast]
  have hs4 : ((s + 4 : Nat) : Int) = (s : Int) + 4 := by omega
  have HN := Lib.hid (new_any (s + 4) (by omega) (by omega) w)
  rw [hs4] at HN
  have HP := Lib.hid hP
  have hw10 := hP.lt
  clear hP hs hn hs4
  go_enter Tryz.func12, Tryz.ntmps12
  go_wp2_with fail
  refine HSP.out.mono ?_
  rintro e w0 ⟨rfl, rfl⟩
  clear HSP
  go_wp2_with fail
  refine HN.out.mono ?_
  rintro e w1 ⟨b, rfl, hD, ha, hB1⟩
  have hSys := new_sys HP.out hD ha hB1
  have hwf : (zeroDsk (s + 4)).wf := hD.wf
  have hzl : (zeroDsk (s + 4)).dur.length = s + 4 := by simp [zeroDsk]
  obtain ⟨y, L, t1, t2, t3, t4, t5, t6, t7⟩ := tformat_on hwf ⟨rfl, rfl⟩ (first := 2) (size := s) (by omega) (by omega) (by omega)
  have hTF := tformat_any b (zeroDsk (s + 4)) 0 2 s (by omega) (by omega) w1 hSys (by decide)
  rw [t1] at hTF
  have HTF := Lib.hid hTF
  have H1 := Lib.hid (And.intro ha (And.intro hB1 (And.intro t2 (And.intro t3 (And.intro (t4.trans hzl) (And.intro t5 (And.intro t6 t7)))))))
  clear HN hD ha hB1 hSys hwf hzl t1 t2 t3 t4 t5 t6 t7 hTF
  go_wp2_with fail
  refine HTF.out.mono ?_
  rintro e w2 ⟨rfl, b2, hd2, ha2, hX2, hS2⟩
  have hO := topen_on b2 y (0 + 65700) 2 s (by omega) w2 hS2 (by decide) H1.out.2.2.1 H1.out.2.2.2.1 (by rw [H1.out.2.2.2.2.2.1]; decide) (by rw [H1.out.2.2.2.2.2.2.1]; decide) [] [] (by rw [empty_recs]; rfl) .nil (fun p hp => by cases hp) (fun p hp => by cases hp) (fun c hc i hi => by rw [List.take_nil]; exact Nat.zero_le _)
  rw [hd2] at hO
  have HO := Lib.hid hO
  have hb1 := H1.out.2.1
  have hB2 := below_ext hb1 hX2 hb1.size H1.out.1
  have ha2' : ∀ j, b2.all j → w.heap.size ≤ j := fun j hj => (ha2 j hj).elim (H1.out.1 j) fun h => by have := hb1.size; omega
  have H2 := Lib.hid (And.intro hB2 (And.intro ha2' hd2))
  clear hS2 hO hX2 ha2 hB2 ha2' hd2 hb1 HTF
  go_wp2_with fail
  refine HO.out.mono ?_
  rintro e w3 ⟨c, y', hc, hV, hon, hlen, b3, k, q, rfl, hd3, hqt, ha3, hX3, hS3⟩
  have hB3 := below_ext H2.out.1 hX3 H2.out.1.size H2.out.2.1
  have ha3' : ∀ j, allB b3 k q j → w.heap.size ≤ j := fun j hj => (ha3 j hj).elim (H2.out.2.1 j) fun h => by have := H2.out.1.size; omega
  have hc101 := cap_ge (by omega) hc
  have hcle := hc.le
  have hlivn : liveN (allP [] []) = 0 := rfl
  have hall : allP [] [] = [] := rfl
  rw [hlivn, hall] at hS3
  have hep : L.head.epoch + 1 = 2 := by rw [H1.out.2.2.2.2.2.2.1]
  have hE := tepoch_any b3.d 2 s k { L with head := openHd L [(partB [] 0, 1)] } q ⟨c, [], 0, 0, 0⟩ w3 hS3.tbl hS3.lsys.log
  rw [show ({ L with head := openHd L [(partB [] 0, 1)] } : LogS).head.epoch = 2 from hep] at hE
  have hR := room_fresh b3.d k.l q c w3 hS3.tbl (by omega)
  have HC := Lib.hid (And.intro hE hR)
  have H3 := Lib.hid (And.intro hB3 (And.intro ha3' (And.intro hc (And.intro hV (And.intro hon (And.intro hlen (And.intro hS3 (hd3.trans H2.out.2.2))))))))
  clear hB3 ha3' hc hV hon hlen hS3 hd3 hE hR hqt ha3 hX3 HO hlivn hall
  have hc1 : ¬ (c : Int) < 101 := by omega
  go_wp2_with fail
  refine HC.out.1.mono ?_
  rintro e w3' ⟨rfl, rfl⟩
  go_wp2_with fail
  refine HC.out.2.mono ?_
  rintro e w4 ⟨rfl, hB4⟩
  have hS4 := H3.out.2.2.2.2.2.2.1.below hB4
  have HU := Lib.hid (unflushed_any b3.d k.l q ⟨c, [], 0, 0, 0⟩ w4 hS4.tbl)
  have HI := Lib.hid (is_any b3.d k.l q ⟨c, [], 0, 0, 0⟩ (fun _ => False) (.slice none 0 0) [] w4 hS4.tbl (PrsAt.nil _ _) rfl (Nat.zero_le _) (by decide) (fun p hp => by cases hp))
  rw [show decide (({ cap := c, ps := [], live := 0, pending := 0, fallen := 0 } : TblS).ps = []) = true from rfl] at HI
  have HB4 := Lib.hid hB4
  clear hS4 hB4
  go_wp2_with fail
  refine HU.out.mono ?_
  rintro e w4' ⟨rfl, rfl⟩
  go_wp2_with fail
  refine HI.out.mono ?_
  rintro e w5 ⟨rfl, hB5⟩
  have hB5' := HB4.out.trans (hB5.mono HB4.out.size)
  have hS5 := H3.out.2.2.2.2.2.2.1.below hB5'
  have hb6 := below_box w5 (.cells #[.slice none 0 0] 44)
  have g6 := World.alloc_heap_new w5 (.cells #[.slice none 0 0] 44)
  have HR6 := Lib.hid (room_fresh b3.d k.l q c _ (hS5.below hb6).tbl (by omega))
  have HB5 := Lib.hid (And.intro hB5' (And.intro hb6 g6))
  clear hB5 hB5' hb6 g6 hS5
  go_wp2_with fail
  refine HR6.out.mono ?_
  rintro e w7 ⟨rfl, hB7⟩
  have hb8 := below_box w7 (.cells (keepCells b.d q.t s (.slice (some ⟨w5.heap.size, 0, none⟩) 1 1) c 2 false) 30)
  have g8 := World.alloc_heap_new w7 (.cells (keepCells b.d q.t s (.slice (some ⟨w5.heap.size, 0, none⟩) 1 1) c 2 false) 30)
  have H8 := Lib.hid (And.intro hB7 (And.intro hb8 g8))
  clear hB7 hb8 g8 HR6
  go_wp2_with fail
  go_ret2
  have h56 := HB5.out.2.1
  have h57 := h56.trans (H8.out.1.mono h56.size)
  have h58 := h57.trans (H8.out.2.1.mono h57.size)
  have h38 := HB5.out.1.trans (h58.mono HB5.out.1.size)
  have hw8 := H3.out.1.trans (h38.mono H3.out.1.size)
  have hS8 := H3.out.2.2.2.2.2.2.1.below h38
  have hlt := H3.out.2.2.2.2.2.2.1.lt
  have s35 := HB5.out.1.size
  have s37 : w5.heap.size + 1 ≤ w7.heap.size := by have := H8.out.1.size; simpa using this
  have sw3 := H3.out.1.size
  have ge := H1.out.2.2.2.2
  refine ⟨w7.heap.size, w5.heap.size, b3, k, q, y', 0 + 65700 + 1, _, c, rfl, ?_, ?_, by omega, by omega, fun h => by have := hlt _ h; omega, fun h => by have := hlt _ h; omega, H3.out.2.1, ⟨hS8, H3.out.2.2.2.1, H3.out.2.2.2.2.1, H3.out.2.2.1, hep, by show L.head.gen + 1 = 3; rw [ge.2.1], ge.2.2.2⟩, H3.out.2.2.2.2.2.1.trans ge.1, by decide, hw8⟩
  · rw [H3.out.2.2.2.2.2.2.2]
    exact H8.out.2.2
  · have h78 := H8.out.1.trans (H8.out.2.1.mono H8.out.1.size)
    exact below_heap h78 HB5.out.2.2
end Go.Proofs.YtbjofbhhnmehgaaGreatDoor.TT
namespace Go.Proofs.YtbjofbhhnmehgaaGreatDoor.TT
open Go.RowKit Go.RG Go.Hp Go.Proofs.YtbjofbhhnmehgaaGreatDoor


set_option maxHeartbeats 1000000 in
set_option maxRecDepth 100000 in
theorem tableNames_any (w : World) (hP : Pkg w) : Calls Tryz.prog 3 #[] w fun e w' => e = .returned (.bool true) ∧ Below w.heap.size w w' := by
  have HB := Lib.hid (begin_any 0 (by decide) w hP)
  clear hP
  go_enter Tryz.func3, Tryz.ntmps3
  go_wp2_with fail
  refine HB.out.mono ?_
  rintro e w1 ⟨kb, g, b, k, q, x, N, L, c, rfl, hk, -, -, -, -, -, -, hF, -, -, hB⟩
  have hc : c = 101 := cap_81 hF.cap
  subst hc
  have c4 : w1.cell? ⟨kb, 4, none⟩ = some (.int .i64 101) := box11 hk 4 _ rfl
  clear hk hF
  go_wp2_with fail
  go_ret
  exact ⟨rfl, hB⟩
end Go.Proofs.YtbjofbhhnmehgaaGreatDoor.TT
namespace Go.Proofs.YtbjofbhhnmehgaaGreatDoor.TT
open Go.ChangeShapes Go.WideShapes Go.ChangeAt Go.RowKit Go.RG Go.Hp Go.Proofs.YtbjofbhhnmehgaaGreatDoor
theorem und_field : Tryz.prog.underlying 175 = some (.struct #[Field.mk "at" 3 0 false "" "halyard/seglog" 0, Field.mk "width" 3 1 false "" "halyard/seglog" 8]) := by kernel_rfl
theorem laid_tail {P : Program} {W : World} {x : String × DataW Unit} {r : List (String × DataW Unit)} (h : laidMet P (x :: r) W) : laidMet P r W := by
  obtain ⟨ps, ⟨g, t, cs, fuel, p, q, h1, h2, h3, h4, h5, rfl⟩, hnd, hr⟩ := h
  exact ⟨q, h5, (List.nodup_append.1 hnd).2.1, fun b off hb => hr b off (List.mem_append_right _ hb)⟩
theorem field_head {W : World} {name : String} {a c : Int} {g : Nat} {r : List (String × DataW Unit)} (hg : Tryz.prog.globalNamed name = some g) (hty : (Tryz.prog.globals[g]?).map (·.type) = some 175)
    (h : laidMet Tryz.prog ((name, .agg [.lit (.int .i64 a), .lit (.int .i64 c)]) :: r) W) : W.cell? ⟨g, 0, none⟩ = some (.int .i64 a) ∧ W.cell? ⟨g, 1, none⟩ = some (.int .i64 c) := by
  obtain ⟨ps, ⟨g', t', cs, fuel, p, q, hg', ht', hvar, hd, _, _⟩, _⟩ := h
  obtain rfl := Option.some.inj (hg.symm.trans hg')
  obtain rfl := Option.some.inj (hty.symm.trans ht')
  obtain ⟨y0, y1, n, he, hl, h0, h1⟩ := trod_struct2 und_field hd
  obtain ⟨z0, e0, rfl, -⟩ := DataW.trod_int und_int' h0
  obtain ⟨z1, e1, rfl, -⟩ := DataW.trod_int und_int' h1
  have he1 := congrArg Prod.fst he
  simp only [DataW.agg.injEq, List.cons.injEq, DataW.lit.injEq, Lit.int.injEq, true_and, and_true] at he1
  obtain ⟨rfl, rfl⟩ := he1
  have c0 := World.var?_cell hg hvar 0
  have c1 := World.var?_cell hg hvar 1
  have k0 : cs.toList[0]? = some (.int .i64 a) := by
    have := congrArg (·[0]?) e0
    simpa [List.getElem?_take, List.getElem?_drop, show Tryz.prog.cellsOf 3 = 1 by kernel_rfl] using this
  have k1 : cs.toList[1]? = some (.int .i64 c) := by
    have := congrArg (·[0]?) e1
    simpa [List.getElem?_take, List.getElem?_drop, show Tryz.prog.cellsOf 3 = 1 by kernel_rfl] using this
  rw [Array.getElem?_toList] at k0 k1
  exact ⟨c0.trans k0, c1.trans k1⟩
theorem pkg_of_laid {W : World} (h : laidMetH Tryz.prog Rows.tableNamesRow.laid W) : Pkg W := by
  have h0 : laidMet Tryz.prog Rows.tableNamesRow.laid W := h
  have h1 := laid_tail h0
  have h2 := laid_tail h1
  have h3 := laid_tail h2
  have h4 := laid_tail h3
  have h5 := laid_tail h4
  have h6 := laid_tail h5
  have h7 := laid_tail h6
  have h8 := laid_tail h7
  have h9 := laid_tail h8
  have ht := Lib.tabIs_of_head (P := Tryz.prog) (W := W) (name := "halyard/octet.table") (k := .u32) (zs := crcTab) (g := 9) (t := 209) (e := 192) (n := 16) (by kernel_rfl) (by kernel_rfl) (by kernel_rfl) (by kernel_rfl) (by kernel_rfl) (by kernel_rfl) h0
  exact { tab := fun j hj => ht.cell (g := 9) (by kernel_rfl) j hj,
          generation := field_head (g := 5) (by kernel_rfl) (by kernel_rfl) h1, headEpoch := field_head (g := 6) (by kernel_rfl) (by kernel_rfl) h2, first := field_head (g := 7) (by kernel_rfl) (by kernel_rfl) h3,
          least := field_head (g := 8) (by kernel_rfl) (by kernel_rfl) h4, size := field_head (g := 4) (by kernel_rfl) (by kernel_rfl) h5, number := field_head (g := 0) (by kernel_rfl) (by kernel_rfl) h6,
          pieceEpoch := field_head (g := 1) (by kernel_rfl) (by kernel_rfl) h7, bytes := field_head (g := 2) (by kernel_rfl) (by kernel_rfl) h8, index := field_head (g := 3) (by kernel_rfl) (by kernel_rfl) h9 }
end Go.Proofs.YtbjofbhhnmehgaaGreatDoor.TT
namespace Go.Proofs.YtbjofbhhnmehgaaGreatDoor.LP
open Go.ChangeShapes Go.WideShapes Go.ChangeAt Go.RowKit

theorem own : ownKnob Tryz.prog.godebug = none := by kernel_rfl
theorem laidOut : laidOutB Tryz.prog = true := by kernel_rfl
theorem und_bool : Tryz.prog.underlying 4 = some .bool := by kernel_rfl
theorem und_int : Tryz.prog.underlying 3 = some (.int .i64) := by kernel_rfl

section
variable {H : Type} {enc : TypeId × Value → H} {P : Program}

/-- the row's step, where the blocks that lay there lie as they lay -/
theorem post_of_below {f : Func} {s : ChangeSpec} {apart fresh handsOn again : Bool} {W W' : World} {args : Array Value} {v : Value} {ds gs : List (DataW H)} {before pa pv : List MemPlace}
    (hW : DataW.Whole enc P f.params.toList s.vars apart W args.toList ds gs before) (hb : Below W.heap.size W W')
    (hres : ∀ (b : Nat) (sp : Nat → Bool) (hd : Bool), DataW.TrodAll enc P W' b sp hd f.resultTypes.toList (v.resultList f.resultTypes.size) (s.fn H (ds ++ gs)).results [])
    (hargs : ∀ sp : Nat → Bool, (∀ p ∈ before, sp p.block = true) → DataW.TrodAll enc P W' 0 sp true f.params.toList args.toList (s.fn H (ds ++ gs)).args pa)
    (hvars : ∀ sp : Nat → Bool, (∀ p ∈ before, sp p.block = true) → DataW.TrodVars enc P W' sp s.vars (s.fn H (ds ++ gs)).vars pv)
    (hps : before = pa ++ pv)
    (hok : ∀ (j : Nat) (t : TypeId) (r : Value), f.resultTypes[j]? = some t → (v.resultList f.resultTypes.size)[j]? = some r → Value.okWide P W' .any 0 t r) :
    s.post enc P f apart fresh handsOn again W args v W' := by
  have hlt : ∀ p ∈ before, p.block < W.heap.size := fun p hp => hW.lt p hp
  have hold : ∀ p ∈ before, (fun b => decide (b < W.heap.size)) p.block = true := fun p hp => by simpa using hlt p hp
  refine ⟨ds, gs, before, [], pa, pv, hW, hres _ _ _, hargs _ hold, hvars _ hold, hb.frame _, fun _ => ?_⟩
  have h9 := hW
  obtain ⟨_, _, _, _, _, hz, hn⟩ := h9
  refine ⟨hok, _, _, ([] ++ pa) ++ pv, ⟨[] ++ pa, pv, trodAll_append (hargs _ (fun _ _ => rfl)) (hres _ _ _), hvars _ (fun _ _ => rfl), rfl, ?_, ?_⟩, ?_⟩
  · intro b off hp
    have hp' : MemPlace.cell b off ∈ before := by rw [hps]; simpa using hp
    rw [hb.frozen (p := ⟨b, off, none⟩) (hlt _ hp')]
    exact hz b off hp'
  · intro ha
    have := hn ha
    rw [hps] at this
    simpa using this
  · intro p hp _
    rw [hps]
    simpa using hp
end

/-- an argument reads behind the call as it did ahead of it -/
theorem again {H : Type} {enc : TypeId × Value → H} {t : TypeId} (hr : Tryz.prog.readableRec t = true) (ht : t < Tryz.prog.types.size) {W W' : World} {v : Value} {d : DataW H} {ps : List MemPlace}
    (h : DataW.Trod enc Tryz.prog W 0 (fun _ => true) true t v d ps) (hb : Below W.heap.size W W') (hlt : ∀ x ∈ ps, x.block < W.heap.size) {sp : Nat → Bool} (hs : ∀ x ∈ ps, sp x.block = true) :
    DataW.Trod enc Tryz.prog W' 0 sp true t v d ps :=
  WideElems.Trod_stays laidOut hr ht h (fun x hx => hb.same (hlt x hx)) hs
end Go.Proofs.YtbjofbhhnmehgaaGreatDoor.LP
namespace Go.Proofs.YtbjofbhhnmehgaaGreatDoor.KNz
open Go.ChangeShapes Go.WideShapes Go.ChangeAt Go.RowKit Go.Proofs.YtbjofbhhnmehgaaGreatDoor.TT

theorem params : Tryz.f3.params = #[] := by kernel_rfl

set_option maxRecDepth 100000 in
theorem contract (H : Type) (enc : TypeId × Value → H) (W : World) (base : Nat) (args : Array Value) (ds gs : List (DataW H)) (before : List MemPlace)
    (hval : ∀ (j : Nat) t v, Tryz.f3.params[j]? = some t → args[j]? = some v → Value.okWide Tryz.prog W .any base t v)
    (hW : DataW.Whole enc Tryz.prog Tryz.f3.params.toList Rows.tableNamesSpec.vars false W args.toList ds gs before) (hL : laidMetH Tryz.prog Rows.tableNamesUptoRow.laid W) :
    Calls Tryz.prog 3 args W fun e W' => ∃ v, e = .returned v ∧ Rows.tableNamesSpec.post enc Tryz.prog Tryz.f3 false true false false W args v W' := by
  have hW' := hW
  obtain ⟨p, q, hA0, hV, rfl, hfz, hnd⟩ := hW
  have hA : DataW.TrodAll enc Tryz.prog W 0 (fun _ => true) true Tryz.f3.params.toList args.toList ds p := hA0
  rw [params] at hA hval
  obtain ⟨rfl, rfl, rfl⟩ := trodAll_none hA
  obtain ⟨rfl, rfl⟩ := trodVars_none hV
  clear hA0
  simp only [List.append_nil] at hW'
  refine (tableNames_any W (pkg_of_laid hL)).mono fun e W' ⟨he, hB⟩ => ?_
  subst he
  exact ⟨_, rfl, LP.post_of_below (pa := []) (pv := []) hW' hB (fun _ _ _ => (trodAll_cons_mk (shut_bool LP.und_bool _) trodAll_mk0))
    (fun sp hs => by rw [params]; exact trodAll_mk0) (fun _ _ => rfl) rfl (ok_one (by kernel_rfl) rfl (okWide_bool_mk LP.und_bool _))⟩

def lay (cs : Array Value) : Obj → Obj
  | .cells _ t frozen => .cells cs t frozen
  | o => o
/-- a world for the witness: the settled one, each listed variable holding what its initialiser lays -/
noncomputable def laidWorld (os : Os) : World :=
  { World.holding Tryz.prog os ⟨#[], #[], []⟩ with heap := ((((((((((World.holding Tryz.prog os ⟨#[], #[], []⟩).heap.modify 0 (lay #[.int .i64 4, .int .i64 6])).modify 1 (lay #[.int .i64 10, .int .i64 6])).modify 2 (lay #[.int .i64 16, .int .i64 2])).modify 3 (lay #[.int .i64 18, .int .i64 2])).modify 4 (lay #[.int .i64 28, .int .i64 4])).modify 5
      (lay #[.int .i64 4, .int .i64 6])).modify 6 (lay #[.int .i64 10, .int .i64 6])).modify 7 (lay #[.int .i64 16, .int .i64 6])).modify 8 (lay #[.int .i64 22, .int .i64 6])).modify 9 (lay #[.int .u32 0, .int .u32 498536548, .int .u32 997073096, .int .u32 651767980, .int .u32 1994146192, .int .u32 1802195444, .int .u32 1303535960, .int .u32 1342533948, .int .u32 3988292384, .int .u32 4027552580, .int .u32 3604390888, .int .u32 3412177804, .int .u32 2607071920, .int .u32 2262029012, .int .u32 2685067896, .int .u32 3183342108]) }
theorem laid_met (os : Os) : laidMet Tryz.prog Rows.tableNamesUptoRow.laid ((laidWorld os).forCall (fun _ _ => 0) ⟨#[], #[], []⟩).memory :=
  laidMet_of_run' 8 (by kernel_rfl) (by kernel_rfl)
theorem reads (os : Os) {H : Type} (enc : TypeId × Value → H) : ∃ places, DataW.whole enc Tryz.prog ((laidWorld os).forCall (fun _ _ => 0) ⟨#[], #[], []⟩).memory Tryz.f3.params.toList Rows.tableNamesSpec.vars false (#[] : Array Value).toList 8 = some ([], [], places) :=
  ⟨[], by kernel_rfl⟩

set_option maxRecDepth 100000 in
theorem lifted (os : Os) (started : os.Started) (H : Type) (enc : TypeId × Value → H) (F : Stop.Interp) :
    ReturnsInHanded {} Tryz.checked os 3 .any ((Rows.OpenSpec.upto Rows.tableNamesSpec).preRow enc Tryz.prog Tryz.f3 Rows.tableNamesUptoRow.domain false Rows.tableNamesUptoRow.laid) (((Rows.OpenSpec.upto Rows.tableNamesSpec).at F).post enc Tryz.prog Tryz.f3 false true false false) := by
  obtain ⟨places, hx⟩ := reads os enc
  refine returnsInHanded_of_row (C := Tryz.checked) (s := Rows.OpenSpec.upto Rows.tableNamesSpec) LP.own started (by kernel_rfl) Tryz.func3
    (witness_row_at (enc := enc) (C := Tryz.checked) false (laidWorld os) #[] rfl (by kernel_rfl) (by kernel_rfl) (by kernel_rfl)
      (OpenSpec.preRow_of_cond 8 hx (by kernel_rfl) (fun k hk => by cases hk; kernel_rfl) (by kernel_rfl) (laid_met os))) ?_
  intro W base args ds gs before hval hW _ _ _ hL _ _
  exact contract H enc W base args ds gs before hval hW hL

theorem said : Rows.TableNamesUptoSaid :=
  OpenClaim.holds_of_cond 3 Tryz.f3 rfl rfl rfl rfl rfl rfl rfl ⟨rfl, rfl, rfl, rfl, rfl⟩ rfl rfl rfl rfl rfl (by kernel_rfl) Tryz.func3 (by kernel_rfl)
    (of_decide_eq_true (by kernel_rfl)) (by unfold Func.isWrapper; first | (rw [if_pos (by decide +kernel)]; kernel_rfl) | (rw [if_neg (by decide +kernel)]; exact ⟨rfl, rfl⟩))
    (fun os started H enc _ F => by rw [OpenClaim.pre_eq_preRow]; exact lifted os started H enc F)

/-- No parameter wants a stand-in; the program's own looks are off: what the card asks. -/
theorem plain (f : FuncId) (fn : Func) (hf : Tryz.pinned.checked.prog.funcNamed "halyard/halyardlaw06.TableNames" = some f) (hfn : Tryz.pinned.checked.prog.funcs[f]? = some fn) :
    true = Tryz.pinned.checked.prog.looks [] ∧ ∀ (j : Nat) t, fn.params[j]? = some t → Tryz.pinned.checked.prog.wantsStandIn t = false := by
  obtain rfl : f = 3 := Option.some.inj ((show Tryz.prog.funcNamed "halyard/halyardlaw06.TableNames" = some 3 by kernel_rfl).symm.trans hf) |>.symm
  obtain rfl : fn = Tryz.f3 := (Option.some.inj (Tryz.func3.symm.trans hfn)).symm
  refine ⟨by kernel_rfl, fun j t ht => ?_⟩
  rw [params] at ht
  simp at ht

theorem card : Rows.TableNamesUptoCardSaid :=
  Claim7.holds_tied_plain_at .later [] _ _ _ _ said (fun _ h => by cases h) (by kernel_rfl) (fun _ h => by cases h) tableNamesUpto_row_tie rfl ⟨rfl, rfl⟩ (by kernel_rfl) rfl plain (by kernel_rfl)
end Go.Proofs.YtbjofbhhnmehgaaGreatDoor.KNz
