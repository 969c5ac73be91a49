/-
  The iterator of Down: from a stamp on, falling.
-/
import Derived.Test.YtagcohpghgnalaaCGL
set_option linter.unusedSimpArgs false
set_option linter.unusedVariables false
namespace Go.Proofs.Ytagcohpghgnalaa.U
open Go.RowKit Go.RG Go.Hp Go.Pg Go.Shelf Go.Proofs.Ytagcohpghgnalaa
attribute [local go_sem] Oper.semAt_some


/-- how many entries of a stamp's page are at or below it -/
def cut (R : List (List Ent)) (s : St) : Nat := entOf R s + (if there R s then 1 else 0)
/-- the rows up to a stamp -/
def rowsTo (R : List (List Ent)) (s : St) : List (List Ent) := R.take (pageOf R s) ++ [(pageAt R (pageOf R s)).take (cut R s)]
/-- the entries at or below a stamp, falling -/
def downs (R : List (List Ent)) (s : St) : List Ent := (rowsTo R s).flatten.reverse

/-- what has come when k rows are over, and m entries of the next one: from the last on -/
def far (L : List (List Ent)) (k m : Nat) : List Ent := (L.drop (L.length - k)).flatten.reverse ++ (pageAt L (L.length - 1 - k)).reverse.take m
theorem far_zero (L : List (List Ent)) : far L 0 0 = [] := by simp [far]
theorem drop_back {L : List (List Ent)} {k : Nat} (hk : k < L.length) : L.drop (L.length - (k + 1)) = pageAt L (L.length - 1 - k) :: L.drop (L.length - k) := by
  have h : L.length - (k + 1) < L.length := by omega
  have e : L.length - 1 - k = L.length - (k + 1) := by omega
  have e2 : L.length - (k + 1) + 1 = L.length - k := by omega
  rw [List.drop_eq_getElem_cons h, e, e2]
  simp [pageAt, h]
theorem far_next {L : List (List Ent)} {k : Nat} (hk : k < L.length) : far L k (pageAt L (L.length - 1 - k)).length = far L (k + 1) 0 := by
  unfold far
  have e := List.take_length (l := (pageAt L (L.length - 1 - k)).reverse)
  rw [List.length_reverse] at e
  rw [drop_back hk, e, List.flatten_cons, List.reverse_append, List.take_zero, List.append_nil]
theorem far_end (L : List (List Ent)) : far L L.length 0 = L.flatten.reverse := by simp [far]
theorem far_succ {L : List (List Ent)} {k m : Nat} (hm : m < (pageAt L (L.length - 1 - k)).length) :
    far L k (m + 1) = far L k m ++ [ent (pageAt L (L.length - 1 - k)) ((pageAt L (L.length - 1 - k)).length - 1 - m)] := by
  have h2 : (pageAt L (L.length - 1 - k)).length - 1 - m < (pageAt L (L.length - 1 - k)).length := by omega
  have e : (pageAt L (L.length - 1 - k)).reverse.take (m + 1) = (pageAt L (L.length - 1 - k)).reverse.take m ++ [ent (pageAt L (L.length - 1 - k)) ((pageAt L (L.length - 1 - k)).length - 1 - m)] := by
    rw [List.take_add_one, List.getElem?_reverse hm, List.getElem?_eq_getElem h2]
    simp [ent, h2]
  unfold far
  rw [e, List.append_assoc]
theorem far_pre {L : List (List Ent)} {k : Nat} (m : Nat) (hk : k < L.length) : far L k m <+: L.flatten.reverse := by
  have h : L = L.take (L.length - (k + 1)) ++ (pageAt L (L.length - 1 - k) :: L.drop (L.length - k)) := by rw [← drop_back hk, List.take_append_drop]
  have e : L.flatten.reverse = (L.drop (L.length - k)).flatten.reverse ++ ((pageAt L (L.length - 1 - k)).reverse ++ (L.take (L.length - (k + 1))).flatten.reverse) := by
    conv => lhs; rw [h]
    rw [List.flatten_append, List.flatten_cons, List.reverse_append, List.reverse_append, List.append_assoc]
  unfold far
  rw [e, List.prefix_append_right_inj]
  exact (List.take_prefix _ _).trans (List.prefix_append _ _)
theorem rowsTo_len {R : List (List Ent)} {s : St} (h : pageOf R s < R.length) : (rowsTo R s).length = pageOf R s + 1 := by simp [rowsTo]; omega
theorem rowsTo_last {R : List (List Ent)} {s : St} (h : pageOf R s < R.length) : pageAt (rowsTo R s) (pageOf R s) = (pageAt R (pageOf R s)).take (cut R s) := by
  simp [rowsTo, pageAt, List.getElem?_append, Nat.min_eq_left (Nat.le_of_lt h)]
theorem rowsTo_at {R : List (List Ent)} {s : St} (h : pageOf R s < R.length) {j : Nat} (hj : j < pageOf R s) : pageAt (rowsTo R s) j = pageAt R j := by
  have hjR : j < R.length := by omega
  simp [rowsTo, pageAt, List.getElem?_append, Nat.min_eq_left (Nat.le_of_lt h), hj, hjR]
theorem downs_nil (s : St) : downs [] s = [] := by simp [downs, rowsTo, pageAt]
theorem cut_le (R : List (List Ent)) (s : St) : cut R s ≤ (pageAt R (pageOf R s)).length := by
  unfold cut
  have h1 := entOf_le R s
  split
  · rename_i h
    have := (isIn_iff.1 h).1
    rw [length_keys] at this
    unfold entOf at h1 ⊢
    omega
  · omega

theorem OwnFrom.up {β : Type} {B B' : Nat} {J : β → World → Prop} (h : OwnFrom B J) (hB : B ≤ B') : OwnFrom B' J := fun s W W' row hs hg hr => h s W W' row hs hg fun r e => ⟨Nat.le_trans hB (hr r e).1, (hr r e).2⟩
theorem J_belowO {β : Type} {B : Nat} {J : β → World → Prop} (hJ : OwnFrom B J) {s : β} {W1 W2 : World} (h : J s W1) (hb : Below W1.heap.size W1 W2) : J s W2 :=
  hJ s W1 W2 none h ⟨hb.os, hb.tape, hb.output, hb.size, fun k hk _ => hb.block k hk⟩ (fun r e => by cases e)
theorem Kept.own {n0 : World → Prop} {Kp : World → World → Prop} {Pr : World → Nat → Prop} {A : Nat → Prop} {w3 : World} (hG : GuardP n0 Kp Pr) (B : Nat) : OwnFrom B (fun (_ : Unit) W => Kept n0 Pr A w3 W) :=
  fun _ W W' row hs hg hr => hs.keep (guard_P hG) (hG.grown W W' row hg (fun r e => (hr r e).2))

theorem ent_mem' {p : List Ent} {i : Nat} (h : i < p.length) : ent p i ∈ p := by
  have : ent p i = p[i] := by simp [ent, h]
  rw [this]; exact List.getElem_mem _
theorem heap3 {W : World} {b : Nat} {x y z : Value} {T : TypeId} (h : W.heap[b]? = some (.cells #[x, y, z] T (0, 0))) :
    W.cell? ⟨b, 0, none⟩ = some x ∧ W.cell? ⟨b, 1, none⟩ = some y ∧ W.cell? ⟨b, 2, none⟩ = some z := by simp [World.cell?, h]
/-- an entry of a row, as an iterator tells it -/
def evAt (p : List Ent) (m : Nat) : Ev := ⟨(ent p m).k, numOf (ent p m).v⟩
/-- the rows of a copy whose last one is cut -/
def rowV (pvs : List Value) (p : Nat) (u : Value) (q : Nat) : Value := if q = p then u else val pvs q
set_option maxHeartbeats 4000000 in
set_option maxRecDepth 100000 in
theorem down_stops (n : Nat) (bx size : Nat) (h0s : 0 < size) (R : List (List Ent)) (hm : R.length ≤ 274877906944) (hO : Ordered R) (hl : ∀ i, i < R.length → (pageAt R i).length ≤ 64) (hN : ∀ e ∈ R.flatten, NumV e.v) (s : St)
    (S : Nat → Prop) (vr : Value) (pvs : List Value) (Bx Bs : Nat) (n0 : World → Prop) (w : World) (hM : MemV w bx size R S vr pvs) (hcx : w.cell? ⟨Bx, 0, none⟩ = some (.pointer (some ⟨bx, 0, none⟩)))
    (hs0 : w.cell? ⟨Bs, 0, none⟩ = some (.int .u64 s.t)) (hs1 : w.cell? ⟨Bs, 1, none⟩ = some (.int .u64 s.s)) (Kp : World → World → Prop) (Pr : World → Nat → Prop) (hG : GuardP n0 Kp Pr) (hn0 : n0 w)
    (hPr : ∀ W, Below w.heap.size w W → ∀ i, i < R.length → ∀ k, (val pvs i).ownBlock = some k → Pr W k) :
    SeqO Fence.wide n Try.prog 77 #[.pointer (some ⟨Bx, 0, none⟩), .pointer (some ⟨Bs, 0, none⟩)] (fun e : Ev => #[.agg #[.int .u64 e.k.t, .int .u64 e.k.s], .int .u64 e.n]) Kp (fun xs => xs = evs (downs R s)) (fun pre => pre <+: evs (downs R s))
      (fun pre x => pre ++ [x] <+: evs (downs R s)) w := by
  intro l J Jx W hW hJ hJx hY hJ0
  have hx := below_cell hW hcx
  have ht0 := below_cell hW hs0
  have ht1 := below_cell hW hs1
  have hM := hM.below hW
  obtain ⟨m0, m1, m2⟩ := hM.cells
  have HM := Lib.hid hM; clear hM
  have hsz' : ((size : Int) == 0) = false := by rw [beq_eq_false_iff_ne]; omega
  refine callsIn_wide.2 ?_
  show Calls Try.prog 77 #[.func (.yield l) #[] #[], .pointer (some ⟨Bx, 0, none⟩), .pointer (some ⟨Bs, 0, none⟩)] W _
  have hBy := below_box W (.cells #[.func (.yield l) #[] #[]] 44)
  have m0' := below_cell hBy m0
  have m2' := below_cell hBy m2
  have hx' := below_cell hBy hx
  have ht0' := below_cell hBy ht0
  have ht1' := below_cell hBy ht1
  have gy := World.alloc_heap_new W (.cells #[.func (.yield l) #[] #[]] 44)
  have hJy := J_belowO hJ hJ0 hBy
  have HM' := Lib.hid (HM.out.below hBy)
  have hzy : (W.alloc (.cells #[.func (.yield l) #[] #[]] 44)).heap.size = W.heap.size + 1 := by simp
  refine (callsIn_wide (n := n + 4)).1 ?_
  refine callsIn_of_wp_marks Try.func77 rfl trivial ?_ rfl
  refine wpIn_wide.2 ?_
  simp only [Try.ntmps77, List.size_toArray, List.length_cons, List.length_nil, Nat.reduceAdd, Nat.reduceSub, Array.replicate_succ, Array.replicate_zero, List.push_toArray, List.append_toArray, List.nil_append, List.cons_append]
  go_wp2_with fail
  generalize W.alloc (.cells #[.func (.yield l) #[] #[]] 44) = Wy at hBy m0' m2' hx' ht0' ht1' gy hJy HM' hzy ⊢
  refine (bare_any bx size Wy m0').mono ?_
  rintro e w1 ⟨rfl, rfl⟩
  rw [hsz']
  rcases Nat.eq_zero_or_pos R.length with h0 | hR
  · obtain rfl := List.eq_nil_of_length_eq_zero h0
    obtain ⟨a, c, rfl, -⟩ := owns_shape HM.out.rows
    go_wp2_with fail
    exact ⟨_, results_none rfl _ _ _, ⟨_, rfl⟩, .inl ⟨_, by rw [downs_nil]; rfl, hJy⟩⟩
  · have hp := pageOf_lt (s := s) hR
    obtain ⟨g, cap, rfl, hg, hc, hcm, hrow, -⟩ := HM.out.row hR
    have hR0 : ((R.length : Int) == 0) = false := by rw [beq_eq_false_iff_ne]; omega
    have hPl := place_some s bx size (by omega) R hR (by omega) hO (fun i hi => by have := hl i hi; omega) S _ pvs Wy HM'.out
    unfold St.v at hPl
    go_wp2_with fail
    refine hPl.mono ?_
    rintro e w1 ⟨rfl, hB1⟩
    clear hPl
    have hx1 := below_cell hB1 hx'
    have m21 := below_cell hB1 m2'
    have hcp : pageOf R s + 1 ≤ cap := by omega
    cases hth : there R s
    · go_wp2_with fail
      have hrl := owns_length HM.out.rows
      refine (RU.clone_any ⟨g, 0, none⟩ (pageOf R s + 1) cap (pvs.take (pageOf R s + 1)) (by rw [List.length_take, hrl]; omega) (fun v hv => HM.out.rows_one v (List.mem_of_mem_take hv)) (by omega) w1 (fun j u hj => ?_)).mono ?_
      · rw [List.getElem?_take] at hj
        split at hj
        · rename_i hjl
          have hu := hrow j (by omega)
          have e : val pvs j = u := by simp [val, hj]
          rw [e] at hu
          rw [Addr.add_lit, Nat.zero_add]
          exact below_cell (below_trans hBy hB1) hu
        · cases hj
      rintro e w2 ⟨v, rfl, hown, -, hB2⟩
      obtain ⟨g', cap', rfl, hg'1, hg'2, hcl, hcm', hcell', hfr'⟩ := owns_parts hown (by omega)
      obtain ⟨og, hog, hogc⟩ := owns_cells hown rfl
      clear hown
      have hpv : pageOf R s < pvs.length := by rw [hrl]; omega
      obtain ⟨g2, cap2, hv2, hg2, hc2, hcm2, -⟩ := (HM.out.pages _ hp).parts (hO.full _ hp)
      have hcp2 := hcell' (pageOf R s) (by omega)
      have e2 : (pvs.take (pageOf R s + 1))[pageOf R s]? = some (.slice (some ⟨g2, 0, none⟩) (pageAt R (pageOf R s)).length cap2) := by
        rw [List.getElem?_take, if_pos (by omega), List.getElem?_eq_getElem hpv, ← hv2]
        simp [val, hpv]
      rw [e2] at hcp2
      have hfp := hfr' (pageOf R s)
      have hcu := cut_le R s
      have hcut : cut R s = entOf R s := by simp [cut, hth]
      have hcc : cut R s ≤ cap2 := by omega
      have hpi : (pageOf R s : Int) < ((pageOf R s + 1 : Nat) : Int) := by omega
      have hst : ∀ u : Value, (w2.setCell ⟨g', pageOf R s, none⟩ u).heap.size = w2.heap.size := fun u => by simp
      go_wp2_with fail
      refine (bkR_call _ _ _ _).mono ?_
      rintro e w5 ⟨rfl, hw5⟩
      rw [← hcut] at hw5
      clear hcut
      rw [hst] at ⊢
      have hz2 := (below_trans (below_trans hBy hB1) hB2).size
      have hz1 := (below_trans hBy hB1).size
      have hz1' := hB1.size
      have hBW : Below W.heap.size W w5 := by
        rw [hw5]
        exact (((below_trans (below_trans hBy hB1) hB2)).setCell (p := ⟨g', pageOf R s, none⟩) (show W.heap.size ≤ g' by omega) _).alloc (by rw [hst]; exact hz2) _
      have hb5 : w5.heap[w2.heap.size]? = some (.cells #[.slice (some ⟨g', 0, none⟩) (pageOf R s + 1) cap'] 80 (0, 0)) := by
        rw [hw5]
        have := World.alloc_heap_new (w2.setCell ⟨g', pageOf R s, none⟩ (.slice (some ⟨g2, 0, none⟩) (cut R s) cap2)) (.cells #[.slice (some ⟨g', 0, none⟩) (pageOf R s + 1) cap'] 80)
        rwa [hst] at this
      have hz5 : w5.heap.size = w2.heap.size + 1 := by rw [hw5]; simp
      have hy5 : w5.heap[W.heap.size]? = some (.cells #[.func (.yield l) #[] #[]] 44 (0, 0)) := by
        rw [hw5]
        exact heap_alloc_old _ (heap_set_ne _ (below_heap (below_trans hB1 hB2) gy) (by omega))
      have hV5 : ∀ q, q < pageOf R s + 1 → w5.cell? ⟨g', q, none⟩ = some (rowV pvs (pageOf R s) (.slice (some ⟨g2, 0, none⟩) (cut R s) cap2) q) := by
        intro q hq
        have hb : (w2.setCell ⟨g', pageOf R s, none⟩ (.slice (some ⟨g2, 0, none⟩) (cut R s) cap2)).cell? ⟨g', q, none⟩ = some (rowV pvs (pageOf R s) (.slice (some ⟨g2, 0, none⟩) (cut R s) cap2) q) := by
          unfold rowV
          by_cases hqp : q = pageOf R s
          · rw [if_pos hqp, hqp]
            exact World.cell?_setCell_same' _ _ _ (by rw [hcp2]; rfl)
          · rw [if_neg hqp, World.cell?_setCell_other _ _ _ _ (by simp; try omega), hcell' q (by omega), List.getElem?_take, if_pos hq]
            have : q < pvs.length := by omega
            simp [val, this]
        rw [hw5]
        exact below_cell (below_box _ _) hb
      have hBWy : Below Wy.heap.size Wy w5 := by
        rw [hw5]
        exact ((below_trans hB1 hB2).setCell (p := ⟨g', pageOf R s, none⟩) (show Wy.heap.size ≤ g' by omega) _).alloc (by rw [hst]; omega) _
      have hJ5 : J [] w5 := J_belowO hJ hJy hBWy
      clear hw5 hst hcell' hfr' hcp2 hfp e2 hx1 m21 hx' m0' m2' ht0' ht1' hJy HM'
      have hLl := rowsTo_len (s := s) hp
      have hK5 : Kept n0 Pr (fun k => k = w2.heap.size ∨ k = g' ∨ k = W.heap.size ∨ ∃ i, i < R.length ∧ (val pvs i).ownBlock = some k) w5 w5 := by
        have hzW := hW.size
        have hfr := (hG.fresh W w5 (hG.fresh w W hn0 hW).1 hBW).2
        refine ⟨(hG.fresh W w5 (hG.fresh w W hn0 hW).1 hBW).1, ?_, ?_, fun _ _ => rfl⟩
        · rintro k (rfl | rfl | rfl | ⟨i, hi, hk⟩)
          · exact hfr.2 _ _ (by omega) hb5 rfl
          · obtain ⟨o, ho, hoc⟩ := cells_of_cell (hV5 (pageOf R s) (by omega))
            exact hfr.2 _ o (by omega) ho hoc
          · exact hfr.2 _ _ (Nat.le_refl _) hy5 rfl
          · exact hPr w5 (hW.trans (hBW.mono hzW)) i hi k hk
        · rintro k (rfl | rfl | rfl | ⟨i, hi, hk⟩)
          · omega
          · omega
          · omega
          · have := owns_lt (HM.out.pages i hi).row hk
            omega
      have hrowX : ∀ q, q < pageOf R s + 1 → ∃ gq cq, rowV pvs (pageOf R s) (.slice (some ⟨g2, 0, none⟩) (cut R s) cap2) q = .slice (some ⟨gq, 0, none⟩) (pageAt (rowsTo R s) q).length cq ∧
          (∃ i, i < R.length ∧ (val pvs i).ownBlock = some gq) ∧ (pageAt (rowsTo R s) q).length ≤ 64 ∧ ∀ m, m < (pageAt (rowsTo R s) q).length → ∃ num, (ent (pageAt (rowsTo R s) q) m).v = .int .u64 num ∧
            w5.cell? ⟨gq, m * 3, none⟩ = some (.int .u64 (ent (pageAt (rowsTo R s) q) m).k.t) ∧ w5.cell? ⟨gq, m * 3 + 1, none⟩ = some (.int .u64 (ent (pageAt (rowsTo R s) q) m).k.s) ∧ w5.cell? ⟨gq, m * 3 + 2, none⟩ = some (.int .u64 num) := by
        intro q hq
        have hqR : q < R.length := by omega
        obtain ⟨gq, cq, hvq, hgq, -, -, hpg, -⟩ := (HM.out.pages _ hqR).parts (hO.full _ hqR)
        have hcells : ∀ m, m < (pageAt R q).length → ∃ num, (ent (pageAt R q) m).v = .int .u64 num ∧
            w5.cell? ⟨gq, m * 3, none⟩ = some (.int .u64 (ent (pageAt R q) m).k.t) ∧ w5.cell? ⟨gq, m * 3 + 1, none⟩ = some (.int .u64 (ent (pageAt R q) m).k.s) ∧ w5.cell? ⟨gq, m * 3 + 2, none⟩ = some (.int .u64 num) := by
          intro m hm
          obtain ⟨z0, z1, z2⟩ := hpg m hm
          obtain ⟨num, hnum⟩ := hN (ent (pageAt R q) m) (List.mem_flatten.2 ⟨_, pageAt_mem hqR, ent_mem' hm⟩)
          rw [hnum] at z2
          exact ⟨num, hnum, below_cell hBW z0, below_cell hBW z1, below_cell hBW z2⟩
        by_cases hqp : q = pageOf R s
        · rw [hqp, rowsTo_last hp, List.length_take, Nat.min_eq_left hcu]
          have hlp := hl _ hp
          refine ⟨g2, cap2, by unfold rowV; rw [if_pos rfl], ⟨_, hp, by rw [hv2]; rfl⟩, by omega, fun m hm => ?_⟩
          rw [hqp] at hcells hvq
          rw [hv2] at hvq
          injection hvq with e1 _ _
          injection e1 with e1
          injection e1 with e1
          subst e1
          obtain ⟨num, h1, h2, h3, h4⟩ := hcells m (by omega)
          have he : ent ((pageAt R (pageOf R s)).take (cut R s)) m = ent (pageAt R (pageOf R s)) m := by simp [ent, List.getElem?_take, hm]
          rw [he]
          exact ⟨num, h1, h2, h3, h4⟩
        · rw [rowsTo_at hp (show q < pageOf R s by omega)]
          exact ⟨gq, cq, by unfold rowV; rw [if_neg hqp, hvq], ⟨_, hqR, by rw [hvq]; rfl⟩, hl _ hqR, hcells⟩
      have HrowX := Lib.hid hrowX; clear hrowX
      go_wp2_with fail
      refine (wpIn_wide (n := n + 4)).1 ?_
      generalize hA0 : Act.mk _ [] = a0
      have hzW := hW.size
      have hG5 : ∀ W', Below w5.heap.size w5 W' → Pr W' w2.heap.size ∧ Pr W' g' := fun W' h => ⟨(hG.fresh w5 W' hK5.lo h).2.1 _ (hK5.pr _ (Or.inl rfl)), (hG.fresh w5 W' hK5.lo h).2.1 _ (hK5.pr _ (Or.inr (Or.inl rfl)))⟩
      have hKb : ∀ (B : Nat), w5.heap.size ≤ B → ∀ (W' : World) (l' : Nat) (o o' : Obj), B ≤ l' → W'.heap[l']? = some o → o.isCells = false → o.isWalk = false → KeepP n0 Pr W' (W'.putObj l' o') := fun B hB W' l' o o' h1 h2 h3 h4 =>
        hG.grown W' _ (some l') (grownBy_putObj' W' l' o') (fun r e => by injection e with e; subst e; exact ⟨o, h2, h3⟩)
      have HG5 := Lib.hid hG5; clear hG5
      have HKb := Lib.hid hKb; clear hKb
      refine wpIn_range_own (F := Fence.wide) rfl (by omega) (gf := 108) (lb := #[.pointer (some ⟨w2.heap.size, 0, none⟩)]) (by rw [← hA0]; rfl) trivial (enters_of Try.func108 (by kernel_rfl) rfl)
        (back_rows (n + 3) w2.heap.size g' (pageOf R s + 1) cap' n0 (rowV pvs (pageOf R s) (.slice (some ⟨g2, 0, none⟩) (cut R s) cap2)) (by omega) (KeepP n0 Pr) Pr (guard_P hG) w5 hK5.lo (by simp [World.cell?, hb5]) (by omega) hV5 HG5.out)
        (fun h k => h.trans k) (HKb.out _ (Nat.le_refl _)) (Below.refl _ _) (fun _ => rfl)
        (fun pre W' => ((∃ k, k ≤ pageOf R s + 1 ∧ pre = upl (fun q => (pageOf R s + 1 - 1 - q, rowV pvs (pageOf R s) (.slice (some ⟨g2, 0, none⟩) (cut R s) cap2) (pageOf R s + 1 - 1 - q))) k ∧ J (evs (far (rowsTo R s) k 0)) W') ∧ W'.heap[W.heap.size]? = some (.cells #[.func (.yield l) #[] #[]] 44 (0, 0))) ∧
          Kept n0 Pr (fun k => k = w2.heap.size ∨ k = g' ∨ k = W.heap.size ∨ ∃ i, i < R.length ∧ (val pvs i).ownBlock = some k) w5 W')
        (fun c pre W' => c = .ret ∧ ∃ q, q <+: evs (downs R s) ∧ Jx q W')
        (OwnFrom.and (OwnFrom.and (fun pre A B row hs hg hr => by
            obtain ⟨k, h1, h2, h3⟩ := hs
            exact ⟨k, h1, h2, OwnFrom.up hJ (by omega) _ A B row h3 hg hr⟩) (fun pre A B row hs hg hr => heap_keep hs rfl hg fun r e => (hr r e).2)) (fun pre A B row hs hg hr => Kept.own hG w5.heap.size () A B row hs hg hr))
        (fun c pre A B row hs hg hr => by
          obtain ⟨h1, q, h2, h3⟩ := hs
          exact ⟨h1, q, h2, OwnFrom.up hJx (show W.heap.size ≤ w5.heap.size by omega) _ A B row h3 hg hr⟩)
        ⟨⟨⟨0, by omega, rfl, by rw [far_zero]; exact hJ5⟩, hy5⟩, hK5⟩
        (fun x a' W' => a' = { tmps := ((a0.tmps.setIfInBounds 51 (.int .i64 x.1)).setIfInBounds 52 x.2).setIfInBounds 9 x.2, defers := [] })
        (fun x a' _ A B row hs hg hr => hs)
        ?assign ?body ?done ?stop
      case assign =>
        rintro l2 pre x W' K hi hok hK
        subst hA0
        gi_wp2_with fail
        exact hK _ _ (KeepsFrom.refl _ _) (KeepP.refl _ _ _) hi rfl
      case body =>
        rintro l2 pre x a' W' hl2 ⟨r2, hr2⟩ ⟨⟨⟨k, hk, rfl, hJ6⟩, hy6⟩, hK6⟩ rfl ⟨k', hk', hpk, rfl⟩
        subst hA0
        obtain rfl : k = k' := by have := congrArg List.length hpk; rwa [upl_length, upl_length] at this
        clear hpk
        have hkq : pageOf R s + 1 - 1 - k = pageOf R s - k := by omega
        obtain ⟨gq, cq, hvq, hAq, hlq, hcq⟩ := HrowX.out (pageOf R s - k) (by omega)
        have hkL : k < (rowsTo R s).length := by omega
        have hqL : (rowsTo R s).length - 1 - k = pageOf R s - k := by omega
        rw [hkq, hvq]
        have hz6 := hK6.lt _ (Or.inl rfl)
        gi_wp2_with fail
        refine ⟨trivial, CallsIn.inRound l2 (callsIn_wide.2 ((bkE_call _ _ _ _).mono ?_))⟩
        rintro e w7 ⟨rfl, hw7⟩
        have hB7 : Below W'.heap.size W' w7 := by rw [hw7]; exact below_box _ _
        have hb7 : w7.heap[W'.heap.size]? = some (.cells #[.slice (some ⟨gq, 0, none⟩) (pageAt (rowsTo R s) (pageOf R s - k)).length cq] 89 (0, 0)) := by rw [hw7]; exact World.alloc_heap_new _ _
        have hz7 : w7.heap.size = W'.heap.size + 1 := by rw [hw7]; simp
        clear hw7
        have hK7 := hK6.below (hG.toGuard) hB7
        have hJ7 := J_belowO hJ hJ6 hB7
        have hy7 := below_heap hB7 hy6
        have hr7 := below_heap hB7 hr2
        have hKP7 : KeepP n0 Pr W' w7 := KeepP.below hG hK6.lo hB7
        have hKF7 : KeepsFrom w5.heap.size W' w7 := ⟨hB7.size, fun k o _ ho _ => below_heap hB7 ho⟩
        have hcell7 : ∀ m, m < (pageAt (rowsTo R s) (pageOf R s - k)).length → w7.cell? ⟨gq, m * 3, none⟩ = some (.int .u64 (evAt (pageAt (rowsTo R s) (pageOf R s - k)) m).k.t) ∧ w7.cell? ⟨gq, m * 3 + 1, none⟩ = some (.int .u64 (evAt (pageAt (rowsTo R s) (pageOf R s - k)) m).k.s) ∧
            w7.cell? ⟨gq, m * 3 + 2, none⟩ = some (.int .u64 (evAt (pageAt (rowsTo R s) (pageOf R s - k)) m).n) := by
          intro m hm
          obtain ⟨num, h1, h2, h3, h4⟩ := hcq m hm
          refine ⟨hK7.cell (Or.inr (Or.inr (Or.inr hAq))) h2, hK7.cell (Or.inr (Or.inr (Or.inr hAq))) h3, ?_⟩
          have := hK7.cell (Or.inr (Or.inr (Or.inr hAq))) h4
          unfold evAt
          rw [h1]
          exact this
        have hgq7 := hK7.lt _ (Or.inr (Or.inr (Or.inr hAq)))
        have hG7 : ∀ W2, Below w7.heap.size w7 W2 → Pr W2 W'.heap.size ∧ Pr W2 gq := fun W2 h =>
          ⟨(hG.fresh w7 W2 hK7.lo h).2.1 _ ((hG.fresh W' w7 hK6.lo hB7).2.2 _ _ (Nat.le_refl _) hb7 rfl), (hG.fresh w7 W2 hK7.lo h).2.1 _ (hK7.pr _ (Or.inr (Or.inr (Or.inr hAq))))⟩
        gi_wp2_with fail
        generalize hA1 : Act.mk _ [] = a1
        refine wpIn_range_in (F := Fence.wide.inRound l2) (l₀ := l2) (r₀ := r2) rfl hr7 (by omega) (gf := 109) (lb := #[.pointer (some ⟨W'.heap.size, 0, none⟩)]) (by rw [← hA1]; rfl) trivial (enters_of Try.func109 (by kernel_rfl) rfl)
          (back_ents (n + 1) W'.heap.size gq _ cq n0 (evAt (pageAt (rowsTo R s) (pageOf R s - k))) (by omega) (KeepP n0 Pr) Pr (guard_P hG) w7 hK7.lo (by simp [World.cell?, hb7]) hgq7 hcell7 hG7)
          (fun h k => h.trans k) (HKb.out _ (by omega)) (Below.refl _ _) (fun _ => rfl)
          (fun pre W2 => ((((∃ m, m ≤ (pageAt (rowsTo R s) (pageOf R s - k)).length ∧ pre = upl (fun q => ((pageAt (rowsTo R s) (pageOf R s - k)).length - 1 - q, evAt (pageAt (rowsTo R s) (pageOf R s - k)) ((pageAt (rowsTo R s) (pageOf R s - k)).length - 1 - q))) m ∧ J (evs (far (rowsTo R s) k m)) W2) ∧ W2.heap[W.heap.size]? = some (.cells #[.func (.yield l) #[] #[]] 44 (0, 0))) ∧
            Kept n0 Pr (fun k => k = w2.heap.size ∨ k = g' ∨ k = W.heap.size ∨ ∃ i, i < R.length ∧ (val pvs i).ownBlock = some k) w5 W2) ∧ KeepP n0 Pr W' W2) ∧ KeepsFrom w5.heap.size W' W2)
          (fun c pre W2 => (c = .ret ∧ ∃ q, q <+: evs (downs R s) ∧ Jx q W2) ∧ KeepsFrom w5.heap.size W' W2)
          ?hI ?hIx ⟨⟨⟨⟨⟨0, by omega, rfl, hJ7⟩, hy7⟩, hK7⟩, hKP7⟩, hKF7⟩
          (fun x a' W2 => ∃ Be, W2.heap[Be]? = some (.cells #[.int .u64 x.2.k.t, .int .u64 x.2.k.s, .int .u64 x.2.n] 92 (0, 0)) ∧ a' = { tmps := ((a1.tmps.setIfInBounds 55 (.int .i64 x.1)).setIfInBounds 56 (.agg #[.int .u64 x.2.k.t, .int .u64 x.2.k.s, .int .u64 x.2.n])).setIfInBounds 11 (.pointer (some ⟨Be, 0, none⟩)), defers := [] })
          (fun x a' _ A B row hs hg hr => by obtain ⟨Be, h1, h2⟩ := hs; exact ⟨Be, heap_keep h1 rfl hg fun r e => (hr r e).2, h2⟩)
          ?assign2 ?body2 ?done2 ?stop2
        case hI =>
          refine OwnFrom.and (OwnFrom.and (OwnFrom.and (OwnFrom.and (fun pre A B row hs hg hr => ?_) (fun pre A B row hs hg hr => heap_keep hs rfl hg fun r e => (hr r e).2)) (fun pre A B row hs hg hr => Kept.own hG w7.heap.size () A B row hs hg hr)) (fun pre A B row hs hg hr => ?_)) (ownFrom_keepsFrom (by omega))
          · obtain ⟨m, h1, h2, h3⟩ := hs
            exact ⟨m, h1, h2, OwnFrom.up hJ (show W.heap.size ≤ w7.heap.size by omega) _ A B row h3 hg hr⟩
          · exact hs.trans (hG.grown A B row hg (fun r e => (hr r e).2))
        case hIx =>
          refine fun c => OwnFrom.and (fun pre A B row hs hg hr => ?_) (ownFrom_keepsFrom (by omega))
          obtain ⟨h1, q, h2, h3⟩ := hs
          exact ⟨h1, q, h2, OwnFrom.up hJx (show W.heap.size ≤ w7.heap.size by omega) _ A B row h3 hg hr⟩
        case assign2 =>
          rintro l3 pre x W2 K ⟨⟨⟨⟨⟨m, hm, rfl, hJ8⟩, hy8⟩, hK8⟩, hKP8⟩, hKF8⟩ hok hK
          subst hA1
          gi_wp2_with fail
          have hbx := below_box W2 (.cells #[.int .u64 x.snd.k.t, .int .u64 x.snd.k.s, .int .u64 x.snd.n] 92)
          exact hK _ _ ((KeepsOthers.alloc _ _).from _) (KeepP.below hG hK8.lo hbx)
            ⟨⟨⟨⟨⟨m, hm, rfl, J_belowO hJ hJ8 hbx⟩, heap_alloc_old _ hy8⟩, hK8.below hG.toGuard hbx⟩, hKP8.trans (KeepP.below hG hK8.lo hbx)⟩, hKF8.trans ((KeepsOthers.alloc _ _).from _)⟩ ⟨W2.heap.size, World.alloc_heap_new W2 _, rfl⟩
        case body2 =>
          rintro l3 pre x a' W2 hl3 ⟨r3, hr3⟩ ⟨⟨⟨⟨⟨m, hm, rfl, hJ8⟩, hy8⟩, hK8⟩, hKP8⟩, hKF8⟩ ⟨Be, hbe, rfl⟩ ⟨m', hm', hpm, rfl⟩
          subst hA1
          obtain rfl : m = m' := by have := congrArg List.length hpm; rwa [upl_length, upl_length] at this
          clear hpm
          have hlast : (pageAt (rowsTo R s) ((rowsTo R s).length - 1 - k)).length = (pageAt (rowsTo R s) (pageOf R s - k)).length := by rw [hqL]
          have hfs := far_succ (L := rowsTo R s) (k := k) (m := m) (by rw [hlast]; exact hm')
          rw [hqL] at hfs
          have hfp := far_pre (L := rowsTo R s) (m + 1) hkL
          have hev : evs (far (rowsTo R s) k (m + 1)) = evs (far (rowsTo R s) k m) ++ [evAt (pageAt (rowsTo R s) (pageOf R s - k)) ((pageAt (rowsTo R s) (pageOf R s - k)).length - 1 - m)] := by rw [hfs, evs_append]; rfl
          obtain ⟨fn, tmps, assign, body, hyy, hRr⟩ := hY _ (evAt (pageAt (rowsTo R s) (pageOf R s - k)) ((pageAt (rowsTo R s) (pageOf R s - k)).length - 1 - m)) W2 hJ8 (by rw [← hev]; exact hfp.map _)
          have hcy := (heap1 hy8).1
          obtain ⟨c0, c1, c2⟩ := heap3 hbe
          have hb2 := (upl_succ (fun q => ((pageAt (rowsTo R s) (pageOf R s - k)).length - 1 - q, evAt (pageAt (rowsTo R s) (pageOf R s - k)) ((pageAt (rowsTo R s) (pageOf R s - k)).length - 1 - q))) m).symm
          generalize evAt (pageAt (rowsTo R s) (pageOf R s - k)) ((pageAt (rowsTo R s) (pageOf R s - k)).length - 1 - m) = ex at hyy hRr c0 c1 c2 hev hb2 ⊢
          dsimp only at c0 c1 c2
          gi_wp2_with fail
          refine ⟨fun h => (by cases h), ?_⟩
          refine (show RoundIn ((Fence.wide.inRound l2).inRound l3) (n - 1) Try.prog l fn tmps assign body W2 _ from hRr).mono ?_
          rintro e W3 (⟨rfl, hJ9, hk9, hf9⟩ | ⟨rfl, hJx9, hf9⟩)
          · gi_wp2_with fail
            have hK9 := hK8.keep hG.toGuard hk9
            have hP9 := KeepP.of hG hK8.lo hk9
            exact ⟨KeepsFrom.up hf9 (by omega), hP9, ⟨⟨⟨⟨⟨m + 1, by omega, hb2, by rw [hev]; exact hJ9⟩, (hK9.eq _ (Or.inr (Or.inr (Or.inl rfl)))).trans hy5⟩, hK9⟩, hKP8.trans hP9⟩, hKF8.trans (KeepsFrom.up hf9 (by omega))⟩⟩
          · gi_wp2_with fail
            exact ⟨KeepsFrom.up hf9 (by omega), ⟨rfl, _, by rw [← hev]; exact hfp.map _, hJx9⟩, hKF8.trans (KeepsFrom.up hf9 (by omega))⟩
        case done2 =>
          rintro xs W2 rfl ⟨⟨⟨⟨⟨m, hm, hpm, hJ8⟩, hy8⟩, hK8⟩, hKP8⟩, hKF8⟩
          subst hA1
          obtain rfl : (pageAt (rowsTo R s) (pageOf R s - k)).length = m := by have := congrArg List.length hpm; rwa [upl_length, upl_length] at this
          have hfn := far_next hkL
          rw [hqL] at hfn
          gi_wp2_with fail
          refine ⟨by first | exact hKF8 | (rw [← hz5]; exact hKF8), hKP8, ⟨⟨⟨k + 1, by omega, ?_, by rw [← hfn]; exact hJ8⟩, hy8⟩, hK8⟩⟩
          rw [upl_succ, ← hvq, ← hkq]
        case stop2 =>
          rintro c pre W2 hpre ⟨⟨rfl, hq⟩, hKF8⟩
          subst hA1
          gi_wp2_with fail
          exact ⟨by first | exact hKF8 | (rw [← hz5]; exact hKF8), rfl, hq⟩
      case done =>
        rintro D xs W' hD rfl ⟨⟨⟨k, hk, hpk, hJ6⟩, hy6⟩, hK6⟩ hKD
        obtain rfl : pageOf R s + 1 = k := by have := congrArg List.length hpk; rwa [upl_length, upl_length] at this
        rw [← hLl, far_end] at hJ6
        subst hA0
        gi_wp2_with fail
        refine ⟨by simp, .inl ⟨_, _, rfl, run_takeDeferred hKD, ?_⟩⟩
        exact ⟨_, results_none rfl _ _ _, ⟨_, rfl⟩, .inl (hJ.putObj _ hJ6 (by omega) hKD rfl)⟩
      case stop =>
        rintro D c pre W' hD hpre ⟨rfl, q, hq, hJx6⟩ hKD
        subst hA0
        gi_wp2_with fail
        refine ⟨by simp, .inl ⟨_, _, rfl, run_takeDeferred hKD, ?_⟩⟩
        exact ⟨_, results_none rfl _ _ _, ⟨_, rfl⟩, .inr ⟨q, hq, hJx.putObj _ hJx6 (by omega) hKD rfl⟩⟩
    · have hlp := hl _ hp
      have hel := entOf_le R s
      go_wp2_with fail
      have hrl := owns_length HM.out.rows
      refine (RU.clone_any ⟨g, 0, none⟩ (pageOf R s + 1) cap (pvs.take (pageOf R s + 1)) (by rw [List.length_take, hrl]; omega) (fun v hv => HM.out.rows_one v (List.mem_of_mem_take hv)) (by omega) w1 (fun j u hj => ?_)).mono ?_
      · rw [List.getElem?_take] at hj
        split at hj
        · rename_i hjl
          have hu := hrow j (by omega)
          have e : val pvs j = u := by simp [val, hj]
          rw [e] at hu
          rw [Addr.add_lit, Nat.zero_add]
          exact below_cell (below_trans hBy hB1) hu
        · cases hj
      rintro e w2 ⟨v, rfl, hown, -, hB2⟩
      obtain ⟨g', cap', rfl, hg'1, hg'2, hcl, hcm', hcell', hfr'⟩ := owns_parts hown (by omega)
      obtain ⟨og, hog, hogc⟩ := owns_cells hown rfl
      clear hown
      have hpv : pageOf R s < pvs.length := by rw [hrl]; omega
      obtain ⟨g2, cap2, hv2, hg2, hc2, hcm2, -⟩ := (HM.out.pages _ hp).parts (hO.full _ hp)
      have hcp2 := hcell' (pageOf R s) (by omega)
      have e2 : (pvs.take (pageOf R s + 1))[pageOf R s]? = some (.slice (some ⟨g2, 0, none⟩) (pageAt R (pageOf R s)).length cap2) := by
        rw [List.getElem?_take, if_pos (by omega), List.getElem?_eq_getElem hpv, ← hv2]
        simp [val, hpv]
      rw [e2] at hcp2
      have hfp := hfr' (pageOf R s)
      have hcu := cut_le R s
      have hcut : cut R s = entOf R s + 1 := by simp [cut, hth]
      have hcc : cut R s ≤ cap2 := by omega
      have hpi : (pageOf R s : Int) < ((pageOf R s + 1 : Nat) : Int) := by omega
      have hst : ∀ u : Value, (w2.setCell ⟨g', pageOf R s, none⟩ u).heap.size = w2.heap.size := fun u => by simp
      go_wp2_with fail
      refine (bkR_call _ _ _ _).mono ?_
      rintro e w5 ⟨rfl, hw5⟩
      rw [← hcut] at hw5
      clear hcut
      rw [hst] at ⊢
      have hz2 := (below_trans (below_trans hBy hB1) hB2).size
      have hz1 := (below_trans hBy hB1).size
      have hz1' := hB1.size
      have hBW : Below W.heap.size W w5 := by
        rw [hw5]
        exact (((below_trans (below_trans hBy hB1) hB2)).setCell (p := ⟨g', pageOf R s, none⟩) (show W.heap.size ≤ g' by omega) _).alloc (by rw [hst]; exact hz2) _
      have hb5 : w5.heap[w2.heap.size]? = some (.cells #[.slice (some ⟨g', 0, none⟩) (pageOf R s + 1) cap'] 80 (0, 0)) := by
        rw [hw5]
        have := World.alloc_heap_new (w2.setCell ⟨g', pageOf R s, none⟩ (.slice (some ⟨g2, 0, none⟩) (cut R s) cap2)) (.cells #[.slice (some ⟨g', 0, none⟩) (pageOf R s + 1) cap'] 80)
        rwa [hst] at this
      have hz5 : w5.heap.size = w2.heap.size + 1 := by rw [hw5]; simp
      have hy5 : w5.heap[W.heap.size]? = some (.cells #[.func (.yield l) #[] #[]] 44 (0, 0)) := by
        rw [hw5]
        exact heap_alloc_old _ (heap_set_ne _ (below_heap (below_trans hB1 hB2) gy) (by omega))
      have hV5 : ∀ q, q < pageOf R s + 1 → w5.cell? ⟨g', q, none⟩ = some (rowV pvs (pageOf R s) (.slice (some ⟨g2, 0, none⟩) (cut R s) cap2) q) := by
        intro q hq
        have hb : (w2.setCell ⟨g', pageOf R s, none⟩ (.slice (some ⟨g2, 0, none⟩) (cut R s) cap2)).cell? ⟨g', q, none⟩ = some (rowV pvs (pageOf R s) (.slice (some ⟨g2, 0, none⟩) (cut R s) cap2) q) := by
          unfold rowV
          by_cases hqp : q = pageOf R s
          · rw [if_pos hqp, hqp]
            exact World.cell?_setCell_same' _ _ _ (by rw [hcp2]; rfl)
          · rw [if_neg hqp, World.cell?_setCell_other _ _ _ _ (by simp; try omega), hcell' q (by omega), List.getElem?_take, if_pos hq]
            have : q < pvs.length := by omega
            simp [val, this]
        rw [hw5]
        exact below_cell (below_box _ _) hb
      have hBWy : Below Wy.heap.size Wy w5 := by
        rw [hw5]
        exact ((below_trans hB1 hB2).setCell (p := ⟨g', pageOf R s, none⟩) (show Wy.heap.size ≤ g' by omega) _).alloc (by rw [hst]; omega) _
      have hJ5 : J [] w5 := J_belowO hJ hJy hBWy
      clear hw5 hst hcell' hfr' hcp2 hfp e2 hx1 m21 hx' m0' m2' ht0' ht1' hJy HM'
      have hLl := rowsTo_len (s := s) hp
      have hK5 : Kept n0 Pr (fun k => k = w2.heap.size ∨ k = g' ∨ k = W.heap.size ∨ ∃ i, i < R.length ∧ (val pvs i).ownBlock = some k) w5 w5 := by
        have hzW := hW.size
        have hfr := (hG.fresh W w5 (hG.fresh w W hn0 hW).1 hBW).2
        refine ⟨(hG.fresh W w5 (hG.fresh w W hn0 hW).1 hBW).1, ?_, ?_, fun _ _ => rfl⟩
        · rintro k (rfl | rfl | rfl | ⟨i, hi, hk⟩)
          · exact hfr.2 _ _ (by omega) hb5 rfl
          · obtain ⟨o, ho, hoc⟩ := cells_of_cell (hV5 (pageOf R s) (by omega))
            exact hfr.2 _ o (by omega) ho hoc
          · exact hfr.2 _ _ (Nat.le_refl _) hy5 rfl
          · exact hPr w5 (hW.trans (hBW.mono hzW)) i hi k hk
        · rintro k (rfl | rfl | rfl | ⟨i, hi, hk⟩)
          · omega
          · omega
          · omega
          · have := owns_lt (HM.out.pages i hi).row hk
            omega
      have hrowX : ∀ q, q < pageOf R s + 1 → ∃ gq cq, rowV pvs (pageOf R s) (.slice (some ⟨g2, 0, none⟩) (cut R s) cap2) q = .slice (some ⟨gq, 0, none⟩) (pageAt (rowsTo R s) q).length cq ∧
          (∃ i, i < R.length ∧ (val pvs i).ownBlock = some gq) ∧ (pageAt (rowsTo R s) q).length ≤ 64 ∧ ∀ m, m < (pageAt (rowsTo R s) q).length → ∃ num, (ent (pageAt (rowsTo R s) q) m).v = .int .u64 num ∧
            w5.cell? ⟨gq, m * 3, none⟩ = some (.int .u64 (ent (pageAt (rowsTo R s) q) m).k.t) ∧ w5.cell? ⟨gq, m * 3 + 1, none⟩ = some (.int .u64 (ent (pageAt (rowsTo R s) q) m).k.s) ∧ w5.cell? ⟨gq, m * 3 + 2, none⟩ = some (.int .u64 num) := by
        intro q hq
        have hqR : q < R.length := by omega
        obtain ⟨gq, cq, hvq, hgq, -, -, hpg, -⟩ := (HM.out.pages _ hqR).parts (hO.full _ hqR)
        have hcells : ∀ m, m < (pageAt R q).length → ∃ num, (ent (pageAt R q) m).v = .int .u64 num ∧
            w5.cell? ⟨gq, m * 3, none⟩ = some (.int .u64 (ent (pageAt R q) m).k.t) ∧ w5.cell? ⟨gq, m * 3 + 1, none⟩ = some (.int .u64 (ent (pageAt R q) m).k.s) ∧ w5.cell? ⟨gq, m * 3 + 2, none⟩ = some (.int .u64 num) := by
          intro m hm
          obtain ⟨z0, z1, z2⟩ := hpg m hm
          obtain ⟨num, hnum⟩ := hN (ent (pageAt R q) m) (List.mem_flatten.2 ⟨_, pageAt_mem hqR, ent_mem' hm⟩)
          rw [hnum] at z2
          exact ⟨num, hnum, below_cell hBW z0, below_cell hBW z1, below_cell hBW z2⟩
        by_cases hqp : q = pageOf R s
        · rw [hqp, rowsTo_last hp, List.length_take, Nat.min_eq_left hcu]
          have hlp := hl _ hp
          refine ⟨g2, cap2, by unfold rowV; rw [if_pos rfl], ⟨_, hp, by rw [hv2]; rfl⟩, by omega, fun m hm => ?_⟩
          rw [hqp] at hcells hvq
          rw [hv2] at hvq
          injection hvq with e1 _ _
          injection e1 with e1
          injection e1 with e1
          subst e1
          obtain ⟨num, h1, h2, h3, h4⟩ := hcells m (by omega)
          have he : ent ((pageAt R (pageOf R s)).take (cut R s)) m = ent (pageAt R (pageOf R s)) m := by simp [ent, List.getElem?_take, hm]
          rw [he]
          exact ⟨num, h1, h2, h3, h4⟩
        · rw [rowsTo_at hp (show q < pageOf R s by omega)]
          exact ⟨gq, cq, by unfold rowV; rw [if_neg hqp, hvq], ⟨_, hqR, by rw [hvq]; rfl⟩, hl _ hqR, hcells⟩
      have HrowX := Lib.hid hrowX; clear hrowX
      go_wp2_with fail
      refine (wpIn_wide (n := n + 4)).1 ?_
      generalize hA0 : Act.mk _ [] = a0
      have hzW := hW.size
      have hG5 : ∀ W', Below w5.heap.size w5 W' → Pr W' w2.heap.size ∧ Pr W' g' := fun W' h => ⟨(hG.fresh w5 W' hK5.lo h).2.1 _ (hK5.pr _ (Or.inl rfl)), (hG.fresh w5 W' hK5.lo h).2.1 _ (hK5.pr _ (Or.inr (Or.inl rfl)))⟩
      have hKb : ∀ (B : Nat), w5.heap.size ≤ B → ∀ (W' : World) (l' : Nat) (o o' : Obj), B ≤ l' → W'.heap[l']? = some o → o.isCells = false → o.isWalk = false → KeepP n0 Pr W' (W'.putObj l' o') := fun B hB W' l' o o' h1 h2 h3 h4 =>
        hG.grown W' _ (some l') (grownBy_putObj' W' l' o') (fun r e => by injection e with e; subst e; exact ⟨o, h2, h3⟩)
      have HG5 := Lib.hid hG5; clear hG5
      have HKb := Lib.hid hKb; clear hKb
      refine wpIn_range_own (F := Fence.wide) rfl (by omega) (gf := 108) (lb := #[.pointer (some ⟨w2.heap.size, 0, none⟩)]) (by rw [← hA0]; rfl) trivial (enters_of Try.func108 (by kernel_rfl) rfl)
        (back_rows (n + 3) w2.heap.size g' (pageOf R s + 1) cap' n0 (rowV pvs (pageOf R s) (.slice (some ⟨g2, 0, none⟩) (cut R s) cap2)) (by omega) (KeepP n0 Pr) Pr (guard_P hG) w5 hK5.lo (by simp [World.cell?, hb5]) (by omega) hV5 HG5.out)
        (fun h k => h.trans k) (HKb.out _ (Nat.le_refl _)) (Below.refl _ _) (fun _ => rfl)
        (fun pre W' => ((∃ k, k ≤ pageOf R s + 1 ∧ pre = upl (fun q => (pageOf R s + 1 - 1 - q, rowV pvs (pageOf R s) (.slice (some ⟨g2, 0, none⟩) (cut R s) cap2) (pageOf R s + 1 - 1 - q))) k ∧ J (evs (far (rowsTo R s) k 0)) W') ∧ W'.heap[W.heap.size]? = some (.cells #[.func (.yield l) #[] #[]] 44 (0, 0))) ∧
          Kept n0 Pr (fun k => k = w2.heap.size ∨ k = g' ∨ k = W.heap.size ∨ ∃ i, i < R.length ∧ (val pvs i).ownBlock = some k) w5 W')
        (fun c pre W' => c = .ret ∧ ∃ q, q <+: evs (downs R s) ∧ Jx q W')
        (OwnFrom.and (OwnFrom.and (fun pre A B row hs hg hr => by
            obtain ⟨k, h1, h2, h3⟩ := hs
            exact ⟨k, h1, h2, OwnFrom.up hJ (by omega) _ A B row h3 hg hr⟩) (fun pre A B row hs hg hr => heap_keep hs rfl hg fun r e => (hr r e).2)) (fun pre A B row hs hg hr => Kept.own hG w5.heap.size () A B row hs hg hr))
        (fun c pre A B row hs hg hr => by
          obtain ⟨h1, q, h2, h3⟩ := hs
          exact ⟨h1, q, h2, OwnFrom.up hJx (show W.heap.size ≤ w5.heap.size by omega) _ A B row h3 hg hr⟩)
        ⟨⟨⟨0, by omega, rfl, by rw [far_zero]; exact hJ5⟩, hy5⟩, hK5⟩
        (fun x a' W' => a' = { tmps := ((a0.tmps.setIfInBounds 51 (.int .i64 x.1)).setIfInBounds 52 x.2).setIfInBounds 9 x.2, defers := [] })
        (fun x a' _ A B row hs hg hr => hs)
        ?assign ?body ?done ?stop
      case assign =>
        rintro l2 pre x W' K hi hok hK
        subst hA0
        gi_wp2_with fail
        exact hK _ _ (KeepsFrom.refl _ _) (KeepP.refl _ _ _) hi rfl
      case body =>
        rintro l2 pre x a' W' hl2 ⟨r2, hr2⟩ ⟨⟨⟨k, hk, rfl, hJ6⟩, hy6⟩, hK6⟩ rfl ⟨k', hk', hpk, rfl⟩
        subst hA0
        obtain rfl : k = k' := by have := congrArg List.length hpk; rwa [upl_length, upl_length] at this
        clear hpk
        have hkq : pageOf R s + 1 - 1 - k = pageOf R s - k := by omega
        obtain ⟨gq, cq, hvq, hAq, hlq, hcq⟩ := HrowX.out (pageOf R s - k) (by omega)
        have hkL : k < (rowsTo R s).length := by omega
        have hqL : (rowsTo R s).length - 1 - k = pageOf R s - k := by omega
        rw [hkq, hvq]
        have hz6 := hK6.lt _ (Or.inl rfl)
        gi_wp2_with fail
        refine ⟨trivial, CallsIn.inRound l2 (callsIn_wide.2 ((bkE_call _ _ _ _).mono ?_))⟩
        rintro e w7 ⟨rfl, hw7⟩
        have hB7 : Below W'.heap.size W' w7 := by rw [hw7]; exact below_box _ _
        have hb7 : w7.heap[W'.heap.size]? = some (.cells #[.slice (some ⟨gq, 0, none⟩) (pageAt (rowsTo R s) (pageOf R s - k)).length cq] 89 (0, 0)) := by rw [hw7]; exact World.alloc_heap_new _ _
        have hz7 : w7.heap.size = W'.heap.size + 1 := by rw [hw7]; simp
        clear hw7
        have hK7 := hK6.below (hG.toGuard) hB7
        have hJ7 := J_belowO hJ hJ6 hB7
        have hy7 := below_heap hB7 hy6
        have hr7 := below_heap hB7 hr2
        have hKP7 : KeepP n0 Pr W' w7 := KeepP.below hG hK6.lo hB7
        have hKF7 : KeepsFrom w5.heap.size W' w7 := ⟨hB7.size, fun k o _ ho _ => below_heap hB7 ho⟩
        have hcell7 : ∀ m, m < (pageAt (rowsTo R s) (pageOf R s - k)).length → w7.cell? ⟨gq, m * 3, none⟩ = some (.int .u64 (evAt (pageAt (rowsTo R s) (pageOf R s - k)) m).k.t) ∧ w7.cell? ⟨gq, m * 3 + 1, none⟩ = some (.int .u64 (evAt (pageAt (rowsTo R s) (pageOf R s - k)) m).k.s) ∧
            w7.cell? ⟨gq, m * 3 + 2, none⟩ = some (.int .u64 (evAt (pageAt (rowsTo R s) (pageOf R s - k)) m).n) := by
          intro m hm
          obtain ⟨num, h1, h2, h3, h4⟩ := hcq m hm
          refine ⟨hK7.cell (Or.inr (Or.inr (Or.inr hAq))) h2, hK7.cell (Or.inr (Or.inr (Or.inr hAq))) h3, ?_⟩
          have := hK7.cell (Or.inr (Or.inr (Or.inr hAq))) h4
          unfold evAt
          rw [h1]
          exact this
        have hgq7 := hK7.lt _ (Or.inr (Or.inr (Or.inr hAq)))
        have hG7 : ∀ W2, Below w7.heap.size w7 W2 → Pr W2 W'.heap.size ∧ Pr W2 gq := fun W2 h =>
          ⟨(hG.fresh w7 W2 hK7.lo h).2.1 _ ((hG.fresh W' w7 hK6.lo hB7).2.2 _ _ (Nat.le_refl _) hb7 rfl), (hG.fresh w7 W2 hK7.lo h).2.1 _ (hK7.pr _ (Or.inr (Or.inr (Or.inr hAq))))⟩
        gi_wp2_with fail
        generalize hA1 : Act.mk _ [] = a1
        refine wpIn_range_in (F := Fence.wide.inRound l2) (l₀ := l2) (r₀ := r2) rfl hr7 (by omega) (gf := 109) (lb := #[.pointer (some ⟨W'.heap.size, 0, none⟩)]) (by rw [← hA1]; rfl) trivial (enters_of Try.func109 (by kernel_rfl) rfl)
          (back_ents (n + 1) W'.heap.size gq _ cq n0 (evAt (pageAt (rowsTo R s) (pageOf R s - k))) (by omega) (KeepP n0 Pr) Pr (guard_P hG) w7 hK7.lo (by simp [World.cell?, hb7]) hgq7 hcell7 hG7)
          (fun h k => h.trans k) (HKb.out _ (by omega)) (Below.refl _ _) (fun _ => rfl)
          (fun pre W2 => ((((∃ m, m ≤ (pageAt (rowsTo R s) (pageOf R s - k)).length ∧ pre = upl (fun q => ((pageAt (rowsTo R s) (pageOf R s - k)).length - 1 - q, evAt (pageAt (rowsTo R s) (pageOf R s - k)) ((pageAt (rowsTo R s) (pageOf R s - k)).length - 1 - q))) m ∧ J (evs (far (rowsTo R s) k m)) W2) ∧ W2.heap[W.heap.size]? = some (.cells #[.func (.yield l) #[] #[]] 44 (0, 0))) ∧
            Kept n0 Pr (fun k => k = w2.heap.size ∨ k = g' ∨ k = W.heap.size ∨ ∃ i, i < R.length ∧ (val pvs i).ownBlock = some k) w5 W2) ∧ KeepP n0 Pr W' W2) ∧ KeepsFrom w5.heap.size W' W2)
          (fun c pre W2 => (c = .ret ∧ ∃ q, q <+: evs (downs R s) ∧ Jx q W2) ∧ KeepsFrom w5.heap.size W' W2)
          ?hI ?hIx ⟨⟨⟨⟨⟨0, by omega, rfl, hJ7⟩, hy7⟩, hK7⟩, hKP7⟩, hKF7⟩
          (fun x a' W2 => ∃ Be, W2.heap[Be]? = some (.cells #[.int .u64 x.2.k.t, .int .u64 x.2.k.s, .int .u64 x.2.n] 92 (0, 0)) ∧ a' = { tmps := ((a1.tmps.setIfInBounds 55 (.int .i64 x.1)).setIfInBounds 56 (.agg #[.int .u64 x.2.k.t, .int .u64 x.2.k.s, .int .u64 x.2.n])).setIfInBounds 11 (.pointer (some ⟨Be, 0, none⟩)), defers := [] })
          (fun x a' _ A B row hs hg hr => by obtain ⟨Be, h1, h2⟩ := hs; exact ⟨Be, heap_keep h1 rfl hg fun r e => (hr r e).2, h2⟩)
          ?assign2 ?body2 ?done2 ?stop2
        case hI =>
          refine OwnFrom.and (OwnFrom.and (OwnFrom.and (OwnFrom.and (fun pre A B row hs hg hr => ?_) (fun pre A B row hs hg hr => heap_keep hs rfl hg fun r e => (hr r e).2)) (fun pre A B row hs hg hr => Kept.own hG w7.heap.size () A B row hs hg hr)) (fun pre A B row hs hg hr => ?_)) (ownFrom_keepsFrom (by omega))
          · obtain ⟨m, h1, h2, h3⟩ := hs
            exact ⟨m, h1, h2, OwnFrom.up hJ (show W.heap.size ≤ w7.heap.size by omega) _ A B row h3 hg hr⟩
          · exact hs.trans (hG.grown A B row hg (fun r e => (hr r e).2))
        case hIx =>
          refine fun c => OwnFrom.and (fun pre A B row hs hg hr => ?_) (ownFrom_keepsFrom (by omega))
          obtain ⟨h1, q, h2, h3⟩ := hs
          exact ⟨h1, q, h2, OwnFrom.up hJx (show W.heap.size ≤ w7.heap.size by omega) _ A B row h3 hg hr⟩
        case assign2 =>
          rintro l3 pre x W2 K ⟨⟨⟨⟨⟨m, hm, rfl, hJ8⟩, hy8⟩, hK8⟩, hKP8⟩, hKF8⟩ hok hK
          subst hA1
          gi_wp2_with fail
          have hbx := below_box W2 (.cells #[.int .u64 x.snd.k.t, .int .u64 x.snd.k.s, .int .u64 x.snd.n] 92)
          exact hK _ _ ((KeepsOthers.alloc _ _).from _) (KeepP.below hG hK8.lo hbx)
            ⟨⟨⟨⟨⟨m, hm, rfl, J_belowO hJ hJ8 hbx⟩, heap_alloc_old _ hy8⟩, hK8.below hG.toGuard hbx⟩, hKP8.trans (KeepP.below hG hK8.lo hbx)⟩, hKF8.trans ((KeepsOthers.alloc _ _).from _)⟩ ⟨W2.heap.size, World.alloc_heap_new W2 _, rfl⟩
        case body2 =>
          rintro l3 pre x a' W2 hl3 ⟨r3, hr3⟩ ⟨⟨⟨⟨⟨m, hm, rfl, hJ8⟩, hy8⟩, hK8⟩, hKP8⟩, hKF8⟩ ⟨Be, hbe, rfl⟩ ⟨m', hm', hpm, rfl⟩
          subst hA1
          obtain rfl : m = m' := by have := congrArg List.length hpm; rwa [upl_length, upl_length] at this
          clear hpm
          have hlast : (pageAt (rowsTo R s) ((rowsTo R s).length - 1 - k)).length = (pageAt (rowsTo R s) (pageOf R s - k)).length := by rw [hqL]
          have hfs := far_succ (L := rowsTo R s) (k := k) (m := m) (by rw [hlast]; exact hm')
          rw [hqL] at hfs
          have hfp := far_pre (L := rowsTo R s) (m + 1) hkL
          have hev : evs (far (rowsTo R s) k (m + 1)) = evs (far (rowsTo R s) k m) ++ [evAt (pageAt (rowsTo R s) (pageOf R s - k)) ((pageAt (rowsTo R s) (pageOf R s - k)).length - 1 - m)] := by rw [hfs, evs_append]; rfl
          obtain ⟨fn, tmps, assign, body, hyy, hRr⟩ := hY _ (evAt (pageAt (rowsTo R s) (pageOf R s - k)) ((pageAt (rowsTo R s) (pageOf R s - k)).length - 1 - m)) W2 hJ8 (by rw [← hev]; exact hfp.map _)
          have hcy := (heap1 hy8).1
          obtain ⟨c0, c1, c2⟩ := heap3 hbe
          have hb2 := (upl_succ (fun q => ((pageAt (rowsTo R s) (pageOf R s - k)).length - 1 - q, evAt (pageAt (rowsTo R s) (pageOf R s - k)) ((pageAt (rowsTo R s) (pageOf R s - k)).length - 1 - q))) m).symm
          generalize evAt (pageAt (rowsTo R s) (pageOf R s - k)) ((pageAt (rowsTo R s) (pageOf R s - k)).length - 1 - m) = ex at hyy hRr c0 c1 c2 hev hb2 ⊢
          dsimp only at c0 c1 c2
          gi_wp2_with fail
          refine ⟨fun h => (by cases h), ?_⟩
          refine (show RoundIn ((Fence.wide.inRound l2).inRound l3) (n - 1) Try.prog l fn tmps assign body W2 _ from hRr).mono ?_
          rintro e W3 (⟨rfl, hJ9, hk9, hf9⟩ | ⟨rfl, hJx9, hf9⟩)
          · gi_wp2_with fail
            have hK9 := hK8.keep hG.toGuard hk9
            have hP9 := KeepP.of hG hK8.lo hk9
            exact ⟨KeepsFrom.up hf9 (by omega), hP9, ⟨⟨⟨⟨⟨m + 1, by omega, hb2, by rw [hev]; exact hJ9⟩, (hK9.eq _ (Or.inr (Or.inr (Or.inl rfl)))).trans hy5⟩, hK9⟩, hKP8.trans hP9⟩, hKF8.trans (KeepsFrom.up hf9 (by omega))⟩⟩
          · gi_wp2_with fail
            exact ⟨KeepsFrom.up hf9 (by omega), ⟨rfl, _, by rw [← hev]; exact hfp.map _, hJx9⟩, hKF8.trans (KeepsFrom.up hf9 (by omega))⟩
        case done2 =>
          rintro xs W2 rfl ⟨⟨⟨⟨⟨m, hm, hpm, hJ8⟩, hy8⟩, hK8⟩, hKP8⟩, hKF8⟩
          subst hA1
          obtain rfl : (pageAt (rowsTo R s) (pageOf R s - k)).length = m := by have := congrArg List.length hpm; rwa [upl_length, upl_length] at this
          have hfn := far_next hkL
          rw [hqL] at hfn
          gi_wp2_with fail
          refine ⟨by first | exact hKF8 | (rw [← hz5]; exact hKF8), hKP8, ⟨⟨⟨k + 1, by omega, ?_, by rw [← hfn]; exact hJ8⟩, hy8⟩, hK8⟩⟩
          rw [upl_succ, ← hvq, ← hkq]
        case stop2 =>
          rintro c pre W2 hpre ⟨⟨rfl, hq⟩, hKF8⟩
          subst hA1
          gi_wp2_with fail
          exact ⟨by first | exact hKF8 | (rw [← hz5]; exact hKF8), rfl, hq⟩
      case done =>
        rintro D xs W' hD rfl ⟨⟨⟨k, hk, hpk, hJ6⟩, hy6⟩, hK6⟩ hKD
        obtain rfl : pageOf R s + 1 = k := by have := congrArg List.length hpk; rwa [upl_length, upl_length] at this
        rw [← hLl, far_end] at hJ6
        subst hA0
        gi_wp2_with fail
        refine ⟨by simp, .inl ⟨_, _, rfl, run_takeDeferred hKD, ?_⟩⟩
        exact ⟨_, results_none rfl _ _ _, ⟨_, rfl⟩, .inl (hJ.putObj _ hJ6 (by omega) hKD rfl)⟩
      case stop =>
        rintro D c pre W' hD hpre ⟨rfl, q, hq, hJx6⟩ hKD
        subst hA0
        gi_wp2_with fail
        refine ⟨by simp, .inl ⟨_, _, rfl, run_takeDeferred hKD, ?_⟩⟩
        exact ⟨_, results_none rfl _ _ _, ⟨_, rfl⟩, .inr ⟨q, hq, hJx.putObj _ hJx6 (by omega) hKD rfl⟩⟩

/-- the iterator that Down gives, in any world that has grown since -/
theorem down_seq (n : Nat) (bx size : Nat) (h0s : 0 < size) (R : List (List Ent)) (hm : R.length ≤ 274877906944) (hO : Ordered R) (hl : ∀ i, i < R.length → (pageAt R i).length ≤ 64) (hN : ∀ e ∈ R.flatten, NumV e.v) (s : St)
    (S : Nat → Prop) (vr : Value) (pvs : List Value) (Bx Bs n0 : Nat) (w : World) (hM : MemV w bx size R S vr pvs) (hcx : w.cell? ⟨Bx, 0, none⟩ = some (.pointer (some ⟨bx, 0, none⟩)))
    (hs0 : w.cell? ⟨Bs, 0, none⟩ = some (.int .u64 s.t)) (hs1 : w.cell? ⟨Bs, 1, none⟩ = some (.int .u64 s.s)) (T : Nat → Prop) (hT : ∀ k, T k → k < n0) (hn0 : n0 ≤ w.heap.size) (hST : ∀ k, S k → ¬ T k) :
    SeqO Fence.wide n Try.prog 77 #[.pointer (some ⟨Bx, 0, none⟩), .pointer (some ⟨Bs, 0, none⟩)] (fun e : Ev => #[.agg #[.int .u64 e.k.t, .int .u64 e.k.s], .int .u64 e.n]) (KeepC T) (fun xs => xs = evs (downs R s)) (fun pre => pre <+: evs (downs R s))
      (fun pre x => pre ++ [x] <+: evs (downs R s)) w :=
  down_stops n bx size h0s R hm hO hl hN s S vr pvs Bx Bs _ w hM hcx hs0 hs1 (KeepC T) _ (guardP_keepC hT) hn0 fun W hW i hi k hk => by
    have hM' := hM.below hW
    obtain ⟨o, ho, hoc⟩ := owns_cells (hM'.pages i hi).row hk
    exact ⟨hST k (hM.sp i hi k hk).1, o, ho, hoc⟩
end Go.Proofs.Ytagcohpghgnalaa.U
