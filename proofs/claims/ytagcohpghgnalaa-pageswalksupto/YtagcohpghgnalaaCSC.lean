/-
  PagesWalks: what the walk leans on. A drawn region with a forced tail, within a round; an index beside a book whose iterators go along while it is turned.
-/
import Derived.StillTail
import Derived.Test.YtagcohpghgnalaaCPU
import Derived.Test.YtagcohpghgnalaaCBA
import Derived.Test.YtagcohpghgnalaaCLO
set_option linter.unusedSimpArgs false
set_option linter.unusedVariables false
namespace Go.RG
open Go.RowKit
section
variable {P : Program} {sp : Nat → Option Spec} {l0 n0 : Nat}
theorem wpAnyIn_of_seq {F : Fence} {md : Region.Mode} {ops : Array Oper} {Q' : Exit → Act → World → Prop} : ∀ (l : List Oper) (k : Nat) (listed : Array Bool) (a : Act) (w : World), (∀ j, l[j]? = ops[k + j]?) →
    Region.seqB md ops l.length k listed = true → wpListIn F n0 P ops Q' l a w → wpAnyIn F n0 P md ops Q' l.length listed a w
  | [], _, _, _, _, _, hB, h => ⟨by simpa [Region.seqB] using hB, h⟩
  | o :: l, k, listed, a, w, hl, hB, h => by
    have h0 : ops[k]? = some o := by simpa using (hl 0).symm
    simp only [List.length_cons, Region.seqB, Bool.and_eq_true, decide_eq_true_eq] at hB
    refine ⟨fun h1 => (by rw [hB.1] at h1; cases h1), fun i hi => ?_⟩
    rw [hB.1] at hi
    have hik : i = k := by simpa using hi
    subst hik
    have hw : wpOpIn F n0 P ops Q' i (wpListIn F n0 P ops Q' l) a w := by unfold wpOpIn; simp only [h0]; exact h
    exact wpOpIn_mono (fun a' w' h' => wpAnyIn_of_seq l (i + 1) _ a' w' (fun j => by have := hl (j + 1); simpa [Nat.add_assoc, Nat.add_comm 1 j] using this) hB.2 h') hw

/-- **A region that draws, within a round, the first n operations in any order, those behind them in the order that is forced.** -/
theorem wpIn_region_rg_tail {l : List Oper} {Q : Exit → Act → World → Prop} {a : Act} {w : World} {id : Nat} (n : Nat) (sp : Nat → Option Spec) (hm : P.follows .mixedOrders = true) (hB : (noDeferB l.toArray && Region.lexTailB .any l.toArray n) = true)
    (h : ∀ b, Below w.heap.size w b → b.heap = w.heap → rgLex P l.toArray b sp (fun a' w' => wpListIn (Fence.wide.inRound l0) n0 P l.toArray Q (l.drop n) a' w') (l.take n) 0 Facts.empty a b) :
    (Code.region id l.toArray true).wpIn (Fence.wide.inRound l0) n0 P Q a w := by
  simp only [Region.lexTailB, Bool.and_eq_true, decide_eq_true_eq] at hB
  obtain ⟨hdf, ⟨⟨⟨hsel, hn⟩, hs⟩, hc⟩, hlex⟩ := hB
  have htl : (l.take n).length = n := by simp at hn; simp; omega
  have hdl : (l.drop n).length = l.toArray.size - n := by simp
  have inv0 : HeadInv .any l.toArray n (Array.replicate l.toArray.size false) :=
    ⟨by simp, fun j oj _ hl => (by rw [getD_replicate_false] at hl; cases hl), fun t _ ht => getD_in (by simpa using ht) (getD_replicate_false _ _)⟩
  have H := rg_lex (md := .any) (g := l.toArray.size - n) (Lq := fun a' w' => wpListIn (Fence.wide.inRound l0) n0 P l.toArray Q (l.drop n) a' w') hsel
    (fun listed' a' w' => Region.seqB .any l.toArray (l.toArray.size - n) n listed' = true ∧ wpListIn (Fence.wide.inRound l0) n0 P l.toArray Q (l.drop n) a' w')
    (HeadInv .any l.toArray n) (fun listed j inv hj hjn => inv.set hj hjn) (fun i hin listed inv hun j hj => by
      rcases Nat.lt_or_ge j n with h | h
      · exact h
      · exact absurd hj (tail_waits hs hc hn inv _ i rfl hin hun j h))
    (fun listed a w hL => seqB_ready hL.1) (fun _ _ _ h1 h2 => ⟨h1, h2⟩)
    (l.take n) 0 _ Facts.empty a { w with drawn := w.drawn + 1 } (fun j hj => by
      have hj' : j < n := by rw [htl] at hj; exact hj
      simp [hj']) (by simpa using htl) inv0 (by rw [htl]; exact hlex) (Below.refl _ _) (Facts.empty_ok _ _) Facts.empty_stable
    (h { w with drawn := w.drawn + 1 } ((Below.refl _ _).drew) rfl)
  refine wpIn_region_any hm ?_
  have := wpAnyIn_of_rg (Q := Q) (g := l.toArray.size - n) (l0 := l0) (n0 := n0) (noDefer hdf) (fun listed a' w' hL => by
    have := wpAnyIn_of_seq (md := .any) (Q' := Q) (l.drop n) n listed a' w' (fun j => by simp [List.getElem?_drop]) (by rw [hdl]; exact hL.1) hL.2
    rwa [hdl] at this) _ _ _ _ _ (Below.refl _ _) (Facts.empty_ok _ _) Facts.empty_stable H
  rw [htl, show n + (l.toArray.size - n) = l.toArray.size by simp at hn; simp; omega] at this
  exact this
/-- an iterator's contract, within a round -/
theorem SeqO.inRound {α : Type} {n : Nat} {g : Nat} {lb : Array Value} {encs : α → Array Value} {Kp : World → World → Prop} {S Sp : List α → Prop} {Ok : List α → α → Prop} {w : World} (l1 : Nat)
    (h : SeqO Fence.wide n P g lb encs Kp S Sp Ok w) : SeqO (Fence.wide.inRound l1) n P g lb encs Kp S Sp Ok w := fun l J Jx W hW hJ hJx hY h0 =>
  CallsIn.inRound l1 (h l J Jx W hW hJ hJx (fun pre x W1 hj hok => by
    obtain ⟨fn, tmps, assign, body, hy, hr⟩ := hY pre x W1 hj hok
    exact ⟨fn, tmps, assign, body, hy, hr⟩) h0)
end
end Go.RG
namespace Go.Proofs.Ytagcohpghgnalaa.SO
open Go.RowKit Go.RG Go.Hp Go.Pg Go.Shelf Go.Proofs.Ytagcohpghgnalaa Go.Proofs.Ytagcohpghgnalaa.RF Go.Proofs.Ytagcohpghgnalaa.U Go.Proofs.Ytagcohpghgnalaa.BK Go.Proofs.Ytagcohpghgnalaa.LB

theorem key_ent {p : List Ent} {i : Nat} (h : i < p.length) : key (keys p) i = (ent p i).k := by simp [key, keys, ent, h]
/-- the entries from a stamp on are those behind the first that is not below it -/
theorem up_drop {p : List Ent} (hr : Rising (keys p)) (s : St) {i : Nat} (hi : i ≤ p.length) (h1 : ∀ j, j < i → (ent p j).k.lt s = true) (h2 : i < p.length → (ent p i).k.lt s = false) : upR s p = p.drop i := by
  unfold upR
  conv => lhs; rw [← List.take_append_drop i p]
  rw [List.filter_append, List.filter_eq_nil_iff.2, List.filter_eq_self.2, List.nil_append]
  · intro e he
    obtain ⟨j, hj, rfl⟩ := List.mem_iff_getElem.1 he
    rw [List.length_drop] at hj
    rw [List.getElem_drop]
    have hjj : i + j < p.length := by omega
    have e1 : p[i + j] = ent p (i + j) := by simp [ent, hjj]
    rw [e1]
    have : (ent p (i + j)).k.lt s = false := by
      rcases Nat.eq_zero_or_pos j with h0 | h0
      · subst h0; exact h2 (by omega)
      · have := rising_ge hr (show i < i + j by omega) (by rw [length_keys]; omega) (s := s) (by rw [key_ent (by omega)]; exact h2 (by omega))
        rwa [key_ent hjj] at this
    rw [this]; rfl
  · intro e he
    obtain ⟨j, hj, rfl⟩ := List.mem_iff_getElem.1 he
    rw [List.length_take] at hj
    rw [List.getElem_take]
    have hjj : j < p.length := by omega
    have e1 : p[j] = ent p j := by simp [ent, hjj]
    rw [e1, h1 j (by omega)]
    decide
/-- the entries up to a stamp are those ahead of the first that is above it -/
theorem dn_take {p : List Ent} (hr : Rising (keys p)) (s : St) {c : Nat} (hc : c ≤ p.length) (h1 : ∀ j, c ≤ j → j < p.length → s.lt (ent p j).k = true) (h2 : ∀ d, c = d + 1 → s.lt (ent p d).k = false) : dnR s p = (p.take c).reverse := by
  unfold dnR
  congr 1
  conv => lhs; rw [← List.take_append_drop c p]
  rw [List.filter_append, List.filter_eq_self.2, List.filter_eq_nil_iff.2, List.append_nil]
  · intro e he
    obtain ⟨j, hj, rfl⟩ := List.mem_iff_getElem.1 he
    rw [List.length_drop] at hj
    rw [List.getElem_drop]
    have hjj : c + j < p.length := by omega
    have e1 : p[c + j] = ent p (c + j) := by simp [ent, hjj]
    rw [e1, h1 _ (by omega) hjj]
    decide
  · intro e he
    obtain ⟨j, hj, rfl⟩ := List.mem_iff_getElem.1 he
    rw [List.length_take] at hj
    rw [List.getElem_take]
    have hjj : j < p.length := by omega
    have e1 : p[j] = ent p j := by simp [ent, hjj]
    rw [e1]
    have : s.lt (ent p j).k = false := by
      have h3 := h2 (c - 1) (by omega)
      rcases Nat.lt_or_ge j (c - 1) with h | h
      · have h4 := rising_key hr h (by rw [length_keys]; omega)
        rw [key_ent hjj, key_ent (by omega)] at h4
        cases hh : s.lt (ent p j).k
        · rfl
        · rw [St.lt_trans hh h4] at h3
          cases h3
      · obtain rfl : j = c - 1 := by omega
        exact h3
    rw [this]; rfl

/-- nothing but the index's own block and its row of pages is written; the row is the old one or a new one -/
structure Turned (bx : Nat) (w w' : World) : Prop where
  ext : Ext (WrW w bx) w w'
  row : ∀ k, WrW w' bx k → WrW w bx k ∨ w.heap.size ≤ k
theorem Turned.of {w w' : World} {bx size : Nat} {R : List (List Ent)} {S : Nat → Prop} {vr' : Value} {pvs : List Value} (h : Wrote w bx vr' w') (hM : U.MemV w' bx size R S vr' pvs) : Turned bx w w' :=
  ⟨h.ext, by
    rintro k (rfl | ⟨v, h1, h2⟩)
    · exact .inl (.inl rfl)
    · rw [hM.cells.2.2] at h1
      injection h1 with h1
      subst h1
      exact h.row k h2⟩
theorem wrw_below {w w' : World} {bx : Nat} {vr : Value} (h : w.cell? ⟨bx, 2, none⟩ = some vr) (hb : Below w.heap.size w w') (k : Nat) : WrW w' bx k ↔ WrW w bx k := by
  have h' := below_cell hb h
  constructor
  · rintro (h1 | ⟨v, h1, h2⟩)
    · exact .inl h1
    · rw [h'] at h1
      exact .inr ⟨v, by rw [h, h1], h2⟩
  · rintro (h1 | ⟨v, h1, h2⟩)
    · exact .inl h1
    · rw [h] at h1
      exact .inr ⟨v, by rw [h', h1], h2⟩
theorem Turned.below {w w' : World} {bx : Nat} {vr : Value} (h : w.cell? ⟨bx, 2, none⟩ = some vr) (hb : Below w.heap.size w w') : Turned bx w w' :=
  ⟨Ext.of_below hb, fun k hk => .inl ((wrw_below h hb k).1 hk)⟩
theorem Turned.trans {bx : Nat} {a b c : World} (h : Turned bx a b) (k : Turned bx b c) : Turned bx a c :=
  ⟨⟨k.ext.os.trans h.ext.os, k.ext.tape.trans h.ext.tape, k.ext.output.trans h.ext.output, Nat.le_trans h.ext.size k.ext.size, fun i hi hn => by
    have h1 := h.ext.block i hi hn
    rw [k.ext.block i (Nat.lt_of_lt_of_le hi h.ext.size) fun hk => (h.row i hk).elim hn fun h2 => by omega]
    exact h1⟩, fun i hi => by
    rcases k.row i hi with h1 | h1
    · exact h.row i h1
    · exact .inr (Nat.le_trans h.ext.size h1)⟩

/-- what an iterator of an index may lean on while the index is turned: T are the loop's own blocks -/
def WInv (bx n : Nat) (W : World) : Prop := n ≤ W.heap.size ∧ bx < n ∧ ∃ vr, W.cell? ⟨bx, 2, none⟩ = some vr ∧ ∀ k, vr.ownBlock = some k → k < W.heap.size
def WPr (bx : Nat) (T : Nat → Prop) (W : World) (k : Nat) : Prop := (∃ o, W.heap[k]? = some o ∧ o.isCells = true) ∧ ¬ T k ∧ (∃ vr, W.cell? ⟨bx, 2, none⟩ = some vr) ∧ ¬ WrW W bx k
abbrev KeepW (bx n : Nat) (T : Nat → Prop) : World → World → Prop := KeepP (WInv bx n) (WPr bx T)
theorem wrw_lt {bx n : Nat} {W : World} (h : WInv bx n W) {k : Nat} (hk : WrW W bx k) : k < W.heap.size := by
  obtain ⟨h1, h2, vr, h3, h4⟩ := h
  rcases hk with rfl | ⟨v, e1, e2⟩
  · omega
  · rw [h3] at e1
    injection e1 with e1
    subst e1
    exact h4 k e2
theorem WInv.below {bx n : Nat} {W W1 : World} (h : WInv bx n W) (hb : Below W.heap.size W W1) : WInv bx n W1 := by
  obtain ⟨h1, h2, vr, h3, h4⟩ := h
  exact ⟨Nat.le_trans h1 hb.size, h2, vr, below_cell hb h3, fun k hk => Nat.lt_of_lt_of_le (h4 k hk) hb.size⟩
theorem guard_W {bx n : Nat} {T : Nat → Prop} (hT : ∀ k, T k → k < n) : GuardP (WInv bx n) (KeepW bx n T) (WPr bx T) where
  fresh := fun W W1 h0 hb => by
    obtain ⟨h1, h2, vr, h3, h4⟩ := id h0
    refine ⟨h0.below hb, fun k ⟨⟨o, p1, p2⟩, p3, p5, p4⟩ => ⟨⟨o, below_heap hb p1, p2⟩, p3, ⟨vr, below_cell hb h3⟩, fun h => p4 ((wrw_below h3 hb k).1 h)⟩, fun k o hk ho hc => ⟨⟨o, ho, hc⟩, fun h => by have := hT k h; omega, ⟨vr, below_cell hb h3⟩, fun h => ?_⟩⟩
    have := wrw_lt h0 ((wrw_below h3 hb k).1 h)
    omega
  keep := fun W W' h0 h => ⟨h.inv h0, h.size, h.keep⟩
  lt := fun W k h => by obtain ⟨⟨o, h1, -⟩, -⟩ := h; exact block_lt_of_heap h1
  grown := fun W W' row hg hr => by
    have hcell : ∀ b i v, W.cell? ⟨b, i, none⟩ = some v → W'.cell? ⟨b, i, none⟩ = some v := fun b i v h => by
      obtain ⟨o, ho, hoc⟩ := cells_of_cell h
      have := grownBy_keeps_cells hg hr ho hoc
      rw [World.cell?_of_block (w := W) this]; exact h
    refine ⟨fun ⟨h1, h2, vr, h3, h4⟩ => ⟨Nat.le_trans h1 hg.size, h2, vr, hcell _ _ _ h3, fun k hk => Nat.lt_of_lt_of_le (h4 k hk) hg.size⟩, hg.size, fun k ⟨⟨o, p1, p2⟩, p3, ⟨vr, p5⟩, p4⟩ => ?_⟩
    have hk := heap_keep p1 p2 hg hr
    refine ⟨⟨⟨o, hk, p2⟩, p3, ⟨vr, hcell _ _ _ p5⟩, fun h => p4 ?_⟩, by rw [p1]; exact hk⟩
    rcases h with h1 | ⟨u, h1, h2⟩
    · exact .inl h1
    · rw [hcell _ _ _ p5] at h1
      exact .inr ⟨u, by rw [p5, h1], h2⟩
/-- a Put or a Remove is such as the iterators bear -/
theorem Turned.keep {bx n : Nat} {T : Nat → Prop} {W W' : World} {size : Nat} {R : List (List Ent)} {S : Nat → Prop} {vr' : Value} {pvs : List Value} (h : Turned bx W W') (hM : U.MemV W' bx size R S vr' pvs) : KeepW bx n T W W' :=
  ⟨fun ⟨h1, h2, _⟩ => ⟨Nat.le_trans h1 h.ext.size, h2, vr', hM.cells.2.2, fun k hk => owns_lt hM.rows hk⟩, h.ext.size, fun k ⟨⟨o, p1, p2⟩, p3, _, p4⟩ => by
    have hk := h.ext.heap p1 p4
    refine ⟨⟨⟨o, hk, p2⟩, p3, ⟨vr', hM.cells.2.2⟩, fun hh => ?_⟩, by rw [p1]; exact hk⟩
    rcases h.row k hh with h1 | h1
    · exact p4 h1
    · have := block_lt_of_heap p1; omega⟩
/-- a store into a block of the loop's own -/
theorem keepW_set {bx n : Nat} {T : Nat → Prop} {W : World} {b i : Nat} (u : Value) (hb : T b) (hbx : b ≠ bx) : KeepW bx n T W (W.setCell ⟨b, i, none⟩ u) := by
  have hc : (W.setCell ⟨b, i, none⟩ u).cell? ⟨bx, 2, none⟩ = W.cell? ⟨bx, 2, none⟩ := by
    unfold World.cell?
    rw [heap_setCell_ne _ _ _ _ (Ne.symm hbx)]
  have hw : ∀ k, WrW (W.setCell ⟨b, i, none⟩ u) bx k → WrW W bx k := fun k h => by unfold WrW at h; rwa [hc] at h
  refine ⟨fun ⟨h1, h2, vr, h3, h4⟩ => ⟨by simpa using h1, h2, vr, by rw [hc]; exact h3, by simpa using h4⟩, by simp, fun k ⟨⟨o, p1, p2⟩, p3, ⟨vr, p5⟩, p4⟩ => ?_⟩
  have hk := heap_set_ne (c := b) (i := i) u p1 (fun e => p3 (by rw [e]; exact hb))
  exact ⟨⟨⟨o, hk, p2⟩, p3, ⟨vr, by rw [hc]; exact p5⟩, fun h => p4 (hw k h)⟩, by rw [p1]; exact hk⟩

/-- the iterator that Up gives, to a loop that turns its index -/
theorem up_walk (bx size : Nat) (h0s : 0 < size) (R : List (List Ent)) (hm : R.length ≤ 274877906944) (hO : Ordered R) (hl : ∀ i, i < R.length → (pageAt R i).length ≤ 64) (hN : ∀ e ∈ R.flatten, NumV e.v) (s : St)
    (S : Nat → Prop) (vr : Value) (pvs : List Value) (Bx Bs n0 : Nat) (w : World) (hM : U.MemV w bx size R S vr pvs) (hcx : w.cell? ⟨Bx, 0, none⟩ = some (.pointer (some ⟨bx, 0, none⟩)))
    (hs0 : w.cell? ⟨Bs, 0, none⟩ = some (.int .u64 s.t)) (hs1 : w.cell? ⟨Bs, 1, none⟩ = some (.int .u64 s.s)) (T : Nat → Prop) (hT : ∀ k, T k → k < n0) (hbx : bx < n0) (hn0 : n0 ≤ w.heap.size) (hST : ∀ k, S k → ¬ T k) :
    SeqO Fence.wide 2 Try.prog 75 #[.pointer (some ⟨Bx, 0, none⟩), .pointer (some ⟨Bs, 0, none⟩)] (fun e : Ev => #[.agg #[.int .u64 e.k.t, .int .u64 e.k.s], .int .u64 e.n]) (KeepW bx n0 T) (fun xs => xs = evs (behind' R s)) (fun pre => pre <+: evs (behind' R s))
      (fun pre _ => pre.length < (evs (behind' R s)).length) w :=
  SeqO.of_K (fun _ _ h => h) (up_stops 2 bx size h0s R hm hO hl hN s S vr pvs Bx Bs (WInv bx n0) w hM hcx hs0 hs1 (KeepW bx n0 T) (WPr bx T) (guard_W hT).toGuard ⟨hn0, hbx, vr, hM.cells.2.2, fun k hk => owns_lt hM.rows hk⟩ fun W hW i hi k hk => by
    have hM' := hM.below hW
    obtain ⟨o, ho, hoc⟩ := owns_cells (hM'.pages i hi).row hk
    obtain ⟨p1, p2, p3⟩ := hM'.sp i hi k hk
    refine ⟨⟨o, ho, hoc⟩, hST k p1, ⟨vr, hM'.cells.2.2⟩, ?_⟩
    rintro (h | ⟨v, h1, h2⟩)
    · exact p2 h
    · rw [hM'.cells.2.2] at h1
      injection h1 with h1
      subst h1
      exact p3 h2)

/-- Two, where every block of cells lies as it lay -/
theorem two_cells {B bx size : Nat} {R : List (List Ent)} {bv : Value} {p : List Ent} {Z : Nat → Prop} {w w' : World} (h : Two B bx size R bv p Z w) (hs : w.heap.size ≤ w'.heap.size)
    (hk : ∀ k o, w.heap[k]? = some o → o.isCells = true → (k = bx ∨ Z k ∨ bv.ownBlock = some k) → w'.heap[k]? = some o) : Two B bx size R bv p Z w' where
  mem := by
    obtain ⟨vr, pvs, hM⟩ := h.mem
    refine ⟨vr, pvs, hk _ _ hM.str rfl (.inl rfl), owns_of_block hM.rows fun k e => ?_, fun i hi => ⟨owns_of_block (hM.pages i hi).row fun k e => ?_, (hM.pages i hi).one⟩, hM.sx, hM.sr, hM.sp⟩
    · obtain ⟨o, ho, hoc⟩ := owns_cells hM.rows e
      rw [ho]; exact hk k o ho hoc (.inr (.inl (hM.sr k e).1))
    · obtain ⟨o, ho, hoc⟩ := owns_cells (hM.pages i hi).row e
      rw [ho]; exact hk k o ho hoc (.inr (.inl (hM.sp i hi k e).1))
  lim := fun k hk => ⟨(h.lim k hk).1, Nat.lt_of_lt_of_le (h.lim k hk).2 hs⟩
  good := h.good
  num := h.num
  row := owns_of_block h.row fun k e => by
    obtain ⟨o, ho, hoc⟩ := owns_cells h.row e
    rw [ho]; exact hk k o ho hoc (.inr (.inr e))
  off := h.off
  pnum := h.pnum

/-- what Remove leaves beside a book that it does not know -/
theorem rem_two (s : St) {B bx size i : Nat} (h4 : 4 ≤ size) (h64 : size ≤ 64) {R : List (List Ent)} {Z : Nat → Prop} {vr : Value} {pvs : List Value} {w : World} (hM : U.MemV w bx size R Z vr pvs) (hG : Pg.Good size R) (ht : total R ≤ i) (hi : i ≤ 109951162) :
    Calls Try.prog 26 #[.pointer (some ⟨bx, 0, none⟩), s.v] w fun e w' => (∃ a b, e = .returned (.tuple #[a, .bool b])) ∧ (∃ vr' pvs', U.MemV w' bx size (removeR size R s) (fun k => Z k ∨ w.heap.size ≤ k) vr' pvs') ∧ Turned bx w w' := by
  have hF := U.fits_u h4 h64 hG ht (by omega)
  cases hth : (decide (0 < R.length) && there R s)
  · have e0 : removeR size R s = R := by
      unfold removeR
      rw [if_neg]
      intro h
      rw [h, Bool.and_true, decide_eq_false_iff_not] at hth
      obtain rfl : R = [] := List.eq_nil_of_length_eq_zero (by omega)
      cases h
    refine (U.remove_not s bx size R hF hG.ordered hth Z vr pvs w hM).mono ?_
    rintro e w' ⟨rfl, hb⟩
    rw [e0]
    exact ⟨⟨_, _, rfl⟩, ⟨vr, pvs, (hM.below hb).mono fun k h => Or.inl h⟩, Turned.below hM.cells.2.2 hb⟩
  · obtain ⟨hR, hth⟩ := Bool.and_eq_true_iff.1 hth
    refine (U.remove_fine s bx size R (of_decide_eq_true hR) hF hG.ordered hth Z vr pvs w hM).mono ?_
    rintro e w' ⟨rfl, vr', pvs', hM', hX⟩
    exact ⟨⟨_, _, rfl⟩, ⟨vr', pvs', hM'⟩, Turned.of hX hM'⟩
theorem put_two (s : St) (x : Int) {bx size i : Nat} (h4 : 4 ≤ size) (h64 : size ≤ 64) {R : List (List Ent)} {Z : Nat → Prop} {vr : Value} {pvs : List Value} {w : World} (hM : U.MemV w bx size R Z vr pvs) (hG : Pg.Good size R) (ht : total R ≤ i) (hi : i ≤ 109951162) :
    Calls Try.prog 24 #[.pointer (some ⟨bx, 0, none⟩), s.v, .int .u64 x] w fun e w' => (∃ b, e = .returned (.bool b)) ∧ (∃ vr' pvs', U.MemV w' bx size (putR size R s (.int .u64 x)) (fun k => Z k ∨ w.heap.size ≤ k) vr' pvs') ∧ Turned bx w w' := by
  have hF := U.fits_u h4 h64 hG ht (by omega)
  refine (U.put_fine s (.int .u64 x) rfl bx size R hF hG.ordered Z vr pvs w hM).mono ?_
  rintro e w' ⟨rfl, vr', pvs', hM', hX⟩
  exact ⟨⟨_, rfl⟩, ⟨vr', pvs', hM'⟩, Turned.of hX hM'⟩
/-- no stamp is below the least one -/
def NN (R : List (List Ent)) : Prop := ∀ e ∈ R.flatten, e.k.lt ⟨0, 0⟩ = false
theorem putGo_mem {s : St} {x : Value} : ∀ {p : List Ent} {d : Bool} {e : Ent}, e ∈ putGo s x p d → e ∈ p ∨ e.k = s
  | [], true, e, h => by simp [putGo] at h
  | [], false, e, h => by simp [putGo] at h; exact Or.inr (by rw [h])
  | e0 :: r, d, e, h => by
    unfold putGo at h
    split at h
    · rcases List.mem_cons.1 h with rfl | h
      · exact Or.inr rfl
      · rcases putGo_mem h with h | h
        · exact Or.inl (List.mem_cons_of_mem _ h)
        · exact Or.inr h
    · split at h
      · rcases List.mem_cons.1 h with rfl | h
        · exact Or.inr rfl
        · rcases List.mem_cons.1 h with rfl | h
          · exact Or.inl (List.mem_cons_self ..)
          · rcases putGo_mem h with h | h
            · exact Or.inl (List.mem_cons_of_mem _ h)
            · exact Or.inr h
      · rcases List.mem_cons.1 h with rfl | h
        · exact Or.inl (List.mem_cons_self ..)
        · rcases putGo_mem h with h | h
          · exact Or.inl (List.mem_cons_of_mem _ h)
          · exact Or.inr h
theorem nn_step {size : Nat} {R : List (List Ent)} (hG : Pg.Good size R) (h : NN R) (o : Opd) (ho : OpOk o) : NN (stepR size R o) := by
  intro e he
  rw [← step_flat hG] at he
  unfold stepB at he
  have hs : o.s.lt ⟨0, 0⟩ = false := by
    have h1 := ho.t
    have h2 := ho.s
    have : ¬ (o.s.lt ⟨0, 0⟩ = true) := by rw [St.lt_iff]; simp only; omega
    simpa using this
  split at he
  · rcases putGo_mem he with h' | h'
    · exact h e h'
    · rw [h']; exact hs
  · split at he
    · exact h e (List.mem_filter.1 he).1
    · exact h e he
/-- a stamp moved on by one, as the machine counts -/
def bump (k : St) : St := ⟨k.t, IntKind.u64.wrap (k.s + 1)⟩
theorem wrap_nonneg (x : Int) : 0 ≤ IntKind.u64.wrap x := by
  simp only [IntKind.wrap, IntKind.signed, IntKind.bits]
  exact Int.emod_nonneg _ (by decide)
theorem bump_nn {k : St} (h : k.lt ⟨0, 0⟩ = false) : (bump k).lt ⟨0, 0⟩ = false := by
  have h1 : ¬ k.lt ⟨0, 0⟩ = true := by rw [h]; decide
  have h2 := wrap_nonneg (k.s + 1)
  have : ¬ ((bump k).lt ⟨0, 0⟩ = true) := by
    rw [St.lt_iff] at h1 ⊢
    unfold bump
    simp only at h1 ⊢
    omega
  simpa using this
theorem nn_put {size : Nat} {R : List (List Ent)} (hG : Pg.Good size R) (h : NN R) (s : St) (x : Value) (hs : s.lt ⟨0, 0⟩ = false) : NN (putR size R s x) := by
  intro e he
  rw [← put_flat hG] at he
  rcases putGo_mem he with h' | h'
  · exact h e h'
  · rw [h']; exact hs
theorem nn_rem {size : Nat} {R : List (List Ent)} (hG : Pg.Good size R) (h : NN R) (s : St) : NN (removeR size R s) := by
  intro e he
  rw [← rem_flat hG] at he
  exact h e (List.mem_filter.1 he).1
/-- is this entry still ahead of the stamp? -/
def ahd (p : List Ent) (s : St) (j : Nat) : Bool := decide (j < p.length) && (ent p j).k.lt s
def cellN (w : World) (b : Nat) : Nat := match w.cell? ⟨b, 0, none⟩ with | some (.int _ n) => n.toNat | _ => 0
theorem cellN_eq {w : World} {b : Nat} {k : IntKind} {n : Nat} (h : w.cell? ⟨b, 0, none⟩ = some (.int k n)) : cellN w b = n := by simp [cellN, h]
/-- a frame of 200 slots, as a function of the slot -/
def fr (u : Nat → Value) : Array Value := ((List.range 200).map u).toArray
theorem fr_of (a : Array Value) (h : a.size = 200) : a = fr fun i => a.getD i undef := by
  apply Array.ext
  · simp [fr, h]
  · intro i h1 h2
    simp [fr, h1]
set_option maxRecDepth 100000 in
theorem fr_open (u : Nat → Value) : fr u = #[u 0, u 1, u 2, u 3, u 4, u 5, u 6, u 7, u 8, u 9, u 10, u 11, u 12, u 13, u 14, u 15, u 16, u 17, u 18, u 19, u 20, u 21, u 22, u 23, u 24, u 25, u 26, u 27, u 28, u 29, u 30, u 31, u 32, u 33, u 34, u 35, u 36, u 37, u 38, u 39, u 40, u 41, u 42, u 43, u 44, u 45, u 46, u 47, u 48, u 49, u 50, u 51, u 52, u 53, u 54, u 55, u 56, u 57, u 58, u 59, u 60, u 61, u 62, u 63, u 64, u 65, u 66, u 67, u 68, u 69, u 70, u 71, u 72, u 73, u 74, u 75, u 76, u 77, u 78, u 79, u 80, u 81, u 82, u 83, u 84, u 85, u 86, u 87, u 88, u 89, u 90, u 91, u 92, u 93, u 94, u 95, u 96, u 97, u 98, u 99, u 100, u 101, u 102, u 103, u 104, u 105, u 106, u 107, u 108, u 109, u 110, u 111, u 112, u 113, u 114, u 115, u 116, u 117, u 118, u 119, u 120, u 121, u 122, u 123, u 124, u 125, u 126, u 127, u 128, u 129, u 130, u 131, u 132, u 133, u 134, u 135, u 136, u 137, u 138, u 139, u 140, u 141, u 142, u 143, u 144, u 145, u 146, u 147, u 148, u 149, u 150, u 151, u 152, u 153, u 154, u 155, u 156, u 157, u 158, u 159, u 160, u 161, u 162, u 163, u 164, u 165, u 166, u 167, u 168, u 169, u 170, u 171, u 172, u 173, u 174, u 175, u 176, u 177, u 178, u 179, u 180, u 181, u 182, u 183, u 184, u 185, u 186, u 187, u 188, u 189, u 190, u 191, u 192, u 193, u 194, u 195, u 196, u 197, u 198, u 199] := rfl
end Go.Proofs.Ytagcohpghgnalaa.SO
