/-
  The document's index in memory: a size, a row of pages; what its searches come to. No program.
-/
import Derived.Test.YtagcohpghgnalaaCGB
import Derived.Test.YtagcohpghgnalaaCGBK
set_option linter.unusedSimpArgs false
set_option linter.unusedVariables false
namespace Go.Pg
open Go.RowKit Go.RG Go.Hp

/-- the document's index: its struct in block bx, its row of pages, all within S -/
structure RMem (E PG IX : TypeId) (w : World) (bx : Nat) (size : Int) (R : List (List Ent)) (S : Nat → Prop) (vr : Value) (pvs : List Value) : Prop where
  str : w.heap[bx]? = some (.cells #[.int .i64 size, vr] IX (0, 0))
  rows : w.ownsRow 0 PG 1 vr R.length pvs
  pages : ∀ i, i < R.length → PageIs E w (val pvs i) (pageAt R i)
  sx : S bx
  sr : ∀ k, vr.ownBlock = some k → S k ∧ k ≠ bx
  sp : ∀ i, i < R.length → ∀ k, (val pvs i).ownBlock = some k → S k ∧ k ≠ bx ∧ vr.ownBlock ≠ some k

theorem RMem.keep {E PG IX : TypeId} {w w' : World} {bx : Nat} {size : Int} {R : List (List Ent)} {S : Nat → Prop} {vr : Value} {pvs : List Value}
    (h : RMem E PG IX w bx size R S vr pvs) (hk : ∀ k, S k → k < w.heap.size → w'.heap[k]? = w.heap[k]?) : RMem E PG IX w' bx size R S vr pvs where
  str := by rw [hk _ h.sx (block_lt_of_heap h.str)]; exact h.str
  rows := owns_of_block h.rows fun k hb => hk k (h.sr k hb).1 (owns_lt h.rows hb)
  pages := fun i hi => ⟨owns_of_block (h.pages i hi).row fun k hb => hk k (h.sp i hi k hb).1 (owns_lt (h.pages i hi).row hb), (h.pages i hi).one⟩
  sx := h.sx
  sr := h.sr
  sp := h.sp
theorem RMem.below {E PG IX : TypeId} {w w' : World} {bx : Nat} {size : Int} {R : List (List Ent)} {S : Nat → Prop} {vr : Value} {pvs : List Value}
    (h : RMem E PG IX w bx size R S vr pvs) (hb : Below w.heap.size w w') : RMem E PG IX w' bx size R S vr pvs := h.keep fun k _ hk => hb.block k hk
theorem RMem.ext {E PG IX : TypeId} {w w' : World} {bx : Nat} {size : Int} {R : List (List Ent)} {S T : Nat → Prop} {vr : Value} {pvs : List Value}
    (h : RMem E PG IX w bx size R S vr pvs) (hb : Ext T w w') (hd : ∀ k, k < w.heap.size → S k → ¬ T k) : RMem E PG IX w' bx size R S vr pvs := h.keep fun k hs hk => hb.block k hk (hd k hk hs)
theorem RMem.cells {E PG IX : TypeId} {w : World} {bx : Nat} {size : Int} {R : List (List Ent)} {S : Nat → Prop} {vr : Value} {pvs : List Value}
    (h : RMem E PG IX w bx size R S vr pvs) : w.cell? ⟨bx, 0, none⟩ = some (.int .i64 size) ∧ w.cell? ⟨bx, 1, none⟩ = some vr := by
  simp [World.cell?, h.str]
theorem RMem.frozen {E PG IX : TypeId} {w : World} {bx : Nat} {size : Int} {R : List (List Ent)} {S : Nat → Prop} {vr : Value} {pvs : List Value}
    (h : RMem E PG IX w bx size R S vr pvs) (o : Nat) : w.frozen? ⟨bx, o, none⟩ = false := by
  simp [World.frozen?, h.str]
/-- the row, where there is a page -/
theorem RMem.row {E PG IX : TypeId} {w : World} {bx : Nat} {size : Int} {R : List (List Ent)} {S : Nat → Prop} {vr : Value} {pvs : List Value}
    (h : RMem E PG IX w bx size R S vr pvs) (hR : 0 < R.length) :
    ∃ g cap, vr = .slice (some ⟨g, 0, none⟩) R.length cap ∧ g < w.heap.size ∧ R.length ≤ cap ∧ cap ≤ maxLen ∧ (∀ i, i < R.length → w.cell? ⟨g, i, none⟩ = some (val pvs i)) ∧ ∀ j, w.frozen? ⟨g, j, none⟩ = false := by
  obtain ⟨g, cap, hv, _, hg, hc, hm, hcell, hfr⟩ := owns_parts h.rows hR
  refine ⟨g, cap, hv, hg, hc, hm, fun i hi => ?_, hfr⟩
  rw [hcell i (by omega)]
  have hl := owns_length h.rows
  simp [val, show i < pvs.length by omega]

theorem RMem.search {E PG IX : TypeId} {w : World} {bx : Nat} {size : Int} {R : List (List Ent)} {S : Nat → Prop} {vr : Value} {pvs : List Value} {g n cap : Nat}
    (h : RMem E PG IX w bx size R S vr pvs) (hv : vr = .slice (some ⟨g, 0, none⟩) n cap) (hf : ∀ i, i < R.length → 0 < (pageAt R i).length) :
    ∀ i, i < R.length → ∃ g' cap m, w.cell? ⟨g, i, none⟩ = some (.slice (some ⟨g', 0, none⟩) m cap) ∧ 0 < m ∧ w.cell? ⟨g', 0, none⟩ = some (.int .u64 (key (firsts R) i).t) ∧ w.cell? ⟨g', 1, none⟩ = some (.int .u64 (key (firsts R) i).s) := by
  intro i hi
  obtain ⟨g0, cap0, hv0, _, _, _, hrow, _⟩ := h.row (by omega)
  rw [hv] at hv0
  injection hv0 with h1 _ _
  injection h1 with h1
  injection h1 with h1 _ _
  subst h1
  obtain ⟨g2, cap2, hv2, _, _, _, hp, _⟩ := (h.pages i hi).parts (hf i hi)
  obtain ⟨c0, c1, _⟩ := hp 0 (hf i hi)
  rw [key_firsts hi]
  exact ⟨g2, cap2, _, by rw [hrow i hi, hv2], hf i hi, by simpa using c0, by simpa using c1⟩
theorem RMem.repl {E PG IX : TypeId} {w W : World} {bx : Nat} {size : Int} {R ms : List (List Ent)} {S : Nat → Prop} {vr vr' : Value} {pvs vs : List Value} {i j : Nat}
    (h : RMem E PG IX w bx size R S vr pvs) (hij : i ≤ j) (hj : j ≤ R.length) (hvs : vs.length = ms.length)
    (hstr : W.heap[bx]? = some (.cells #[.int .i64 size, vr'] IX (0, 0)))
    (hrow : ∃ B, W.ownsRow B PG 1 vr' (R.length - (j - i) + ms.length) (pvs.take i ++ (vs ++ pvs.drop j)))
    (hvr : ∀ k, vr'.ownBlock = some k → vr.ownBlock = some k ∨ w.heap.size ≤ k)
    (hk : ∀ k, S k → k < w.heap.size → k ≠ bx → vr.ownBlock ≠ some k → W.heap[k]? = w.heap[k]?)
    (hpage : ∀ q, q < ms.length → PageIs E W (val vs q) (pageAt ms q))
    (hnew : ∀ q, q < ms.length → ∀ k, (val vs q).ownBlock = some k → w.heap.size ≤ k ∧ vr'.ownBlock ≠ some k) :
    RMem E PG IX W bx size (R.take i ++ (ms ++ R.drop j)) (fun k => S k ∨ w.heap.size ≤ k) vr' (pvs.take i ++ (vs ++ pvs.drop j)) := by
  have hpl : pvs.length = R.length := by have := owns_length h.rows; omega
  have hbx := block_lt_of_heap h.str
  have hlen : (R.take i ++ (ms ++ R.drop j)).length = R.length - (j - i) + ms.length := length_repl hij hj
  -- an old page, where it stands now
  have hold : ∀ q, q < R.length → PageIs E W (val pvs q) (pageAt R q) ∧ ∀ k, (val pvs q).ownBlock = some k → (S k ∨ w.heap.size ≤ k) ∧ k ≠ bx ∧ vr'.ownBlock ≠ some k := by
    intro q hq
    refine ⟨⟨owns_of_block (h.pages q hq).row fun k hb => ?_, (h.pages q hq).one⟩, fun k hb => ?_⟩
    · obtain ⟨h1, h2, h3⟩ := h.sp q hq k hb
      exact hk k h1 (owns_lt (h.pages q hq).row hb) h2 h3
    · obtain ⟨h1, h2, h3⟩ := h.sp q hq k hb
      refine ⟨.inl h1, h2, fun h4 => ?_⟩
      rcases hvr k h4 with h5 | h5
      · exact h3 h5
      · have := owns_lt (h.pages q hq).row hb
        omega
  have hboth : ∀ q, q < (R.take i ++ (ms ++ R.drop j)).length → PageIs E W (val (pvs.take i ++ (vs ++ pvs.drop j)) q) (pageAt (R.take i ++ (ms ++ R.drop j)) q) ∧
      ∀ k, (val (pvs.take i ++ (vs ++ pvs.drop j)) q).ownBlock = some k → (S k ∨ w.heap.size ≤ k) ∧ k ≠ bx ∧ vr'.ownBlock ≠ some k := by
    intro q hq
    rw [hlen] at hq
    rw [pageAt_repl q hij hj, val_repl q hij (by omega), hvs]
    by_cases h1 : q < i
    · rw [if_pos h1, if_pos h1]; exact hold q (by omega)
    · rw [if_neg h1, if_neg h1]
      by_cases h2 : q < i + ms.length
      · rw [if_pos h2, if_pos h2]
        refine ⟨hpage _ (by omega), fun k hb => ?_⟩
        obtain ⟨h3, h4⟩ := hnew _ (by omega) k hb
        exact ⟨.inr h3, by omega, h4⟩
      · rw [if_neg h2, if_neg h2]; exact hold _ (by omega)
  obtain ⟨B, hrow⟩ := hrow
  refine ⟨hstr, by rw [hlen]; exact owns_base hrow fun k _ => Nat.zero_le _, fun q hq => (hboth q hq).1, .inl h.sx, fun k hb => ?_, fun q hq => (hboth q hq).2⟩
  rcases hvr k hb with h5 | h5
  · have := h.sr k h5
    exact ⟨.inl this.1, this.2⟩
  · exact ⟨.inr h5, by omega⟩

/-- one page in the place of another -/
theorem RMem.swap {E PG IX : TypeId} {w W : World} {bx g cap p : Nat} {size : Int} {R : List (List Ent)} {S : Nat → Prop} {pvs : List Value} {u : Value} {l : List Ent}
    (h : RMem E PG IX w bx size R S (.slice (some ⟨g, 0, none⟩) R.length cap) pvs) (hp : p < R.length)
    (hstr : W.heap[bx]? = some (.cells #[.int .i64 size, .slice (some ⟨g, 0, none⟩) R.length cap] IX (0, 0)))
    (hrow : W.heap[g]? = (w.setCell ⟨g, p, none⟩ u).heap[g]?)
    (hk : ∀ k, S k → k < w.heap.size → k ≠ bx → k ≠ g → W.heap[k]? = w.heap[k]?)
    (hpage : PageIs E W u l) (hnew : ∀ k, u.ownBlock = some k → w.heap.size ≤ k) :
    RMem E PG IX W bx size (R.set p l) (fun k => S k ∨ w.heap.size ≤ k) (.slice (some ⟨g, 0, none⟩) R.length cap) (pvs.set p u) := by
  have hpl : pvs.length = R.length := by have := owns_length h.rows; omega
  have hgl : g < w.heap.size := owns_lt h.rows rfl
  have e1 : R.set p l = R.take p ++ ([l] ++ R.drop (p + 1)) := set_split hp l
  have e2 : pvs.set p u = pvs.take p ++ ([u] ++ pvs.drop (p + 1)) := by rw [List.set_eq_take_append_cons_drop, if_pos (by omega)]; rfl
  rw [e1]
  have hrow2 := owns_setCell (j := p) h.rows u
  rw [e2] at hrow2 ⊢
  refine h.repl (by omega) (by omega) rfl hstr ⟨0, ?_⟩ (fun k hk => .inl hk) (fun k h1 h2 h3 h4 => hk k h1 h2 h3 fun e => h4 (e ▸ rfl)) (fun q hq => ?_) (fun q hq k hk => ?_)
  · rw [show R.length - (p + 1 - p) + [l].length = R.length by simp; omega]
    exact owns_of_block hrow2 fun k hb => by injection hb with hb; subst hb; exact hrow
  · obtain rfl : q = 0 := by simpa using hq
    exact hpage
  · obtain rfl : q = 0 := by simpa using hq
    have := hnew k hk
    exact ⟨this, fun e => by have e : g = k := Option.some.inj e; omega⟩

theorem RMem.cut {E PG IX : TypeId} {w : World} {bx : Nat} {size : Int} {R : List (List Ent)} {S : Nat → Prop} {vr : Value} {pvs : List Value}
    (h : RMem E PG IX w bx size R S vr pvs) : RMem E PG IX w bx size R (fun k => S k ∧ k < w.heap.size) vr pvs where
  str := h.str
  rows := h.rows
  pages := h.pages
  sx := ⟨h.sx, block_lt_of_heap h.str⟩
  sr := fun k hk => ⟨⟨(h.sr k hk).1, owns_lt h.rows hk⟩, (h.sr k hk).2⟩
  sp := fun i hi k hk => ⟨⟨(h.sp i hi k hk).1, owns_lt (h.pages i hi).row hk⟩, (h.sp i hi k hk).2⟩
theorem RMem.mono {E PG IX : TypeId} {w : World} {bx : Nat} {size : Int} {R : List (List Ent)} {S T : Nat → Prop} {vr : Value} {pvs : List Value}
    (h : RMem E PG IX w bx size R S vr pvs) (hS : ∀ k, S k → T k) : RMem E PG IX w bx size R T vr pvs where
  str := h.str
  rows := h.rows
  pages := h.pages
  sx := hS _ h.sx
  sr := fun k hk => ⟨hS _ (h.sr k hk).1, (h.sr k hk).2⟩
  sp := fun i hi k hk => ⟨hS _ (h.sp i hi k hk).1, (h.sp i hi k hk).2⟩



/-- how many stamps stand at s or below it -/
def top (l : List St) (s : St) : Nat := rank l s + if isIn l s then 1 else 0
theorem top_le (l : List St) (s : St) : top l s ≤ l.length := by
  unfold top
  have h1 := rank_le l s
  split
  · rename_i h; have := (isIn_iff.1 h).1; omega
  · omega
theorem lt_top {l : List St} (hr : Rising l) (s : St) {i : Nat} (hi : i < l.length) : s.lt (key l i) = decide (top l s ≤ i) := by
  unfold top
  rw [key_of hi]
  rcases Nat.lt_trichotomy i (rank l s) with h | h | h
  · rw [St.lt_asymm (rank_lt h hi)]
    symm
    rw [decide_eq_false_iff_not]
    omega
  · have h1 := rank_ge hr (s := s) (j := i) (by omega) hi
    by_cases hin : isIn l s = true
    · rw [if_pos hin]
      have h2 := (isIn_iff.1 hin).2
      rw [← h, key_of hi] at h2
      rw [h2, St.lt_irrefl]
      symm
      rw [decide_eq_false_iff_not]
      omega
    · rw [if_neg hin]
      have : s.lt l[i] = true := by
        cases h3 : s.lt l[i]
        · exfalso
          refine hin (isIn_iff.2 ⟨by omega, ?_⟩)
          rw [← h, key_of hi]
          exact St.eq_of h1 h3
        · rfl
      rw [this]
      symm
      rw [decide_eq_true_iff]
      omega
  · have hk : rank l s < l.length := by omega
    have h1 := rank_ge hr (s := s) (j := rank l s) (Nat.le_refl _) hk
    have h2 := List.pairwise_iff_getElem.1 hr _ _ hk hi h
    rw [St.le_lt h1 h2]
    symm
    rw [decide_eq_true_iff]
    split <;> omega
theorem pageOf_top (R : List (List Ent)) (s : St) : pageOf R s = top (Pg.firsts R) s - 1 := by
  unfold pageOf top
  split <;> omega
theorem lt_rank {l : List St} (hr : Rising l) (s : St) {i : Nat} (hi : i < l.length) : (key l i).lt s = decide (i < rank l s) := by
  rw [key_of hi]
  rcases Nat.lt_or_ge i (rank l s) with h | h
  · rw [rank_lt h hi, decide_eq_true h]
  · rw [rank_ge hr h hi]; symm; rw [decide_eq_false_iff_not]; omega
theorem rank_at {l : List St} (hr : Rising l) {s : St} {i : Nat} (hi : i < l.length) (hk : key l i = s) : rank l s = i ∧ isIn l s = true := by
  have h : rank l s = i := rank_unique hr (by omega) (fun j hj => by rw [← hk]; exact rising_key hr hj hi) fun j hj hjl => by
    rcases Nat.eq_or_lt_of_le hj with rfl | h
    · rw [hk, St.lt_irrefl]
    · rw [← hk]; exact St.lt_asymm (rising_key hr h hjl)
  exact ⟨h, isIn_iff.2 ⟨by omega, by rw [h]; exact hk⟩⟩
theorem not_in {l : List St} {s : St} (h : ∀ j, j < l.length → key l j ≠ s) : isIn l s = false := by
  cases e : isIn l s
  · rfl
  · obtain ⟨h1, h2⟩ := isIn_iff.1 e
    exact absurd h2 (h _ h1)

/-- two pages are never in one block -/
theorem RMem.apart {E PG IX : TypeId} {w : World} {bx : Nat} {size : Int} {R : List (List Ent)} {S : Nat → Prop} {vr : Value} {pvs : List Value}
    (h : RMem E PG IX w bx size R S vr pvs) (hO : Ordered R) {i j : Nat} (hi : i < R.length) (hj : j < R.length) {k : Nat} (h1 : (val pvs i).ownBlock = some k) (h2 : (val pvs j).ownBlock = some k) : i = j := by
  obtain ⟨g, cap, hv, _, _, _, hp, _⟩ := (h.pages i hi).parts (hO.full i hi)
  obtain ⟨g', cap', hv', _, _, _, hp', _⟩ := (h.pages j hj).parts (hO.full j hj)
  rw [hv] at h1
  rw [hv'] at h2
  have e1 : g = k := Option.some.inj h1
  have e2 : g' = k := Option.some.inj h2
  subst e1
  subst e2
  obtain ⟨a1, a2, _⟩ := hp 0 (hO.full i hi)
  obtain ⟨b1, b2, _⟩ := hp' 0 (hO.full j hj)
  rw [a1] at b1
  rw [a2] at b2
  have k1 := key_firsts hi
  have k2 := key_firsts hj
  have e : key (Pg.firsts R) i = key (Pg.firsts R) j := by
    rw [k1, k2]
    injection b1 with b1
    injection b1 with _ b1
    injection b2 with b2
    injection b2 with _ b2
    cases hc : (ent (pageAt R i) 0).k
    cases hd : (ent (pageAt R j) 0).k
    rw [hc, hd] at b1 b2
    simp only at b1 b2
    rw [b1, b2]
  rcases Nat.lt_trichotomy i j with h3 | h3 | h3
  · have := rising_key hO.firsts h3 (by rw [length_firsts]; exact hj)
    rw [e, St.lt_irrefl] at this; cases this
  · exact h3
  · have := rising_key hO.firsts h3 (by rw [length_firsts]; exact hi)
    rw [e, St.lt_irrefl] at this; cases this
theorem rstr_set (w : World) (bx : Nat) (a b u : Value) (T : TypeId) (fr : Nat × Nat) (h : w.heap[bx]? = some (.cells #[a, b] T fr)) :
    (w.setCell ⟨bx, 1, none⟩ u).heap[bx]? = some (.cells #[a, u] T fr) := by
  have hl : bx < w.heap.size := block_lt_of_heap h
  simp only [World.setCell, Array.getElem?_modify, h]
  simp

/-- behind a store of a new row of pages: some new ones stand in the place of some old ones -/
theorem RMem.rows_end {E PG IX : TypeId} {w w1 : World} {bx : Nat} {size : Int} {R ms : List (List Ent)} {S : Nat → Prop} {vr vr' : Value} {pvs vs : List Value} {i j n' : Nat}
    (h : RMem E PG IX w bx size R S vr pvs) (hb : Below w.heap.size w w1) (hij : i ≤ j) (hj : j ≤ R.length) (hvs : vs.length = ms.length) (hn' : n' = R.length - (j - i) + ms.length)
    (hrow : w1.ownsRow w.heap.size PG 1 vr' n' (pvs.take i ++ (vs ++ pvs.drop j)))
    (hpage : ∀ q, q < ms.length → PageIs E w1 (val vs q) (pageAt ms q))
    (hnew : ∀ q, q < ms.length → ∀ k, (val vs q).ownBlock = some k → w.heap.size ≤ k ∧ vr'.ownBlock ≠ some k) :
    RMem E PG IX (w1.setCell ⟨bx, 1, none⟩ vr') bx size (R.take i ++ (ms ++ R.drop j)) (fun k => S k ∨ w.heap.size ≤ k) vr' (pvs.take i ++ (vs ++ pvs.drop j)) ∧ Ext S w (w1.setCell ⟨bx, 1, none⟩ vr') := by
  have hbx := block_lt_of_heap h.str
  subst hn'
  refine ⟨h.repl hij hj hvs ?_ ⟨w.heap.size, ?_⟩ (fun k hk => .inr (hrow.lt k hk).1) (fun k k1 k2 k3 k4 => ?_) (fun q hq => ?_) hnew, ?_⟩
  · exact rstr_set w1 bx _ _ vr' IX (0, 0) ((hb.block _ hbx).trans h.str)
  · refine owns_of_block hrow fun k hk => heap_setCell_ne _ _ _ _ ?_
    have := (hrow.lt k hk).1
    show k ≠ bx
    omega
  · rw [heap_setCell_ne _ _ _ _ k3]
    exact hb.block k k2
  · refine ⟨owns_of_block (hpage q hq).row fun k hk => heap_setCell_ne _ _ _ _ ?_, (hpage q hq).one⟩
    have := (hnew q hq k hk).1
    show k ≠ bx
    omega
  · exact (Ext.of_below hb).trans (Ext.setCell (S := (· = bx)) rfl _) fun k _ hk => by obtain rfl : k = bx := hk; exact h.sx

/-- behind a store of a new page over an old one -/
theorem RMem.swap_end {E PG IX : TypeId} {w w1 : World} {bx g cap p : Nat} {size : Int} {R : List (List Ent)} {S : Nat → Prop} {pvs : List Value} {u : Value} {l : List Ent}
    (h : RMem E PG IX w bx size R S (.slice (some ⟨g, 0, none⟩) R.length cap) pvs) (hp : p < R.length) (hb : Below w.heap.size w w1)
    (hpage : PageIs E w1 u l) (hnew : ∀ k, u.ownBlock = some k → w.heap.size ≤ k) :
    RMem E PG IX (w1.setCell ⟨g, p, none⟩ u) bx size (R.set p l) (fun k => S k ∨ w.heap.size ≤ k) (.slice (some ⟨g, 0, none⟩) R.length cap) (pvs.set p u) ∧ Ext S w (w1.setCell ⟨g, p, none⟩ u) := by
  have hbx := block_lt_of_heap h.str
  have hgx := h.sr g rfl
  have hgl : g < w.heap.size := owns_lt h.rows rfl
  refine ⟨h.swap hp ?_ ?_ (fun k h1 h2 h3 h4 => ?_) ?_ hnew, ?_⟩
  · rw [heap_setCell_ne _ _ _ _ (by exact Ne.symm hgx.2), hb.block _ hbx]
    exact h.str
  · exact heap_setCell_eq _ (hb.block _ hgl)
  · rw [heap_setCell_ne _ _ _ _ h4, hb.block _ h2]
  · refine ⟨owns_of_block hpage.row fun k hk => heap_setCell_ne _ _ _ _ ?_, hpage.one⟩
    have := hnew k hk
    show k ≠ g
    omega
  · exact (Ext.of_below hb).trans (Ext.setCell (S := (· = g)) rfl _) fun k _ hk => hk ▸ hgx.1

/-- behind a store of a new value into a page -/
theorem RMem.put_in {E PG IX : TypeId} {w w1 : World} {bx g2 cap2 p i : Nat} {size : Int} {R : List (List Ent)} {S : Nat → Prop} {vr : Value} {pvs : List Value} {v : Value}
    (h : RMem E PG IX w bx size R S vr pvs) (hO : Ordered R) (hp : p < R.length) (hi : i < (pageAt R p).length) (hb : Below w.heap.size w w1)
    (hv : val pvs p = .slice (some ⟨g2, 0, none⟩) (pageAt R p).length cap2) (h1 : v.oneCell' = true) :
    RMem E PG IX (w1.setCell ⟨g2, i * 3 + 2, none⟩ v) bx size (R.set p ((pageAt R p).set i ⟨(ent (pageAt R p) i).k, v⟩)) S vr pvs ∧ Ext S w (w1.setCell ⟨g2, i * 3 + 2, none⟩ v) := by
  have hbx := block_lt_of_heap h.str
  obtain ⟨hs, hx, hr⟩ := h.sp p hp g2 (by rw [hv]; rfl)
  have hb1 := h.below hb
  refine ⟨⟨?_, ?_, fun q hq => ?_, h.sx, h.sr, fun q hq => h.sp q (by simpa using hq)⟩, ?_⟩
  · rw [heap_setCell_ne _ _ _ _ (by exact Ne.symm hx)]
    exact hb1.str
  · rw [List.length_set]
    refine owns_of_block hb1.rows fun k hk => heap_setCell_ne _ _ _ _ ?_
    rintro rfl
    exact hr hk
  · rw [List.length_set] at hq
    rw [pageAt_set _ _ hp]
    by_cases hqp : q = p
    · subst hqp
      rw [if_pos rfl]
      have hpg := hb1.pages q hq
      rw [hv] at hpg ⊢
      exact hpg.put rfl hi h1
    · rw [if_neg hqp]
      refine ⟨owns_of_block (hb1.pages q hq).row fun k hk => heap_setCell_ne _ _ _ _ ?_, (hb1.pages q hq).one⟩
      rintro rfl
      exact hqp (h.apart hO hq hp hk (by rw [hv]; rfl))
  · exact (Ext.of_below hb).trans (Ext.setCell (S := (· = g2)) rfl _) fun k _ hk => hk ▸ hs
end Go.Pg
namespace Go.Proofs.Ytagcohpghgnalaa.RF
open Go.RowKit Go.RG Go.Hp Go.Pg Go.Proofs.Ytagcohpghgnalaa


/-- the document's index in memory, at this translation's types -/
abbrev RMemV (w : World) (bx : Nat) (size : Int) (R : List (List Ent)) (S : Nat → Prop) (vr : Value) (pvs : List Value) : Prop := RMem 60 34 135 w bx size R S vr pvs

theorem less_ref (a b : St) (w : World) :
    Calls Try.prog 112 #[a.v, b.v] w fun e w' => e = .returned (.bool (a.lt b)) ∧ Below w.heap.size w w' := by
  obtain ⟨at', as'⟩ := a
  obtain ⟨bt, bs⟩ := b
  have hB : Below w.heap.size w ((w.alloc (Obj.cells #[.int .u64 at', .int .u64 as'] 38)).alloc (Obj.cells #[.int .u64 bt, .int .u64 bs] 38)) :=
    ((Below.refl _ w).alloc (Nat.le_refl _) _).alloc (by simp) _
  unfold St.v
  by_cases h2 : at' = bt
  · subst h2
    go_enter Try.func112, Try.ntmps112
    go_wp2
    go_ret
    exact ⟨by simp [St.lt], hB⟩
  · have h3 : (at' == bt) = false := by simpa using h2
    go_enter Try.func112, Try.ntmps112
    go_wp2
    go_ret
    exact ⟨by simp [St.lt, h2], hB⟩

set_option maxHeartbeats 1000000 in
theorem page_ref (s : St) (bx : Nat) (size : Int) (R : List (List Ent)) (hR : 0 < R.length) (hm : R.length ≤ 4611686018427387904) (hO : Ordered R)
    (S : Nat → Prop) (vr : Value) (pvs : List Value) (w : World) (hM : RMemV w bx size R S vr pvs) :
    Calls Try.prog 111 #[.pointer (some ⟨bx, 0, none⟩), s.v] w fun e w' => e = .returned (.int .i64 (pageOf R s)) ∧ Below w.heap.size w w' := by
  obtain ⟨m0, m1⟩ := hM.cells
  obtain ⟨g, cap, rfl, hg, hc, hcm, -, -⟩ := hM.row hR
  have hse := hM.search rfl hO.full
  have hlt := fun i => lt_top hO.firsts s (i := i)
  rw [length_firsts] at hlt
  have htl := top_le (Pg.firsts R) s
  rw [length_firsts] at htl
  have hB0 := below_box w (.cells #[.int .u64 s.t, .int .u64 s.s] 38)
  have s0 : (w.alloc (.cells #[.int .u64 s.t, .int .u64 s.s] 38)).cell? ⟨w.heap.size, 0, none⟩ = some (.int .u64 s.t) := by simp
  have s1 : (w.alloc (.cells #[.int .u64 s.t, .int .u64 s.s] 38)).cell? ⟨w.heap.size, 1, none⟩ = some (.int .u64 s.s) := by simp
  have hbx := block_lt_of_heap hM.str
  have Hse := Lib.hid hse; clear hse hM hO
  have hn0 : ((R.length : Int) == 0) = false := by rw [beq_eq_false_iff_ne]; omega
  unfold St.v
  have Hlt := Lib.hid hlt; clear hlt
  go_enter Try.func111, Try.ntmps111
  go_wp2_with fail
  have m0 := below_cell hB0 m0
  have m1 := below_cell hB0 m1
  generalize w.alloc (.cells #[.int .u64 s.t, .int .u64 s.s] 38) = w0 at hB0 s0 s1 m0 m1 ⊢
  go_loopw [5, 6] (fun va vi wr => ∃ i : Nat, vi = .int .i64 i ∧ va = .int .i64 (min i (top (Pg.firsts R) s) - 1 : Nat) ∧ i ≤ R.length ∧ Below w0.heap.size w0 wr)
    (fun _ vi _ => R.length - (intOf vi).toNat)
  case atStart => exact ⟨0, rfl, by simp, by omega, Below.refl _ _⟩
  case round =>
    obtain ⟨i, rfl, rfl, hin, hB⟩ := hrel
    have s0 := below_cell hB s0
    have s1 := below_cell hB s1
    have m1 := below_cell hB m1
    by_cases hi : i < R.length
    · have hii : (i : Int) < (R.length : Int) := by omega
      obtain ⟨g', cap', m', r0, hm0, r1, r2⟩ := Hse.out i hi
      have hB2 := hB0.trans (hB.mono hB0.size)
      have r0 := (hB2.cell (p := ⟨g, i, none⟩) hg).trans r0
      have hm0' : (0 : Int) < (m' : Int) := by omega
      have e3 := Hlt.out i hi
      have r1 := below_cell hB2 r1
      have r2 := below_cell hB2 r2
      have He3 := Lib.hid e3; clear e3
      go_wp2_with fail
      refine wp_region_rg (fun j => if j = 11 then some (fun v _ => v = .bool (decide (top (Pg.firsts R) s ≤ i))) else none) fol (by kernel_rfl) (fun W hW hh => ?_)
      clear hh
      have c0 : ∀ w1, Below W.heap.size W w1 → w1.cell? ⟨w.heap.size, 0, none⟩ = some (.int .u64 s.t) := fun w1 h => below_cell (below_trans hW h) s0
      have c1 : ∀ w1, Below W.heap.size W w1 → w1.cell? ⟨w.heap.size, 1, none⟩ = some (.int .u64 s.s) := fun w1 h => below_cell (below_trans hW h) s1
      have c2 : ∀ w1, Below W.heap.size W w1 → w1.cell? ⟨bx, 1, none⟩ = _ := fun w1 h => below_cell (below_trans hW h) m1
      have c3 : ∀ w1, Below W.heap.size W w1 → w1.cell? ⟨g, i, none⟩ = _ := fun w1 h => below_cell (below_trans hW h) r0
      have c4 : ∀ w1, Below W.heap.size W w1 → w1.cell? ⟨g', 0, none⟩ = _ := fun w1 h => below_cell (below_trans hW h) r1
      have c5 : ∀ w1, Below W.heap.size W w1 → w1.cell? ⟨g', 1, none⟩ = _ := fun w1 h => below_cell (below_trans hW h) r2
      repeat (first
        | (refine lex_move _ (by first | exact Or.inl rfl | exact Or.inr rfl) rfl rfl ?_
           simp only [Act.put, Act.eval, Array.getD_eq_getD_getElem?, List.getElem?_toArray, List.getElem?_cons_zero, List.getElem?_cons_succ, Option.getD_some, List.setIfInBounds_toArray, List.set_cons_succ, List.set_cons_zero]
          )
        | (refine lex_float ?_ rfl rfl (fun w1 hb1 hf1 => ?_) ?_
           rotate_left
           (go_simp; (try simp (disch := omega) only [IntWalk.i64_quo, IntWalk.rem_in, IntWalk.i64_in, IntWalk.u64_in, IntWalk.u32_in, IntWalk.u8_in, IntWalk.toNatUp, IntWalk.iteOmega]); (try go_simp); rfl)
           simp only [Act.put, Act.eval, Array.getD_eq_getD_getElem?, List.getElem?_toArray, List.getElem?_cons_zero, List.getElem?_cons_succ, Option.getD_some, List.setIfInBounds_toArray, List.set_cons_succ, List.set_cons_zero]
          )
        | (refine lex_skip rfl ?_
           simp only [Act.put, Act.eval, Array.getD_eq_getD_getElem?, List.getElem?_toArray, List.getElem?_cons_zero, List.getElem?_cons_succ, Option.getD_some, List.setIfInBounds_toArray, List.set_cons_succ, List.set_cons_zero]
          ))
      refine lex_make _ rfl (by exact fun _ _ _ h _ => h) rfl (fun w1 hb1 hf1 => ?_) ?_
      · (unfold makes; go_simp; simp only [makesUpon])
        have hL := less_ref s (key (Pg.firsts R) i) w1
        unfold St.v at hL
        refine hL.mono ?_
        rintro e w' ⟨rfl, hb⟩
        exact ⟨_, rfl, hb, by rw [He3.out]⟩
      rintro v W3 hW3 rfl
      simp only [Act.put, Act.eval, Array.getD_eq_getD_getElem?, List.getElem?_toArray, List.getElem?_cons_zero, List.getElem?_cons_succ, Option.getD_some, List.setIfInBounds_toArray, List.set_cons_succ, List.set_cons_zero]
      clear c0 c1 c2 c3 c4 c5
      repeat (first
        | (refine lex_move _ (by first | exact Or.inl rfl | exact Or.inr rfl) rfl rfl ?_
           simp only [Act.put, Act.eval, Array.getD_eq_getD_getElem?, List.getElem?_toArray, List.getElem?_cons_zero, List.getElem?_cons_succ, Option.getD_some, List.setIfInBounds_toArray, List.set_cons_succ, List.set_cons_zero]
          )
        | (refine lex_float ?_ rfl rfl (fun w1 hb1 hf1 => ?_) ?_
           rotate_left
           (go_simp; (try simp (disch := omega) only [IntWalk.i64_quo, IntWalk.rem_in, IntWalk.i64_in, IntWalk.u64_in, IntWalk.u32_in, IntWalk.u8_in, IntWalk.toNatUp, IntWalk.iteOmega]); (try go_simp); rfl)
           simp only [Act.put, Act.eval, Array.getD_eq_getD_getElem?, List.getElem?_toArray, List.getElem?_cons_zero, List.getElem?_cons_succ, Option.getD_some, List.setIfInBounds_toArray, List.set_cons_succ, List.set_cons_zero]
          )
        | (refine lex_skip rfl ?_
           simp only [Act.put, Act.eval, Array.getD_eq_getD_getElem?, List.getElem?_toArray, List.getElem?_cons_zero, List.getElem?_cons_succ, Option.getD_some, List.setIfInBounds_toArray, List.set_cons_succ, List.set_cons_zero]
          ))
      refine lex_nil ?_
      have hBn := hB.trans ((below_trans hW hW3).mono hB.size)
      by_cases ht : top (Pg.firsts R) s ≤ i
      · rw [decide_eq_true ht]
        go_wp2_with fail
        refine ⟨⟨i + 1, by simp, by rw [show min (i + 1) (top (Pg.firsts R) s) = min i (top (Pg.firsts R) s) by omega], by omega, hBn⟩, ?_⟩
        show R.length - (((i : Int) + 1).toNat) < R.length - ((i : Int).toNat)
        omega
      · rw [decide_eq_false ht]
        go_wp2_with fail
        refine ⟨⟨i + 1, by simp, by rw [show min (i + 1) (top (Pg.firsts R) s) - 1 = i by omega], by omega, hBn⟩, ?_⟩
        show R.length - (((i : Int) + 1).toNat) < R.length - ((i : Int).toNat)
        omega
    · obtain rfl : i = R.length := by omega
      go_wp2_with fail
      go_ret
      exact ⟨by rw [pageOf_top, show min R.length (top (Pg.firsts R) s) = top (Pg.firsts R) s by omega]; rfl, hB0.trans (hB.mono hB0.size)⟩

theorem place_rnone (s : St) (bx : Nat) (size : Int) (S : Nat → Prop) (vr : Value) (pvs : List Value) (w : World) (hM : RMemV w bx size [] S vr pvs) :
    Calls Try.prog 88 #[.pointer (some ⟨bx, 0, none⟩), s.v] w fun e w' => e = .returned (.tuple #[.int .i64 0, .int .i64 0, .bool false]) ∧ Below w.heap.size w w' := by
  obtain ⟨m0, m1⟩ := hM.cells
  obtain ⟨a, cap, rfl, _, _⟩ := owns_shape hM.rows
  have hB0 := below_box w (.cells #[.int .u64 s.t, .int .u64 s.s] 38)
  have hbx := block_lt_of_heap hM.str
  clear hM
  unfold St.v
  go_enter Try.func88, Try.ntmps88
  go_wp2
  go_ret3
  exact ⟨rfl, hB0⟩
theorem place_rnil (s : St) (w : World) : Calls Try.prog 88 #[.pointer none, s.v] w fun e w' => e = .returned (.tuple #[.int .i64 0, .int .i64 0, .bool false]) ∧ Below w.heap.size w w' := by
  have hB0 := below_box w (.cells #[.int .u64 s.t, .int .u64 s.s] 38)
  unfold St.v
  go_enter Try.func88, Try.ntmps88
  go_wp2
  go_ret3
  exact ⟨rfl, hB0⟩

set_option maxHeartbeats 1000000 in
set_option maxRecDepth 100000 in
theorem place_rsome (s : St) (bx : Nat) (size : Int) (R : List (List Ent)) (hR : 0 < R.length) (hm : R.length ≤ 4611686018427387904) (hO : Ordered R)
    (hl : ∀ i, i < R.length → (pageAt R i).length ≤ 4611686018427387904) (S : Nat → Prop) (vr : Value) (pvs : List Value) (w : World) (hM : RMemV w bx size R S vr pvs) :
    Calls Try.prog 88 #[.pointer (some ⟨bx, 0, none⟩), s.v] w fun e w' =>
      e = .returned (.tuple #[.int .i64 (pageOf R s), .int .i64 (entOf R s), .bool (there R s)]) ∧ Below w.heap.size w w' := by
  have hpl := pageOf_lt (s := s) hR
  obtain ⟨m0, m1⟩ := hM.cells
  obtain ⟨g, cap, rfl, hg, hc, hcm, hrow, -⟩ := hM.row hR
  obtain ⟨g2, cap2, hv2, hg2, hc2, hcm2, hpage, hone, -⟩ := (hM.pages _ hpl).parts (hO.full _ hpl)
  have hrp := hrow _ hpl
  rw [hv2] at hrp
  have hlr := fun i => lt_rank (hO.page _ hpl) s (i := i)
  have hra := fun i => rank_at (hO.page _ hpl) (s := s) (i := i)
  rw [length_keys] at hlr hra
  have hBl := hl _ hpl
  have hB0 := below_box w (.cells #[.int .u64 s.t, .int .u64 s.s] 38)
  have s0 : (w.alloc (.cells #[.int .u64 s.t, .int .u64 s.s] 38)).cell? ⟨w.heap.size, 0, none⟩ = some (.int .u64 s.t) := by simp
  have s1 : (w.alloc (.cells #[.int .u64 s.t, .int .u64 s.s] 38)).cell? ⟨w.heap.size, 1, none⟩ = some (.int .u64 s.s) := by simp
  have hbx := block_lt_of_heap hM.str
  have hn0 : ((R.length : Int) == 0) = false := by rw [beq_eq_false_iff_ne]; omega
  have hE1 := U.eql_stamp
  have hE2 := U.guard_stamp
  have HP := Lib.hid (page_ref s bx size R hR hm hO S _ pvs _ (hM.below hB0))
  obtain ⟨p, hpp⟩ : ∃ p, p = pageOf R s := ⟨_, rfl⟩
  unfold entOf there
  rw [← hpp] at hpl hrp hpage hlr hra hBl HP hv2 hone ⊢
  unfold St.v at HP ⊢
  have Hpage := Lib.hid hpage; clear hpage
  have Hra := Lib.hid hra; clear hra
  have Hlr := Lib.hid hlr; clear hlr
  clear hM hO hl hrow hone hv2 hpp
  have hpp : (p : Int) < (R.length : Int) := by omega
  go_enter Try.func88, Try.ntmps88
  go_wp2_with fail
  have m0 := below_cell hB0 m0
  have m1 := below_cell hB0 m1
  have hrp := below_cell hB0 hrp
  generalize w.alloc (.cells #[.int .u64 s.t, .int .u64 s.s] 38) = w0 at hB0 s0 s1 m0 m1 hrp HP ⊢
  refine HP.out.mono ?_
  rintro e w1 ⟨rfl, hB1⟩
  have s0 := below_cell hB1 s0
  have s1 := below_cell hB1 s1
  have m1 := below_cell hB1 m1
  have hrp := below_cell hB1 hrp
  have hB0 := hB0.trans (hB1.mono hB0.size)
  go_wp2_with fail
  go_loopw [8, 9] (fun vn vi wr => ∃ i : Nat, vi = .int .i64 i ∧ vn = .int .i64 (min i (rank (keys (pageAt R p)) s) : Nat) ∧ i ≤ (pageAt R p).length ∧ (∀ j, j < i → key (keys (pageAt R p)) j ≠ s) ∧ Below w1.heap.size w1 wr)
    (fun _ vi _ => (pageAt R p).length - (intOf vi).toNat)
  case atStart => exact ⟨0, rfl, by simp, by omega, fun _ h => absurd h (by omega), Below.refl _ _⟩
  case round =>
    obtain ⟨i, rfl, rfl, hin, hne, hB⟩ := hrel
    have Hne := Lib.hid hne; clear hne
    have s0 := below_cell hB s0
    have s1 := below_cell hB s1
    have m1 := below_cell hB m1
    have hrp := below_cell hB hrp
    have hrl := rank_le (keys (pageAt R p)) s
    rw [length_keys] at hrl
    by_cases hi : i < (pageAt R p).length
    · have hii : (i : Int) < ((pageAt R p).length : Int) := by omega
      obtain ⟨z0, z1, -⟩ := Hpage.out i hi
      have hB2 := hB0.trans (hB.mono hB0.size)
      have z0 := (hB2.cell (p := ⟨g2, i * 3, none⟩) hg2).trans z0
      have z1 := (hB2.cell (p := ⟨g2, i * 3 + 1, none⟩) hg2).trans z1
      go_wp2_with fail
      refine wp_region_rg (fun _ => none) fol (by kernel_rfl) (fun W hW hh => ?_)
      clear hh
      have c0 : ∀ w1, Below W.heap.size W w1 → w1.cell? ⟨w.heap.size, 0, none⟩ = some (.int .u64 s.t) := fun w1 h => below_cell (below_trans hW h) s0
      have c1 : ∀ w1, Below W.heap.size W w1 → w1.cell? ⟨w.heap.size, 1, none⟩ = some (.int .u64 s.s) := fun w1 h => below_cell (below_trans hW h) s1
      have c2 : ∀ w1, Below W.heap.size W w1 → w1.cell? ⟨bx, 1, none⟩ = _ := fun w1 h => below_cell (below_trans hW h) m1
      have c3 : ∀ w1, Below W.heap.size W w1 → w1.cell? ⟨g, p, none⟩ = _ := fun w1 h => below_cell (below_trans hW h) hrp
      have c4 : ∀ w1, Below W.heap.size W w1 → w1.cell? ⟨g2, i * 3, none⟩ = _ := fun w1 h => below_cell (below_trans hW h) z0
      have c5 : ∀ w1, Below W.heap.size W w1 → w1.cell? ⟨g2, i * 3 + 1, none⟩ = _ := fun w1 h => below_cell (below_trans hW h) z1
      repeat (first
        | (refine lex_move _ (by first | exact Or.inl rfl | exact Or.inr rfl) rfl rfl ?_
           simp only [Act.put, Act.eval, Array.getD_eq_getD_getElem?, List.getElem?_toArray, List.getElem?_cons_zero, List.getElem?_cons_succ, Option.getD_some, List.setIfInBounds_toArray, List.set_cons_succ, List.set_cons_zero]
          )
        | (refine lex_float ?_ rfl rfl (fun w1 hb1 hf1 => ?_) ?_
           rotate_left
           (go_simp; (try simp (disch := omega) only [IntWalk.i64_quo, IntWalk.rem_in, IntWalk.i64_in, IntWalk.u64_in, IntWalk.u32_in, IntWalk.u8_in, IntWalk.toNatUp, IntWalk.iteOmega]); (try go_simp); rfl)
           simp only [Act.put, Act.eval, Array.getD_eq_getD_getElem?, List.getElem?_toArray, List.getElem?_cons_zero, List.getElem?_cons_succ, Option.getD_some, List.setIfInBounds_toArray, List.set_cons_succ, List.set_cons_zero]
          )
        | (refine lex_skip rfl ?_
           simp only [Act.put, Act.eval, Array.getD_eq_getD_getElem?, List.getElem?_toArray, List.getElem?_cons_zero, List.getElem?_cons_succ, Option.getD_some, List.setIfInBounds_toArray, List.set_cons_succ, List.set_cons_zero]
          ))
      clear c0 c1 c2 c3 c4 c5
      refine lex_nil ?_
      have s0 := below_cell hW s0
      have s1 := below_cell hW s1
      have m1 := below_cell hW m1
      have hrp := below_cell hW hrp
      have z0 := below_cell hW z0
      have z1 := below_cell hW z1
      have hB := hB.trans (hW.mono hB.size)
      clear hW hB2
      have hk := key_keys (pageAt R p) i
      rw [U.stamp_beq]
      by_cases hs : (ent (pageAt R p) i).k = s
      · rw [decide_eq_true hs]
        obtain ⟨h1, h2⟩ := Hra.out i hi (hk.trans hs)
        have H1 := Lib.hid (And.intro h1 h2); clear h1 h2 hk
        go_wp2_with fail
        go_ret3
        exact ⟨by rw [H1.out.1, H1.out.2, Nat.min_self]; rfl, hB0.trans (hB.mono hB0.size)⟩
      · rw [decide_eq_false hs]
        have e3 := Hlr.out i hi
        rw [hk] at e3
        have He3 := Lib.hid (And.intro e3 hk); clear e3 hk
        go_wp2_with fail
        refine wp_region_rg (fun j => if j = 12 then some (fun v _ => v = .bool (decide (i < rank (keys (pageAt R p)) s))) else none) fol (by kernel_rfl) (fun W2 hW hh => ?_)
        clear hh
        have c0 : ∀ w1, Below W2.heap.size W2 w1 → w1.cell? ⟨w.heap.size, 0, none⟩ = some (.int .u64 s.t) := fun w1 h => below_cell (below_trans hW h) s0
        have c1 : ∀ w1, Below W2.heap.size W2 w1 → w1.cell? ⟨w.heap.size, 1, none⟩ = some (.int .u64 s.s) := fun w1 h => below_cell (below_trans hW h) s1
        have c2 : ∀ w1, Below W2.heap.size W2 w1 → w1.cell? ⟨bx, 1, none⟩ = _ := fun w1 h => below_cell (below_trans hW h) m1
        have c3 : ∀ w1, Below W2.heap.size W2 w1 → w1.cell? ⟨g, p, none⟩ = _ := fun w1 h => below_cell (below_trans hW h) hrp
        have c4 : ∀ w1, Below W2.heap.size W2 w1 → w1.cell? ⟨g2, i * 3, none⟩ = _ := fun w1 h => below_cell (below_trans hW h) z0
        have c5 : ∀ w1, Below W2.heap.size W2 w1 → w1.cell? ⟨g2, i * 3 + 1, none⟩ = _ := fun w1 h => below_cell (below_trans hW h) z1
        repeat (first
          | (refine lex_move _ (by first | exact Or.inl rfl | exact Or.inr rfl) rfl rfl ?_
             simp only [Act.put, Act.eval, Array.getD_eq_getD_getElem?, List.getElem?_toArray, List.getElem?_cons_zero, List.getElem?_cons_succ, Option.getD_some, List.setIfInBounds_toArray, List.set_cons_succ, List.set_cons_zero]
            )
          | (refine lex_float ?_ rfl rfl (fun w1 hb1 hf1 => ?_) ?_
             rotate_left
             (go_simp; (try simp (disch := omega) only [IntWalk.i64_quo, IntWalk.rem_in, IntWalk.i64_in, IntWalk.u64_in, IntWalk.u32_in, IntWalk.u8_in, IntWalk.toNatUp, IntWalk.iteOmega]); (try go_simp); rfl)
             simp only [Act.put, Act.eval, Array.getD_eq_getD_getElem?, List.getElem?_toArray, List.getElem?_cons_zero, List.getElem?_cons_succ, Option.getD_some, List.setIfInBounds_toArray, List.set_cons_succ, List.set_cons_zero]
            )
          | (refine lex_skip rfl ?_
             simp only [Act.put, Act.eval, Array.getD_eq_getD_getElem?, List.getElem?_toArray, List.getElem?_cons_zero, List.getElem?_cons_succ, Option.getD_some, List.setIfInBounds_toArray, List.set_cons_succ, List.set_cons_zero]
            ))
        refine lex_make _ rfl (by exact fun _ _ _ h _ => h) rfl (fun w1 hb1 hf1 => ?_) ?_
        · (unfold makes; go_simp; simp only [makesUpon])
          have hL := less_ref (ent (pageAt R p) i).k s w1
          unfold St.v at hL
          refine hL.mono ?_
          rintro e w' ⟨rfl, hb⟩
          exact ⟨_, rfl, hb, by rw [He3.out.1]⟩
        rintro v W3 hW3 rfl
        simp only [Act.put, Act.eval, Array.getD_eq_getD_getElem?, List.getElem?_toArray, List.getElem?_cons_zero, List.getElem?_cons_succ, Option.getD_some, List.setIfInBounds_toArray, List.set_cons_succ, List.set_cons_zero]
        clear c0 c1 c2 c3 c4 c5
        refine lex_nil ?_
        have hBn := hB.trans ((below_trans hW hW3).mono hB.size)
        have hne' : ∀ j, j < i + 1 → key (keys (pageAt R p)) j ≠ s := fun j hj => by
          rcases Nat.lt_succ_iff_lt_or_eq.1 hj with h | rfl
          · exact Hne.out j h
          · rw [He3.out.2]; exact hs
        have Hne' := Lib.hid hne'; clear hne'
        by_cases ht : i < rank (keys (pageAt R p)) s
        · rw [decide_eq_true ht]
          go_wp2_with fail
          refine ⟨⟨i + 1, by simp, by rw [show min (i + 1) (rank (keys (pageAt R p)) s) = min i (rank (keys (pageAt R p)) s) + 1 by omega]; simp, by omega, Hne'.out, hBn⟩, ?_⟩
          show (pageAt R p).length - (((i : Int) + 1).toNat) < (pageAt R p).length - ((i : Int).toNat)
          omega
        · rw [decide_eq_false ht]
          go_wp2_with fail
          refine ⟨⟨i + 1, by simp, by rw [show min (i + 1) (rank (keys (pageAt R p)) s) = min i (rank (keys (pageAt R p)) s) by omega], by omega, Hne'.out, hBn⟩, ?_⟩
          show (pageAt R p).length - (((i : Int) + 1).toNat) < (pageAt R p).length - ((i : Int).toNat)
          omega
    · obtain rfl : i = (pageAt R p).length := by omega
      have hni := not_in (l := keys (pageAt R p)) (s := s) (by rw [length_keys]; exact Hne.out)
      have Hni := Lib.hid hni; clear hni
      go_wp2_with fail
      go_ret3
      exact ⟨by rw [Hni.out, show min (pageAt R p).length (rank (keys (pageAt R p)) s) = rank (keys (pageAt R p)) s by omega]; rfl, hB0.trans (hB.mono hB0.size)⟩
end Go.Proofs.Ytagcohpghgnalaa.RF
namespace Go.Proofs.Ytagcohpghgnalaa.RF
open Go.RowKit Go.RG Go.Hp Go.Pg Go.Proofs.Ytagcohpghgnalaa


theorem und_page : Try.prog.underlying 34 = some (.slice 60) := by kernel_rfl

theorem get_rnil (s : St) (w : World) : Calls Try.prog 86 #[.pointer none, s.v] w fun e w' => e = .returned (.tuple #[.int .u64 0, .bool false]) ∧ Below w.heap.size w w' := by
  have hB0 := below_box w (.cells #[.int .u64 s.t, .int .u64 s.s] 38)
  have HP := Lib.hid (place_rnil s)
  unfold St.v at HP ⊢
  go_enter Try.func86, Try.ntmps86
  go_wp2_with fail
  refine (HP.out _).mono ?_
  rintro e w1 ⟨rfl, hB⟩
  go_wp2_with fail
  go_ret2
  exact ⟨rfl, hB0.trans (hB.mono hB0.size)⟩
theorem get_rnone (s : St) (bx : Nat) (size : Int) (S : Nat → Prop) (vr : Value) (pvs : List Value) (w : World) (hM : RMemV w bx size [] S vr pvs) :
    Calls Try.prog 86 #[.pointer (some ⟨bx, 0, none⟩), s.v] w fun e w' => e = .returned (.tuple #[.int .u64 0, .bool false]) ∧ Below w.heap.size w w' := by
  have hB0 := below_box w (.cells #[.int .u64 s.t, .int .u64 s.s] 38)
  have HP := Lib.hid (place_rnone s bx size S vr pvs _ (hM.below hB0))
  unfold St.v at HP ⊢
  go_enter Try.func86, Try.ntmps86
  go_wp2_with fail
  refine HP.out.mono ?_
  rintro e w1 ⟨rfl, hB⟩
  go_wp2_with fail
  go_ret2
  exact ⟨rfl, hB0.trans (hB.mono hB0.size)⟩
theorem get_rsome (s : St) (bx : Nat) (size : Int) (R : List (List Ent)) (hR : 0 < R.length) (hm : R.length ≤ 4611686018427387904) (hO : Ordered R)
    (hl : ∀ i, i < R.length → (pageAt R i).length ≤ 4611686018427387904) (hN : ∀ e ∈ R.flatten, U.NumV e.v) (S : Nat → Prop) (vr : Value) (pvs : List Value) (w : World) (hM : RMemV w bx size R S vr pvs) :
    Calls Try.prog 86 #[.pointer (some ⟨bx, 0, none⟩), s.v] w fun e w' =>
      e = .returned (.tuple #[if there R s then (ent (pageAt R (pageOf R s)) (entOf R s)).v else .int .u64 0, .bool (there R s)]) ∧ Below w.heap.size w w' := by
  have hB0 := below_box w (.cells #[.int .u64 s.t, .int .u64 s.s] 38)
  have HP := Lib.hid (place_rsome s bx size R hR hm hO hl S vr pvs _ (hM.below hB0))
  have hpl := pageOf_lt (s := s) hR
  obtain ⟨m0, m1⟩ := hM.cells
  obtain ⟨g, cap, rfl, hg, hc, hcm, hrow, -⟩ := hM.row hR
  obtain ⟨g2, cap2, hv2, hg2, hc2, hcm2, hpage, hone, -⟩ := (hM.pages _ hpl).parts (hO.full _ hpl)
  have hrp := hrow _ hpl
  rw [hv2] at hrp
  have Hpage := Lib.hid hpage; clear hpage hM hO hl hrow hone hv2
  unfold St.v at HP ⊢
  by_cases ht : there R s = false
  · rw [ht] at HP ⊢
    simp only [Bool.false_eq_true, if_false]
    clear ht
    go_enter Try.func86, Try.ntmps86
    go_wp2_with fail
    refine HP.out.mono ?_
    rintro e w1 ⟨rfl, hB⟩
    go_wp2_with fail
    go_ret2
    exact ⟨rfl, hB0.trans (hB.mono hB0.size)⟩
  · have ht : there R s = true := by simpa using ht
    have hen : entOf R s < (pageAt R (pageOf R s)).length := by
      unfold there at ht
      have := (isIn_iff.1 ht).1
      rwa [length_keys] at this
    obtain ⟨z0, z1, z2⟩ := Hpage.out _ hen
    obtain ⟨num, hnum⟩ := hN (ent (pageAt R (pageOf R s)) (entOf R s)) (by
      refine List.mem_flatten.2 ⟨_, pageAt_mem hpl, ?_⟩
      have : ent (pageAt R (pageOf R s)) (entOf R s) = (pageAt R (pageOf R s))[entOf R s] := by simp [ent, hen]
      rw [this]; exact List.getElem_mem _)
    rw [hnum] at z2
    rw [ht] at HP ⊢
    simp only [if_true]
    have Hnum := Lib.hid hnum
    clear ht
    clear hN hnum z0 z1
    go_enter Try.func86, Try.ntmps86
    go_wp2_with fail
    refine HP.out.mono ?_
    rintro e w1 ⟨rfl, hB⟩
    have hB2 := hB0.trans (hB.mono hB0.size)
    have m1 := below_cell hB2 m1
    have hrp := below_cell hB2 hrp
    have z2 := below_cell hB2 z2
    have e1 : (pageOf R s : Int) < (R.length : Int) := by omega
    have e2 : (entOf R s : Int) < ((pageAt R (pageOf R s)).length : Int) := by omega
    clear hen
    go_wp2_with fail
    go_ret2
    exact ⟨by rw [Hnum.out]; rfl, hB2⟩

theorem all_rnil (w : World) : Calls Try.prog 87 #[.pointer none] w fun e w' => e = .returned (.slice none 0 0) ∧ w = w' := by
  go_enter Try.func87, Try.ntmps87
  go_wp2_with fail
  go_ret
  exact ⟨rfl, rfl⟩

theorem flat_take {R : List (List Ent)} {i : Nat} (h : i < R.length) : (R.take (i + 1)).flatten = (R.take i).flatten ++ pageAt R i := by
  rw [List.take_add_one, List.flatten_append]
  congr 1
  simp [pageAt, h]
theorem flat_take_le (R : List (List Ent)) (i : Nat) : (R.take i).flatten.length ≤ R.flatten.length := by
  rcases Nat.lt_or_ge i R.length with h | h
  · rw [flat_split h]; simp
  · rw [List.take_of_length_le h]; exact Nat.le_refl _

set_option maxRecDepth 100000 in
theorem all_ref (bx : Nat) (size : Int) (R : List (List Ent)) (hm : R.length ≤ 274877906944) (hO : Ordered R) (hn : R.flatten.length ≤ 274877906944) (S : Nat → Prop) (vr : Value) (pvs : List Value) (w : World) (hM : RMemV w bx size R S vr pvs) :
    Calls Try.prog 87 #[.pointer (some ⟨bx, 0, none⟩)] w fun e w' => ∃ v, e = .returned v ∧ w'.ownsRow w.heap.size 60 3 v R.flatten.length (cellsOf R.flatten) ∧ Below w.heap.size w w' := by
  obtain ⟨m0, m1⟩ := hM.cells
  obtain ⟨a, cap, rfl, hcap, hcm⟩ := owns_shape hM.rows
  have HM := Lib.hid (And.intro hM hO); clear hM hO
  go_enter Try.func87, Try.ntmps87
  go_wp2_with fail
  obtain ⟨i0, hi, hz0, hz1, hz2⟩ := info_parts BK.info_Entry
  go_loopw [3, 4] (fun vl vi wr => ∃ (i n : Nat) (a' : Option Addr) (c' : Nat), vi = .int .i64 i ∧ vl = .slice a' n c' ∧ n = (R.take i).flatten.length ∧ i ≤ R.length ∧ wr.ownsRow w.heap.size 60 3 vl n (cellsOf (R.take i).flatten) ∧ Below w.heap.size w wr)
    (fun _ vi _ => R.length - (intOf vi).toNat)
  case atStart => exact ⟨0, 0, none, 0, rfl, rfl, rfl, by omega, World.ownsRow_nil _ _ 60 3, Below.refl _ _⟩
  case round =>
    obtain ⟨i, n, a', c', rfl, rfl, hn', hin, hown, hB⟩ := hrel
    have Hn := Lib.hid hn'; clear hn'
    have Hown := Lib.hid hown; clear hown
    have m1 := below_cell hB m1
    by_cases hlt : i < R.length
    · obtain ⟨g, cap2, hv, hg, hc2, hcm2, hrow, hfr⟩ := HM.out.1.row (by omega)
      injection hv with hv1 hv2 hv3
      subst hv1
      have hfull := HM.out.2.full i hlt
      obtain ⟨gp, cp, hsp, hgp, hcp, -⟩ := (HM.out.1.pages i hlt).parts hfull
      have hpo := (HM.out.1.pages i hlt)
      rw [hsp] at hpo
      have r0 := below_cell hB (hrow i hlt)
      rw [hsp] at r0
      clear hrow hfr
      have hii : (i : Int) < (R.length : Int) := by omega
      have Hsrc := Lib.hid (owns_src (owns_below hpo.row hB))
      have hft := flat_take hlt
      have hle := flat_take_le R (i + 1)
      have hn' := Hn.out
      have q1 : n + (pageAt R i).length ≤ maxLen := by rw [hft, List.length_append] at hle; unfold maxLen; omega
      have q2 : (n + (pageAt R i).length) * 24 ≤ 140737488355328 := by rw [hft, List.length_append] at hle; omega
      clear hn' hle
      have q3 : w.heap.size ≤ wr.heap.size := hB.size
      have Q4 := Lib.hid (cellsOf_one hpo.one)
      have Hft := Lib.hid hft; clear hft hpo
      go_wp2_with (at_builtin; go_loud (refine wpList_append_own _ rfl _ _ 34 rfl w.heap.size 60 i0 (.agg #[.int .u64 0, .int .u64 0, .int .u64 0]) 3 24 und_page hi hz0 hz1 hz2 rfl (by decide) _ _ _ rfl Hown.out ⟨gp, 0, none⟩ _ _ (cellsOf (pageAt R i)) rfl (length_cellsOf _) Hsrc.out Q4.out q1 q2 q3 ?_; intro v' w1 hown' hgrow hnil; clear hnil; obtain ⟨a2, cap3, rfl, hx1, hx2⟩ := owns_shape hown'; have Hown' := Lib.hid hown'; clear hown'; have Hgrow := Lib.hid hgrow; clear hgrow))
      refine ⟨⟨i + 1, n + (pageAt R i).length, a2, cap3, by simp, rfl, by rw [Hft.out, List.length_append, Hn.out], by omega, ?_, ?_⟩, ?_⟩
      · rw [Hft.out, cellsOf_append]; exact Hown'.out
      · exact hB.grown Hgrow.out q3 fun k hk => (Hown.out.lt k hk).1
      · show R.length - (((i : Int) + 1).toNat) < R.length - ((i : Int).toNat)
        omega
    · obtain rfl : i = R.length := by omega
      have hown := Hown.out
      have hn' := Hn.out
      rw [List.take_length] at hown hn'
      subst hn'
      have Hown := Lib.hid hown; clear hown Hn
      go_wp2_with fail
      go_ret
      exact ⟨_, rfl, Hown.out, hB⟩

theorem pages_rnil (w : World) : Calls Try.prog 48 #[.pointer none] w fun e w' => e = .returned (.slice none 0 0) ∧ w = w' := by
  go_enter Try.func48, Try.ntmps48
  go_wp2_with fail
  go_ret
  exact ⟨rfl, rfl⟩
set_option maxRecDepth 100000 in
theorem pages_ref (bx : Nat) (size : Int) (R : List (List Ent)) (hR : R.length ≤ 274877906944) (S : Nat → Prop) (vr : Value) (pvs : List Value) (w : World) (hM : RMemV w bx size R S vr pvs) :
    Calls Try.prog 48 #[.pointer (some ⟨bx, 0, none⟩)] w fun e w' => ∃ v, e = .returned v ∧ w'.ownsRow w.heap.size 3 1 v R.length (R.map fun p => .int .i64 p.length) ∧ Below w.heap.size w w' := by
  obtain ⟨m0, m1⟩ := hM.cells
  obtain ⟨a, cap, rfl, hcap, hcm⟩ := owns_shape hM.rows
  have HM := Lib.hid hM; clear hM
  go_enter Try.func48, Try.ntmps48
  go_wp2_with fail
  obtain ⟨i0, hi, hz0, hz1, hz2⟩ := info_parts U.info_int
  go_loopw [3, 4] (fun vl vi wr => ∃ (i : Nat) (a' : Option Addr) (c' : Nat), vi = .int .i64 i ∧ vl = .slice a' i c' ∧ i ≤ R.length ∧ wr.ownsRow w.heap.size 3 1 vl i ((R.take i).map fun p => .int .i64 p.length) ∧ Below w.heap.size w wr)
    (fun _ vi _ => R.length - (intOf vi).toNat)
  case atStart => exact ⟨0, none, 0, rfl, rfl, by omega, World.ownsRow_nil _ _ 3 1, Below.refl _ _⟩
  case round =>
    obtain ⟨i, a', c', rfl, rfl, hin, hown, hB⟩ := hrel
    have Hown := Lib.hid hown; clear hown
    have m1 := below_cell hB m1
    by_cases hlt : i < R.length
    · obtain ⟨g, cap2, hv, hg, hc2, hcm2, hrow, hfr⟩ := HM.out.row (by omega)
      injection hv with hv1 hv2 hv3
      subst hv1
      obtain ⟨ap, cp, hsp, -⟩ := owns_shape (HM.out.pages i hlt).row
      have r0 := below_cell hB (hrow i hlt)
      rw [hsp] at r0
      clear hrow hfr
      have hii : (i : Int) < (R.length : Int) := by omega
      have hsrc : ∀ (W : World) (j : Nat) (u : Value), ([.int .i64 ((pageAt R i).length : Int)] : List Value)[j]? = some u → (W.alloc (.cells #[.int .i64 ((pageAt R i).length : Int)] 3)).cell? ((⟨W.heap.size, 0, none⟩ : Addr).add j) = some u := fun W j u h => by
        have hr : Row (W.alloc (.cells #[.int .i64 ((pageAt R i).length : Int)] 3)) W.heap.size 3 [.int .i64 ((pageAt R i).length : Int)] := row_new W [.int .i64 ((pageAt R i).length : Int)] 3
        rw [Addr.add_lit, Nat.zero_add, hr.cell]
        exact h
      have Hsrc := Lib.hid hsrc; clear hsrc
      have Hown1 := Lib.hid (owns_below Hown.out (below_box wr (.cells #[.int .i64 ((pageAt R i).length : Int)] 3)))
      have q1 : i + 1 ≤ maxLen := by unfold maxLen; omega
      have q2 : (i + 1) * 8 ≤ 140737488355328 := by omega
      have q3 : w.heap.size ≤ (wr.alloc (.cells #[.int .i64 ((pageAt R i).length : Int)] 3)).heap.size := by have := hB.size; simp; omega
      have q4 : ∀ u ∈ ([.int .i64 ((pageAt R i).length : Int)] : List Value), u.oneCell' = true := fun u hu => by obtain rfl := List.mem_singleton.1 hu; rfl
      have Q4 := Lib.hid q4; clear q4
      go_wp2_with (at_builtin; go_loud (refine wpList_append_own _ rfl _ _ 52 rfl w.heap.size 3 i0 (.int .i64 0) 1 8 U.und_ints hi hz0 hz1 hz2 rfl (by decide) _ _ _ rfl Hown1.out ⟨wr.heap.size, 0, none⟩ 1 1 [.int .i64 ((pageAt R i).length : Int)] rfl rfl (Hsrc.out wr) Q4.out q1 q2 q3 ?_; intro v' w1 hown' hgrow hnil; clear hnil; obtain ⟨a2, cap3, rfl, hx1, hx2⟩ := owns_shape hown'; have Hown' := Lib.hid hown'; clear hown'; have Hgrow := Lib.hid hgrow; clear hgrow))
      have et : List.take (i + 1) (R.map fun p => Value.int .i64 (p.length : Int)) = (R.take i).map (fun p => Value.int .i64 (p.length : Int)) ++ [.int .i64 ((pageAt R i).length : Int)] := by
        rw [← List.map_take, List.take_add_one, List.map_append]
        congr 1
        simp [pageAt, hlt]
      have hb1 : Below w.heap.size w (wr.alloc (.cells #[.int .i64 ((pageAt R i).length : Int)] 3)) := hB.trans ((below_box wr _).mono hB.size)
      refine ⟨⟨i + 1, a2, cap3, by simp, rfl, by omega, ?_, ?_⟩, ?_⟩
      · rw [List.map_take, et]; exact Hown'.out
      · exact hb1.grown Hgrow.out q3 fun k hk => (Hown1.out.lt k hk).1
      · show R.length - (((i : Int) + 1).toNat) < R.length - ((i : Int).toNat)
        omega
    · obtain rfl : i = R.length := by omega
      go_wp2_with fail
      go_ret
      exact ⟨_, rfl, by simpa using Hown.out, hB⟩
end Go.Proofs.Ytagcohpghgnalaa.RF
namespace Go.Proofs.Ytagcohpghgnalaa.RF
open Go.RowKit Go.RG Go.Hp Go.Pg Go.Proofs.Ytagcohpghgnalaa


def upR (s : St) (p : List Ent) : List Ent := p.filter fun e => !(e.k.lt s)
def dnR (s : St) (p : List Ent) : List Ent := (p.filter fun e => !(s.lt e.k)).reverse
theorem upR_take (s : St) {p : List Ent} {i : Nat} (h : i < p.length) : upR s (p.take (i + 1)) = if (ent p i).k.lt s then upR s (p.take i) else upR s (p.take i) ++ [ent p i] := by
  have e : p.take (i + 1) = p.take i ++ [ent p i] := by rw [List.take_add_one]; simp [ent, h]
  rw [e]
  unfold upR
  rw [List.filter_append]
  cases h2 : (ent p i).k.lt s <;> simp [h2]
theorem dnR_drop (s : St) {p : List Ent} {i : Nat} (h : i < p.length) : dnR s (p.drop i) = if s.lt (ent p i).k then dnR s (p.drop (i + 1)) else dnR s (p.drop (i + 1)) ++ [ent p i] := by
  rw [BK.drop_cons h]
  unfold dnR
  rw [List.filter_cons]
  cases h2 : s.lt (ent p i).k <;> simp [h2]
theorem upR_len (s : St) (p : List Ent) : (upR s p).length ≤ p.length := List.length_filter_le _ _
theorem dnR_len (s : St) (p : List Ent) : (dnR s p).length ≤ p.length := by unfold dnR; rw [List.length_reverse]; exact List.length_filter_le _ _

/-- what All gives, as a contract -/
def AllPost (p : List Ent) (w : World) (e : Ending) (w' : World) : Prop := ∃ v, e = .returned v ∧ w'.ownsRow w.heap.size 60 3 v p.length (cellsOf p) ∧ Below w.heap.size w w'

set_option maxHeartbeats 1000000 in
set_option maxRecDepth 100000 in
theorem up_of (x : Value) (s : St) (p : List Ent) (hn : p.length ≤ 274877906944) (hN : ∀ e ∈ p, U.NumV e.v) (w : World)
    (hA : ∀ w0, Below w.heap.size w w0 → Calls Try.prog 87 #[x] w0 (AllPost p w0)) (hx : ∃ a, x = .pointer a) :
    Calls Try.prog 90 #[x, s.v] w fun e w' => ∃ v, e = .returned v ∧ w'.ownsRow w.heap.size 60 3 v (upR s p).length (cellsOf (upR s p)) ∧ Below w.heap.size w w' := by
  obtain ⟨xa, rfl⟩ := hx
  have hB0 := below_box w (.cells #[.int .u64 s.t, .int .u64 s.s] 38)
  have s0 : (w.alloc (.cells #[.int .u64 s.t, .int .u64 s.s] 38)).cell? ⟨w.heap.size, 0, none⟩ = some (.int .u64 s.t) := by simp
  have s1 : (w.alloc (.cells #[.int .u64 s.t, .int .u64 s.s] 38)).cell? ⟨w.heap.size, 1, none⟩ = some (.int .u64 s.s) := by simp
  have hw0 : (w.alloc (.cells #[.int .u64 s.t, .int .u64 s.s] 38)).heap.size = w.heap.size + 1 := by simp
  have HA := Lib.hid (hA _ hB0); clear hA
  unfold St.v
  obtain ⟨i0, hi, hz0, hz1, hz2⟩ := info_parts BK.info_Entry
  go_enter Try.func90, Try.ntmps90
  go_wp2_with fail
  generalize w.alloc (.cells #[.int .u64 s.t, .int .u64 s.s] 38) = w00 at hB0 s0 s1 hw0 HA ⊢
  refine HA.out.mono ?_
  rintro e w0 ⟨bv, rfl, hb, hB1⟩
  obtain ⟨ab, cb, rfl, hcb, hcm⟩ := owns_shape hb
  have Hb := Lib.hid hb; clear hb
  have s0 := below_cell hB1 s0
  have s1 := below_cell hB1 s1
  have hw1 := hB1.size
  go_wp2_with fail
  go_loopw [5, 7] (fun vl vi wr => ∃ (i : Nat) (acc : List Ent) (a : Option Addr) (c : Nat), vi = .int .i64 i ∧ vl = .slice a acc.length c ∧ i ≤ p.length ∧ acc.length ≤ i ∧
      acc = upR s (p.take i) ∧ wr.ownsRow w0.heap.size 60 3 vl acc.length (cellsOf acc) ∧ Below w0.heap.size w0 wr)
    (fun _ vi _ => p.length - (intOf vi).toNat)
  case atStart => exact ⟨0, [], none, 0, rfl, rfl, by omega, by simp, by simp [upR], World.ownsRow_nil _ _ 60 3, Below.refl _ _⟩
  case round =>
    obtain ⟨i, acc, a, c, rfl, rfl, hin, hal, hgo, hown, hB⟩ := hrel
    have Hown := Lib.hid hown; clear hown
    have Hgo := Lib.hid hgo; clear hgo
    by_cases hlt : i < p.length
    · have hii : (i : Int) < (p.length : Int) := by omega
      obtain ⟨g, cap, e1, -, hgl, -⟩ := owns_parts Hb.out (by omega)
      injection e1 with e1 _ f1
      subst e1 f1
      obtain ⟨z0, z1, z2⟩ := BK.book_cells Hb.out hlt
      obtain ⟨num, hnum⟩ := hN (ent p i) (by have : ent p i = p[i] := by simp [ent, hlt]
                                             rw [this]; exact List.getElem_mem _)
      rw [hnum] at z2
      have z0 := (hB.cell (p := ⟨g, i * 3, none⟩) (show g < w0.heap.size by omega)).trans z0
      have z1 := (hB.cell (p := ⟨g, i * 3 + 1, none⟩) (show g < w0.heap.size by omega)).trans z1
      have z2 := (hB.cell (p := ⟨g, i * 3 + 2, none⟩) (show g < w0.heap.size by omega)).trans z2
      have t0 := (hB.cell (p := ⟨w.heap.size, 0, none⟩) (show w.heap.size < w0.heap.size by omega)).trans s0
      have t1 := (hB.cell (p := ⟨w.heap.size, 1, none⟩) (show w.heap.size < w0.heap.size by omega)).trans s1
      have Hdc := Lib.hid (upR_take s hlt)
      go_wp2_with fail
      refine wp_region_rg (fun j => if j = 6 then some (fun v _ => v = .bool ((ent p i).k.lt s)) else none) fol (by kernel_rfl) (fun W hW hh => ?_)
      clear hh
      have q0 : ∀ w1, Below W.heap.size W w1 → w1.cell? ⟨g, i * 3, none⟩ = some (.int .u64 (ent p i).k.t) := fun w1 h => below_cell (below_trans hW h) z0
      have q1 : ∀ w1, Below W.heap.size W w1 → w1.cell? ⟨g, i * 3 + 1, none⟩ = some (.int .u64 (ent p i).k.s) := fun w1 h => below_cell (below_trans hW h) z1
      have q2 : ∀ w1, Below W.heap.size W w1 → w1.cell? ⟨w.heap.size, 0, none⟩ = some (.int .u64 s.t) := fun w1 h => below_cell (below_trans hW h) t0
      have q3 : ∀ w1, Below W.heap.size W w1 → w1.cell? ⟨w.heap.size, 1, none⟩ = some (.int .u64 s.s) := fun w1 h => below_cell (below_trans hW h) t1
      repeat (first
        | (refine lex_move _ (by first | exact Or.inl rfl | exact Or.inr rfl) rfl rfl ?_
           simp only [Act.put, Act.eval, Array.getD_eq_getD_getElem?, List.getElem?_toArray, List.getElem?_cons_zero, List.getElem?_cons_succ, Option.getD_some, List.setIfInBounds_toArray, List.set_cons_succ, List.set_cons_zero]
          )
        | (refine lex_float ?_ rfl rfl (fun w1 hb1 hf1 => ?_) ?_
           rotate_left
           (go_simp; (try simp (disch := omega) only [IntWalk.i64_quo, IntWalk.rem_in, IntWalk.i64_in, IntWalk.u64_in, IntWalk.u32_in, IntWalk.u8_in, IntWalk.toNatUp, IntWalk.iteOmega]); (try go_simp); rfl)
           simp only [Act.put, Act.eval, Array.getD_eq_getD_getElem?, List.getElem?_toArray, List.getElem?_cons_zero, List.getElem?_cons_succ, Option.getD_some, List.setIfInBounds_toArray, List.set_cons_succ, List.set_cons_zero]
          )
        | (refine lex_skip rfl ?_
           simp only [Act.put, Act.eval, Array.getD_eq_getD_getElem?, List.getElem?_toArray, List.getElem?_cons_zero, List.getElem?_cons_succ, Option.getD_some, List.setIfInBounds_toArray, List.set_cons_succ, List.set_cons_zero]
          ))
      refine lex_make _ rfl (by exact fun _ _ _ h _ => h) rfl (fun w1 hb1 hf1 => ?_) ?_
      · (unfold makes; go_simp; simp only [makesUpon])
        have hL := less_ref (ent p i).k s w1
        unfold St.v at hL
        refine hL.mono ?_
        rintro e w' ⟨rfl, hb⟩
        exact ⟨_, rfl, hb, rfl⟩
      rintro v W3 hW3 rfl
      simp only [Act.put, Act.eval, Array.getD_eq_getD_getElem?, List.getElem?_toArray, List.getElem?_cons_zero, List.getElem?_cons_succ, Option.getD_some, List.setIfInBounds_toArray, List.set_cons_succ, List.set_cons_zero]
      clear q0 q1 q2 q3
      repeat (first
        | (refine lex_move _ (by first | exact Or.inl rfl | exact Or.inr rfl) rfl rfl ?_
           simp only [Act.put, Act.eval, Array.getD_eq_getD_getElem?, List.getElem?_toArray, List.getElem?_cons_zero, List.getElem?_cons_succ, Option.getD_some, List.setIfInBounds_toArray, List.set_cons_succ, List.set_cons_zero]
          )
        | (refine lex_float ?_ rfl rfl (fun w1 hb1 hf1 => ?_) ?_
           rotate_left
           (go_simp; (try simp (disch := omega) only [IntWalk.i64_quo, IntWalk.rem_in, IntWalk.i64_in, IntWalk.u64_in, IntWalk.u32_in, IntWalk.u8_in, IntWalk.toNatUp, IntWalk.iteOmega]); (try go_simp); rfl)
           simp only [Act.put, Act.eval, Array.getD_eq_getD_getElem?, List.getElem?_toArray, List.getElem?_cons_zero, List.getElem?_cons_succ, Option.getD_some, List.setIfInBounds_toArray, List.set_cons_succ, List.set_cons_zero]
          )
        | (refine lex_skip rfl ?_
           simp only [Act.put, Act.eval, Array.getD_eq_getD_getElem?, List.getElem?_toArray, List.getElem?_cons_zero, List.getElem?_cons_succ, Option.getD_some, List.setIfInBounds_toArray, List.set_cons_succ, List.set_cons_zero]
          ))
      refine lex_nil ?_
      have hW4 := below_trans hW hW3
      have z0 := below_cell hW4 z0
      have z1 := below_cell hW4 z1
      have z2 := below_cell hW4 z2
      have Hown := Lib.hid (owns_below Hown.out hW4)
      have hB := hB.trans (hW4.mono hB.size)
      clear hW hW3 hW4
      by_cases hl : (ent p i).k.lt s = true
      · rw [hl]
        have Hl := Lib.hid hl; clear hl
        go_wp2_with fail
        refine ⟨⟨i + 1, acc, a, c, by simp, rfl, by omega, by omega, by rw [Hdc.out, if_pos Hl.out, Hgo.out], Hown.out, hB⟩, ?_⟩
        show p.length - (((i : Int) + 1).toNat) < p.length - ((i : Int).toNat)
        omega
      · have hl' : (ent p i).k.lt s = false := by simpa using hl
        rw [hl']
        have Hl := Lib.hid hl; clear hl hl'
        have Hown1 := Lib.hid (owns_below Hown.out (below_box (W3) (.cells #[.int .u64 (ent p i).k.t, .int .u64 (ent p i).k.s, .int .u64 num] 60)))
        have Hsrc1 := Lib.hid (BK.src3 (W3) (.int .u64 (ent p i).k.t) (.int .u64 (ent p i).k.s) (.int .u64 num))
        have q1 : acc.length + 1 ≤ maxLen := by unfold maxLen; omega
        have q2 : (acc.length + 1) * 24 ≤ 140737488355328 := by omega
        have q3 : w0.heap.size ≤ ((W3).alloc (.cells #[.int .u64 (ent p i).k.t, .int .u64 (ent p i).k.s, .int .u64 num] 60)).heap.size := by have := (hB).size; simp; omega
        have q4 : ∀ u ∈ ([.int .u64 (ent p i).k.t, .int .u64 (ent p i).k.s, .int .u64 num] : List Value), u.oneCell' = true := fun u hu => by
          simp only [List.mem_cons, List.not_mem_nil, or_false] at hu
          rcases hu with rfl | rfl | rfl <;> rfl
        have Q1 := Lib.hid q4; clear q4
        go_wp2_with (at_builtin; go_loud (refine wpList_append_own _ rfl _ _ 34 rfl w0.heap.size 60 i0 (.agg #[.int .u64 0, .int .u64 0, .int .u64 0]) 3 24 und_page hi hz0 hz1 hz2 rfl (by decide) _ _ _ rfl Hown1.out ⟨(W3).heap.size, 0, none⟩ 1 1 [.int .u64 (ent p i).k.t, .int .u64 (ent p i).k.s, .int .u64 num] rfl rfl Hsrc1.out Q1.out q1 q2 q3 ?_; intro v' w1 hown' hgrow hnil; clear hnil; have hg1 := (below_box (W3) (.cells #[.int .u64 (ent p i).k.t, .int .u64 (ent p i).k.s, .int .u64 num] 60)).mono (hB).size; have Hbg := Lib.hid (hg1.grown hgrow q3 (fun k hk => (Hown1.out.lt k hk).1)); clear hg1 hgrow q1 q2 q3 Hown1 Hsrc1 Q1; obtain ⟨a2, cap3, rfl, hx1, hx2⟩ := owns_shape hown'; have Hown' := Lib.hid hown'; clear hown'))
        refine ⟨⟨i + 1, acc ++ [ent p i], a2, cap3, by simp, by simp, by omega, by simp; omega, by rw [Hdc.out, if_neg Hl.out, Hgo.out], ?_, hB.trans Hbg.out⟩, ?_⟩
        · have := Hown'.out
          rw [← hnum, BK.cells_snoc] at this
          rw [List.length_append]; exact this
        · show p.length - (((i : Int) + 1).toNat) < p.length - ((i : Int).toNat)
          omega
    · obtain rfl : i = p.length := by omega
      have hgo := Hgo.out
      rw [List.take_length] at hgo
      subst hgo
      go_wp2_with fail
      go_ret
      exact ⟨_, rfl, owns_base Hown.out fun k hk => by have := (Hown.out.lt k hk).1; omega, hB0.trans ((hB1.trans (hB.mono hB1.size)).mono hB0.size)⟩
set_option maxHeartbeats 1000000 in
set_option maxRecDepth 100000 in
theorem down_of (x : Value) (s : St) (p : List Ent) (hn : p.length ≤ 274877906944) (hN : ∀ e ∈ p, U.NumV e.v) (w : World)
    (hA : ∀ w0, Below w.heap.size w w0 → Calls Try.prog 87 #[x] w0 (AllPost p w0)) (hx : ∃ a, x = .pointer a) :
    Calls Try.prog 91 #[x, s.v] w fun e w' => ∃ v, e = .returned v ∧ w'.ownsRow w.heap.size 60 3 v (dnR s p).length (cellsOf (dnR s p)) ∧ Below w.heap.size w w' := by
  obtain ⟨xa, rfl⟩ := hx
  have hB0 := below_box w (.cells #[.int .u64 s.t, .int .u64 s.s] 38)
  have s0 : (w.alloc (.cells #[.int .u64 s.t, .int .u64 s.s] 38)).cell? ⟨w.heap.size, 0, none⟩ = some (.int .u64 s.t) := by simp
  have s1 : (w.alloc (.cells #[.int .u64 s.t, .int .u64 s.s] 38)).cell? ⟨w.heap.size, 1, none⟩ = some (.int .u64 s.s) := by simp
  have hw0 : (w.alloc (.cells #[.int .u64 s.t, .int .u64 s.s] 38)).heap.size = w.heap.size + 1 := by simp
  have HA := Lib.hid (hA _ hB0); clear hA
  unfold St.v
  obtain ⟨i0, hi, hz0, hz1, hz2⟩ := info_parts BK.info_Entry
  go_enter Try.func91, Try.ntmps91
  go_wp2_with fail
  generalize w.alloc (.cells #[.int .u64 s.t, .int .u64 s.s] 38) = w00 at hB0 s0 s1 hw0 HA ⊢
  refine HA.out.mono ?_
  rintro e w0 ⟨bv, rfl, hb, hB1⟩
  obtain ⟨ab, cb, rfl, hcb, hcm⟩ := owns_shape hb
  have Hb := Lib.hid hb; clear hb
  have s0 := below_cell hB1 s0
  have s1 := below_cell hB1 s1
  have hw1 := hB1.size
  go_wp2_with fail
  go_loopw [5, 7] (fun vl vi wr => ∃ (i : Nat) (acc : List Ent) (a : Option Addr) (c : Nat), vi = .int .i64 ((i : Int) - 1) ∧ vl = .slice a acc.length c ∧ i ≤ p.length ∧ acc.length ≤ p.length - i ∧
      acc = dnR s (p.drop i) ∧ wr.ownsRow w0.heap.size 60 3 vl acc.length (cellsOf acc) ∧ Below w0.heap.size w0 wr)
    (fun _ vi _ => (intOf vi + 1).toNat)
  case atStart => exact ⟨p.length, [], none, 0, rfl, rfl, by omega, by simp, by simp [dnR], World.ownsRow_nil _ _ 60 3, Below.refl _ _⟩
  case round =>
    obtain ⟨i, acc, a, c, rfl, rfl, hin, hal, hgo, hown, hB⟩ := hrel
    have Hown := Lib.hid hown; clear hown
    have Hgo := Lib.hid hgo; clear hgo
    by_cases hlt : 0 < i
    · obtain ⟨i, rfl⟩ : ∃ k, i = k + 1 := ⟨i - 1, by omega⟩
      have hlt : i < p.length := by omega
      have hii : (i : Int) < (p.length : Int) := by omega
      have hi1 : ((i + 1 : Nat) : Int) - 1 = (i : Int) := by omega
      rw [hi1]
      clear hi1
      obtain ⟨g, cap, e1, -, hgl, -⟩ := owns_parts Hb.out (by omega)
      injection e1 with e1 _ f1
      subst e1 f1
      obtain ⟨z0, z1, z2⟩ := BK.book_cells Hb.out hlt
      obtain ⟨num, hnum⟩ := hN (ent p i) (by have : ent p i = p[i] := by simp [ent, hlt]
                                             rw [this]; exact List.getElem_mem _)
      rw [hnum] at z2
      have z0 := (hB.cell (p := ⟨g, i * 3, none⟩) (show g < w0.heap.size by omega)).trans z0
      have z1 := (hB.cell (p := ⟨g, i * 3 + 1, none⟩) (show g < w0.heap.size by omega)).trans z1
      have z2 := (hB.cell (p := ⟨g, i * 3 + 2, none⟩) (show g < w0.heap.size by omega)).trans z2
      have t0 := (hB.cell (p := ⟨w.heap.size, 0, none⟩) (show w.heap.size < w0.heap.size by omega)).trans s0
      have t1 := (hB.cell (p := ⟨w.heap.size, 1, none⟩) (show w.heap.size < w0.heap.size by omega)).trans s1
      have Hdc := Lib.hid (dnR_drop s hlt)
      go_wp2_with fail
      refine wp_region_rg (fun j => if j = 6 then some (fun v _ => v = .bool (s.lt (ent p i).k)) else none) fol (by kernel_rfl) (fun W hW hh => ?_)
      clear hh
      have q0 : ∀ w1, Below W.heap.size W w1 → w1.cell? ⟨g, i * 3, none⟩ = some (.int .u64 (ent p i).k.t) := fun w1 h => below_cell (below_trans hW h) z0
      have q1 : ∀ w1, Below W.heap.size W w1 → w1.cell? ⟨g, i * 3 + 1, none⟩ = some (.int .u64 (ent p i).k.s) := fun w1 h => below_cell (below_trans hW h) z1
      have q2 : ∀ w1, Below W.heap.size W w1 → w1.cell? ⟨w.heap.size, 0, none⟩ = some (.int .u64 s.t) := fun w1 h => below_cell (below_trans hW h) t0
      have q3 : ∀ w1, Below W.heap.size W w1 → w1.cell? ⟨w.heap.size, 1, none⟩ = some (.int .u64 s.s) := fun w1 h => below_cell (below_trans hW h) t1
      repeat (first
        | (refine lex_move _ (by first | exact Or.inl rfl | exact Or.inr rfl) rfl rfl ?_
           simp only [Act.put, Act.eval, Array.getD_eq_getD_getElem?, List.getElem?_toArray, List.getElem?_cons_zero, List.getElem?_cons_succ, Option.getD_some, List.setIfInBounds_toArray, List.set_cons_succ, List.set_cons_zero]
          )
        | (refine lex_float ?_ rfl rfl (fun w1 hb1 hf1 => ?_) ?_
           rotate_left
           (go_simp; (try simp (disch := omega) only [IntWalk.i64_quo, IntWalk.rem_in, IntWalk.i64_in, IntWalk.u64_in, IntWalk.u32_in, IntWalk.u8_in, IntWalk.toNatUp, IntWalk.iteOmega]); (try go_simp); rfl)
           simp only [Act.put, Act.eval, Array.getD_eq_getD_getElem?, List.getElem?_toArray, List.getElem?_cons_zero, List.getElem?_cons_succ, Option.getD_some, List.setIfInBounds_toArray, List.set_cons_succ, List.set_cons_zero]
          )
        | (refine lex_skip rfl ?_
           simp only [Act.put, Act.eval, Array.getD_eq_getD_getElem?, List.getElem?_toArray, List.getElem?_cons_zero, List.getElem?_cons_succ, Option.getD_some, List.setIfInBounds_toArray, List.set_cons_succ, List.set_cons_zero]
          ))
      refine lex_make _ rfl (by exact fun _ _ _ h _ => h) rfl (fun w1 hb1 hf1 => ?_) ?_
      · (unfold makes; go_simp; simp only [makesUpon])
        have hL := less_ref s (ent p i).k w1
        unfold St.v at hL
        refine hL.mono ?_
        rintro e w' ⟨rfl, hb⟩
        exact ⟨_, rfl, hb, rfl⟩
      rintro v W3 hW3 rfl
      simp only [Act.put, Act.eval, Array.getD_eq_getD_getElem?, List.getElem?_toArray, List.getElem?_cons_zero, List.getElem?_cons_succ, Option.getD_some, List.setIfInBounds_toArray, List.set_cons_succ, List.set_cons_zero]
      clear q0 q1 q2 q3
      repeat (first
        | (refine lex_move _ (by first | exact Or.inl rfl | exact Or.inr rfl) rfl rfl ?_
           simp only [Act.put, Act.eval, Array.getD_eq_getD_getElem?, List.getElem?_toArray, List.getElem?_cons_zero, List.getElem?_cons_succ, Option.getD_some, List.setIfInBounds_toArray, List.set_cons_succ, List.set_cons_zero]
          )
        | (refine lex_float ?_ rfl rfl (fun w1 hb1 hf1 => ?_) ?_
           rotate_left
           (go_simp; (try simp (disch := omega) only [IntWalk.i64_quo, IntWalk.rem_in, IntWalk.i64_in, IntWalk.u64_in, IntWalk.u32_in, IntWalk.u8_in, IntWalk.toNatUp, IntWalk.iteOmega]); (try go_simp); rfl)
           simp only [Act.put, Act.eval, Array.getD_eq_getD_getElem?, List.getElem?_toArray, List.getElem?_cons_zero, List.getElem?_cons_succ, Option.getD_some, List.setIfInBounds_toArray, List.set_cons_succ, List.set_cons_zero]
          )
        | (refine lex_skip rfl ?_
           simp only [Act.put, Act.eval, Array.getD_eq_getD_getElem?, List.getElem?_toArray, List.getElem?_cons_zero, List.getElem?_cons_succ, Option.getD_some, List.setIfInBounds_toArray, List.set_cons_succ, List.set_cons_zero]
          ))
      refine lex_nil ?_
      have hW4 := below_trans hW hW3
      have z0 := below_cell hW4 z0
      have z1 := below_cell hW4 z1
      have z2 := below_cell hW4 z2
      have Hown := Lib.hid (owns_below Hown.out hW4)
      have hB := hB.trans (hW4.mono hB.size)
      clear hW hW3 hW4
      by_cases hl : s.lt (ent p i).k = true
      · rw [hl]
        have Hl := Lib.hid hl; clear hl
        go_wp2_with fail
        refine ⟨⟨i, acc, a, c, rfl, rfl, by omega, by omega, by rw [Hdc.out, if_pos Hl.out, Hgo.out], Hown.out, hB⟩, ?_⟩
        show ((i : Int) - 1 + 1).toNat < ((i : Int) + 1).toNat
        omega
      · have hl' : s.lt (ent p i).k = false := by simpa using hl
        rw [hl']
        have Hl := Lib.hid hl; clear hl hl'
        have Hown1 := Lib.hid (owns_below Hown.out (below_box (W3) (.cells #[.int .u64 (ent p i).k.t, .int .u64 (ent p i).k.s, .int .u64 num] 60)))
        have Hsrc1 := Lib.hid (BK.src3 (W3) (.int .u64 (ent p i).k.t) (.int .u64 (ent p i).k.s) (.int .u64 num))
        have q1 : acc.length + 1 ≤ maxLen := by unfold maxLen; omega
        have q2 : (acc.length + 1) * 24 ≤ 140737488355328 := by omega
        have q3 : w0.heap.size ≤ ((W3).alloc (.cells #[.int .u64 (ent p i).k.t, .int .u64 (ent p i).k.s, .int .u64 num] 60)).heap.size := by have := (hB).size; simp; omega
        have q4 : ∀ u ∈ ([.int .u64 (ent p i).k.t, .int .u64 (ent p i).k.s, .int .u64 num] : List Value), u.oneCell' = true := fun u hu => by
          simp only [List.mem_cons, List.not_mem_nil, or_false] at hu
          rcases hu with rfl | rfl | rfl <;> rfl
        have Q1 := Lib.hid q4; clear q4
        go_wp2_with (at_builtin; go_loud (refine wpList_append_own _ rfl _ _ 34 rfl w0.heap.size 60 i0 (.agg #[.int .u64 0, .int .u64 0, .int .u64 0]) 3 24 und_page hi hz0 hz1 hz2 rfl (by decide) _ _ _ rfl Hown1.out ⟨(W3).heap.size, 0, none⟩ 1 1 [.int .u64 (ent p i).k.t, .int .u64 (ent p i).k.s, .int .u64 num] rfl rfl Hsrc1.out Q1.out q1 q2 q3 ?_; intro v' w1 hown' hgrow hnil; clear hnil; have hg1 := (below_box (W3) (.cells #[.int .u64 (ent p i).k.t, .int .u64 (ent p i).k.s, .int .u64 num] 60)).mono (hB).size; have Hbg := Lib.hid (hg1.grown hgrow q3 (fun k hk => (Hown1.out.lt k hk).1)); clear hg1 hgrow q1 q2 q3 Hown1 Hsrc1 Q1; obtain ⟨a2, cap3, rfl, hx1, hx2⟩ := owns_shape hown'; have Hown' := Lib.hid hown'; clear hown'))
        refine ⟨⟨i, acc ++ [ent p i], a2, cap3, rfl, by simp, by omega, by simp; omega, by rw [Hdc.out, if_neg Hl.out, Hgo.out], ?_, hB.trans Hbg.out⟩, ?_⟩
        · have := Hown'.out
          rw [← hnum, BK.cells_snoc] at this
          rw [List.length_append]; exact this
        · show ((i : Int) - 1 + 1).toNat < ((i : Int) + 1).toNat
          omega
    · obtain rfl : i = 0 := by omega
      have hgo := Hgo.out
      rw [List.drop_zero] at hgo
      subst hgo
      go_wp2_with fail
      go_ret
      exact ⟨_, rfl, owns_base Hown.out fun k hk => by have := (Hown.out.lt k hk).1; omega, hB0.trans ((hB1.trans (hB.mono hB1.size)).mono hB0.size)⟩
end Go.Proofs.Ytagcohpghgnalaa.RF
