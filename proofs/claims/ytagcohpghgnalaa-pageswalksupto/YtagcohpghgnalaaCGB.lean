/-
  How an index of pages lies in memory, and that it lies there still where its blocks are kept. No program: the types' numbers are parameters.
-/
import Derived.Test.YtagcohpghgnalaaCGA
set_option linter.unusedSimpArgs false
set_option linter.unusedVariables false
namespace Go.Pg
open Go.RowKit Go.RG Go.Hp

/-- a stamp and its value (one cell) -/
structure Ent where
  k : St
  v : Value
def Ent.cells (e : Ent) : List Value := [.int .u64 e.k.t, .int .u64 e.k.s, e.v]
def cellsOf (p : List Ent) : List Value := p.flatMap Ent.cells
def keys (p : List Ent) : List St := p.map (·.k)
def Ent.none : Ent := ⟨⟨0, 0⟩, undef⟩
def ent (p : List Ent) (i : Nat) : Ent := p.getD i Ent.none
def pageAt (R : List (List Ent)) (i : Nat) : List Ent := R.getD i []
def val (l : List Value) (i : Nat) : Value := l.getD i undef
def first (p : List Ent) : St := key (keys p) 0
def firsts (R : List (List Ent)) : List St := R.map first
def total (R : List (List Ent)) : Nat := (R.map List.length).sum

theorem length_cellsOf (p : List Ent) : (cellsOf p).length = p.length * 3 := by
  induction p with
  | nil => rfl
  | cons e p ih => simp only [cellsOf, List.flatMap_cons, List.length_append, Ent.cells, List.length_cons, List.length_nil] at *; omega
theorem cellsOf_cons (e : Ent) (p : List Ent) : cellsOf (e :: p) = Ent.cells e ++ cellsOf p := by simp [cellsOf]
theorem cellsOf_append (p q : List Ent) : cellsOf (p ++ q) = cellsOf p ++ cellsOf q := by simp [cellsOf]
theorem cellsOf_get (p : List Ent) : ∀ i, i < p.length → (cellsOf p)[i * 3]? = some (.int .u64 (ent p i).k.t) ∧ (cellsOf p)[i * 3 + 1]? = some (.int .u64 (ent p i).k.s) ∧ (cellsOf p)[i * 3 + 2]? = some (ent p i).v := by
  induction p with
  | nil => intro i h; cases h
  | cons e p ih =>
    intro i h
    cases i with
    | zero => simp [cellsOf_cons, Ent.cells, ent]
    | succ i =>
      have := ih i (by simpa using h)
      simpa [cellsOf_cons, Ent.cells, ent, Nat.succ_mul] using this
theorem key_keys (p : List Ent) (i : Nat) : key (keys p) i = (ent p i).k := by
  simp only [key, keys, ent, List.getD_eq_getElem?_getD, List.getElem?_map]
  cases p[i]? <;> rfl
theorem length_keys (p : List Ent) : (keys p).length = p.length := by simp [keys]
theorem length_firsts (R : List (List Ent)) : (firsts R).length = R.length := by simp [firsts]
theorem key_firsts {R : List (List Ent)} {i : Nat} (h : i < R.length) : key (firsts R) i = (ent (pageAt R i) 0).k := by
  rw [key_of (by rw [length_firsts]; exact h)]
  simp [firsts, first, key_keys, pageAt, h]

/-- a page -/
structure PageIs (E : TypeId) (w : World) (v : Value) (p : List Ent) : Prop where
  row : w.ownsRow 0 E 3 v p.length (cellsOf p)
  one : ∀ e ∈ p, e.v.oneCell' = true
theorem PageIs.below {E : TypeId} {w w' : World} {v : Value} {p : List Ent} (h : PageIs E w v p) (hb : Below w.heap.size w w') : PageIs E w' v p := ⟨owns_below h.row hb, h.one⟩
theorem PageIs.ext {E : TypeId} {S : Nat → Prop} {w w' : World} {v : Value} {p : List Ent} (h : PageIs E w v p) (hb : Ext S w w') (hn : ∀ k, v.ownBlock = some k → ¬ S k) : PageIs E w' v p := ⟨owns_ext h.row hb hn, h.one⟩
/-- its cells, where it is not empty -/
theorem PageIs.parts {E : TypeId} {w : World} {v : Value} {p : List Ent} (h : PageIs E w v p) (hp : 0 < p.length) :
    ∃ g cap, v = .slice (some ⟨g, 0, none⟩) p.length cap ∧ g < w.heap.size ∧ p.length ≤ cap ∧ cap ≤ maxLen ∧
      (∀ i, i < p.length → w.cell? ⟨g, i * 3, none⟩ = some (.int .u64 (ent p i).k.t) ∧ w.cell? ⟨g, i * 3 + 1, none⟩ = some (.int .u64 (ent p i).k.s) ∧ w.cell? ⟨g, i * 3 + 2, none⟩ = some (ent p i).v) ∧
      (∀ i, i < p.length → (ent p i).v.oneCell' = true) ∧ ∀ j, w.frozen? ⟨g, j, none⟩ = false := by
  obtain ⟨g, cap, hv, _, hg, hc, hm, hcell, hfr⟩ := owns_parts h.row hp
  refine ⟨g, cap, hv, hg, hc, hm, fun i hi => ?_, fun i hi => ?_, hfr⟩
  · obtain ⟨h1, h2, h3⟩ := cellsOf_get p i hi
    exact ⟨by rw [hcell _ (by omega), h1], by rw [hcell _ (by omega), h2], by rw [hcell _ (by omega), h3]⟩
  · have : ent p i = p[i] := by simp [ent, hi]
    rw [this]
    exact h.one _ (List.getElem_mem _)

/-- an index of pages: its struct in block bx, its row of pages, all within S -/
structure Mem (E PG IX : TypeId) (w : World) (bx : Nat) (size : Int) (R : List (List Ent)) (S : Nat → Prop) (vr : Value) (pvs : List Value) : Prop where
  str : w.heap[bx]? = some (.cells #[.int .i64 size, .int .i64 (total R), vr] IX (0, 0))
  rows : w.ownsRow 0 PG 1 vr R.length pvs
  pages : ∀ i, i < R.length → PageIs E w (val pvs i) (pageAt R i)
  sx : S bx
  sr : ∀ k, vr.ownBlock = some k → S k ∧ k ≠ bx
  sp : ∀ i, i < R.length → ∀ k, (val pvs i).ownBlock = some k → S k ∧ k ≠ bx ∧ vr.ownBlock ≠ some k

theorem Mem.keep {E PG IX : TypeId} {w w' : World} {bx : Nat} {size : Int} {R : List (List Ent)} {S : Nat → Prop} {vr : Value} {pvs : List Value}
    (h : Mem E PG IX w bx size R S vr pvs) (hk : ∀ k, S k → k < w.heap.size → w'.heap[k]? = w.heap[k]?) : Mem E PG IX w' bx size R S vr pvs where
  str := by rw [hk _ h.sx (block_lt_of_heap h.str)]; exact h.str
  rows := owns_of_block h.rows fun k hb => hk k (h.sr k hb).1 (owns_lt h.rows hb)
  pages := fun i hi => ⟨owns_of_block (h.pages i hi).row fun k hb => hk k (h.sp i hi k hb).1 (owns_lt (h.pages i hi).row hb), (h.pages i hi).one⟩
  sx := h.sx
  sr := h.sr
  sp := h.sp
theorem Mem.below {E PG IX : TypeId} {w w' : World} {bx : Nat} {size : Int} {R : List (List Ent)} {S : Nat → Prop} {vr : Value} {pvs : List Value}
    (h : Mem E PG IX w bx size R S vr pvs) (hb : Below w.heap.size w w') : Mem E PG IX w' bx size R S vr pvs := h.keep fun k _ hk => hb.block k hk
theorem Mem.ext {E PG IX : TypeId} {w w' : World} {bx : Nat} {size : Int} {R : List (List Ent)} {S T : Nat → Prop} {vr : Value} {pvs : List Value}
    (h : Mem E PG IX w bx size R S vr pvs) (hb : Ext T w w') (hd : ∀ k, k < w.heap.size → S k → ¬ T k) : Mem E PG IX w' bx size R S vr pvs := h.keep fun k hs hk => hb.block k hk (hd k hk hs)
theorem Mem.cells {E PG IX : TypeId} {w : World} {bx : Nat} {size : Int} {R : List (List Ent)} {S : Nat → Prop} {vr : Value} {pvs : List Value}
    (h : Mem E PG IX w bx size R S vr pvs) : w.cell? ⟨bx, 0, none⟩ = some (.int .i64 size) ∧ w.cell? ⟨bx, 1, none⟩ = some (.int .i64 (total R)) ∧ w.cell? ⟨bx, 2, none⟩ = some vr := by
  simp [World.cell?, h.str]
theorem Mem.frozen {E PG IX : TypeId} {w : World} {bx : Nat} {size : Int} {R : List (List Ent)} {S : Nat → Prop} {vr : Value} {pvs : List Value}
    (h : Mem E PG IX w bx size R S vr pvs) (o : Nat) : w.frozen? ⟨bx, o, none⟩ = false := by
  simp [World.frozen?, h.str]
/-- the blocks that Put and Remove write: the index's own, and its row of pages -/
def WrW (w : World) (bx k : Nat) : Prop := k = bx ∨ ∃ vr, w.cell? ⟨bx, 2, none⟩ = some vr ∧ vr.ownBlock = some k
theorem Mem.wr {E PG IX : TypeId} {w : World} {bx : Nat} {size : Int} {R : List (List Ent)} {S : Nat → Prop} {vr : Value} {pvs : List Value}
    (h : Mem E PG IX w bx size R S vr pvs) : ∀ k, WrW w bx k → S k := by
  rintro k (rfl | ⟨v, h1, h2⟩)
  · exact h.sx
  · rw [h.cells.2.2] at h1
    injection h1 with h1
    subst h1
    exact (h.sr k h2).1
theorem Mem.wg {E PG IX : TypeId} {w : World} {bx : Nat} {size : Int} {R : List (List Ent)} {S : Nat → Prop} {vr : Value} {pvs : List Value}
    (h : Mem E PG IX w bx size R S vr pvs) {k : Nat} (hk : vr.ownBlock = some k) : WrW w bx k := .inr ⟨vr, h.cells.2.2, hk⟩
/-- behind a Put or a Remove: nothing else has been written, and the row of pages is the old one or a new one -/
structure Wrote (w : World) (bx : Nat) (vr' : Value) (w' : World) : Prop where
  ext : Ext (WrW w bx) w w'
  row : ∀ k, vr'.ownBlock = some k → WrW w bx k ∨ w.heap.size ≤ k
/-- the row, where there is a page -/
theorem Mem.row {E PG IX : TypeId} {w : World} {bx : Nat} {size : Int} {R : List (List Ent)} {S : Nat → Prop} {vr : Value} {pvs : List Value}
    (h : Mem E PG IX w bx size R S vr pvs) (hR : 0 < R.length) :
    ∃ g cap, vr = .slice (some ⟨g, 0, none⟩) R.length cap ∧ g < w.heap.size ∧ R.length ≤ cap ∧ cap ≤ maxLen ∧ (∀ i, i < R.length → w.cell? ⟨g, i, none⟩ = some (val pvs i)) ∧ ∀ j, w.frozen? ⟨g, j, none⟩ = false := by
  obtain ⟨g, cap, hv, _, hg, hc, hm, hcell, hfr⟩ := owns_parts h.rows hR
  refine ⟨g, cap, hv, hg, hc, hm, fun i hi => ?_, hfr⟩
  rw [hcell i (by omega)]
  have hl := owns_length h.rows
  simp [val, show i < pvs.length by omega]

theorem Mem.search {E PG IX : TypeId} {w : World} {bx : Nat} {size : Int} {R : List (List Ent)} {S : Nat → Prop} {vr : Value} {pvs : List Value} {g n cap : Nat}
    (h : Mem E PG IX w bx size R S vr pvs) (hv : vr = .slice (some ⟨g, 0, none⟩) n cap) (hf : ∀ i, i < R.length → 0 < (pageAt R i).length) :
    ∀ i, i < R.length → ∃ g' cap m, w.cell? ⟨g, i, none⟩ = some (.slice (some ⟨g', 0, none⟩) m cap) ∧ 0 < m ∧ w.cell? ⟨g', 0, none⟩ = some (.int .u64 (key (firsts R) i).t) ∧ w.cell? ⟨g', 1, none⟩ = some (.int .u64 (key (firsts R) i).s) := by
  intro i hi
  obtain ⟨g0, cap0, hv0, _, _, _, hrow, _⟩ := h.row (by omega)
  rw [hv] at hv0
  injection hv0 with h1 _ _
  injection h1 with h1
  injection h1 with h1 _ _
  subst h1
  obtain ⟨g2, cap2, hv2, _, _, _, hp, _⟩ := (h.pages i hi).parts (hf i hi)
  obtain ⟨c0, c1, _⟩ := hp 0 (hf i hi)
  rw [key_firsts hi]
  exact ⟨g2, cap2, _, by rw [hrow i hi, hv2], hf i hi, by simpa using c0, by simpa using c1⟩
theorem PageIs.search {E : TypeId} {w : World} {v : Value} {p : List Ent} {g n cap : Nat} (h : PageIs E w v p) (hv : v = .slice (some ⟨g, 0, none⟩) n cap) :
    ∀ i, i < p.length → ∃ x : Value, x.oneCell' = true ∧ w.cell? ⟨g, i * 3, none⟩ = some (.int .u64 (key (keys p) i).t) ∧ w.cell? ⟨g, i * 3 + 1, none⟩ = some (.int .u64 (key (keys p) i).s) ∧ w.cell? ⟨g, i * 3 + 2, none⟩ = some x := by
  intro i hi
  obtain ⟨g2, cap2, hv2, _, _, _, hp, hone, _⟩ := h.parts (by omega)
  rw [hv] at hv2
  injection hv2 with h1 _ _
  injection h1 with h1
  injection h1 with h1 _ _
  subst h1
  rw [key_keys]
  exact ⟨_, hone i hi, hp i hi⟩

/-! ### What Place comes to -/
/-- pages in order: none is empty, all their stamps rise -/
structure Ordered (R : List (List Ent)) : Prop where
  full : ∀ i, i < R.length → 0 < (pageAt R i).length
  firsts : Rising (firsts R)
  page : ∀ i, i < R.length → Rising (keys (pageAt R i))
def pageOf (R : List (List Ent)) (s : St) : Nat := if isIn (Pg.firsts R) s then rank (Pg.firsts R) s else rank (Pg.firsts R) s - 1
def entOf (R : List (List Ent)) (s : St) : Nat := rank (keys (pageAt R (pageOf R s))) s
def there (R : List (List Ent)) (s : St) : Bool := isIn (keys (pageAt R (pageOf R s))) s
theorem pageOf_lt {R : List (List Ent)} {s : St} (h : 0 < R.length) : pageOf R s < R.length := by
  unfold pageOf
  have h1 := rank_le (firsts R) s
  rw [length_firsts] at h1
  split
  · rename_i h2; have := (isIn_iff.1 h2).1; rw [length_firsts] at this; exact this
  · omega
theorem entOf_le (R : List (List Ent)) (s : St) : entOf R s ≤ (pageAt R (pageOf R s)).length := by
  have := rank_le (keys (pageAt R (pageOf R s))) s
  rw [length_keys] at this
  exact this
end Go.Pg
namespace Go.Pg
open Go.RowKit Go.RG Go.Hp

def putR (size : Nat) (R : List (List Ent)) (s : St) (v : Value) : List (List Ent) :=
  if R.length = 0 then [[⟨s, v⟩]]
  else if there R s then R.set (pageOf R s) ((pageAt R (pageOf R s)).set (entOf R s) ⟨(ent (pageAt R (pageOf R s)) (entOf R s)).k, v⟩)
  else
    let l := (pageAt R (pageOf R s)).take (entOf R s) ++ (⟨s, v⟩ :: (pageAt R (pageOf R s)).drop (entOf R s))
    if l.length ≤ size then R.set (pageOf R s) l
    else R.take (pageOf R s) ++ (l.take (l.length / 2) :: l.drop (l.length / 2) :: R.drop (pageOf R s + 1))

def removeR (size : Nat) (R : List (List Ent)) (s : St) : List (List Ent) :=
  if there R s then
    let p := pageOf R s
    let l := (pageAt R p).take (entOf R s) ++ (pageAt R p).drop (entOf R s + 1)
    if l.length = 0 then R.take p ++ R.drop (p + 1)
    else if p + 1 < R.length ∧ (pageAt R (p + 1)).length + l.length ≤ size / 2 then R.take p ++ ((l ++ pageAt R (p + 1)) :: R.drop (p + 2))
    else if 0 < p ∧ (pageAt R (p - 1)).length + l.length ≤ size / 2 then R.take (p - 1) ++ ((pageAt R (p - 1) ++ l) :: R.drop (p + 1))
    else R.set p l
  else R

theorem pageAt_set {R : List (List Ent)} {p : Nat} (l : List Ent) (i : Nat) (hp : p < R.length) : pageAt (R.set p l) i = if i = p then l else pageAt R i := by
  unfold pageAt
  by_cases h : i = p
  · subst h; simp [hp]
  · rw [if_neg h, List.getD_eq_getElem?_getD, List.getElem?_set_ne (Ne.symm h), List.getD_eq_getElem?_getD]
theorem val_set {l : List Value} {p : Nat} (u : Value) (i : Nat) (hp : p < l.length) : val (l.set p u) i = if i = p then u else val l i := by
  unfold val
  by_cases h : i = p
  · subst h; simp [hp]
  · rw [if_neg h, List.getD_eq_getElem?_getD, List.getElem?_set_ne (Ne.symm h), List.getD_eq_getElem?_getD]
/-- some of a list's elements in the place of those from i to j - 1 -/
theorem getD_repl {α : Type} {l m : List α} {i j : Nat} (d : α) (k : Nat) (hij : i ≤ j) (hj : j ≤ l.length) :
    (l.take i ++ (m ++ l.drop j)).getD k d = if k < i then l.getD k d else if k < i + m.length then m.getD (k - i) d else l.getD (k - m.length + (j - i)) d := by
  have hT : (l.take i).length = i := by rw [List.length_take]; omega
  simp only [List.getD_eq_getElem?_getD]
  by_cases h1 : k < i
  · rw [if_pos h1, List.getElem?_append_left (by omega), List.getElem?_take_of_lt h1]
  · rw [if_neg h1, List.getElem?_append_right (by omega), hT]
    by_cases h2 : k < i + m.length
    · rw [if_pos h2, List.getElem?_append_left (by omega)]
    · rw [if_neg h2, List.getElem?_append_right (by omega), List.getElem?_drop]
      congr 2
      omega
theorem length_repl {α : Type} {l m : List α} {i j : Nat} (hij : i ≤ j) (hj : j ≤ l.length) : (l.take i ++ (m ++ l.drop j)).length = l.length - (j - i) + m.length := by
  simp only [List.length_append, List.length_take, List.length_drop]; omega
theorem pageAt_repl {R m : List (List Ent)} {i j : Nat} (k : Nat) (hij : i ≤ j) (hj : j ≤ R.length) :
    pageAt (R.take i ++ (m ++ R.drop j)) k = if k < i then pageAt R k else if k < i + m.length then pageAt m (k - i) else pageAt R (k - m.length + (j - i)) := getD_repl [] k hij hj
theorem val_repl {l m : List Value} {i j : Nat} (k : Nat) (hij : i ≤ j) (hj : j ≤ l.length) :
    val (l.take i ++ (m ++ l.drop j)) k = if k < i then val l k else if k < i + m.length then val m (k - i) else val l (k - m.length + (j - i)) := getD_repl undef k hij hj

theorem total_nil : total [] = 0 := rfl
theorem total_append (R T : List (List Ent)) : total (R ++ T) = total R + total T := by simp [total]
theorem total_cons (l : List Ent) (R : List (List Ent)) : total (l :: R) = l.length + total R := by simp [total]
theorem total_split (R : List (List Ent)) {p : Nat} (h : p < R.length) : total R = total (R.take p) + ((pageAt R p).length + total (R.drop (p + 1))) := by
  have : R = R.take p ++ (pageAt R p :: R.drop (p + 1)) := by
    have e : pageAt R p = R[p] := by simp [pageAt, h]
    rw [e, List.getElem_cons_drop, List.take_append_drop]
  conv => lhs; rw [this]
  rw [total_append, total_cons]
theorem set_split {R : List (List Ent)} {p : Nat} (h : p < R.length) (l : List Ent) : R.set p l = R.take p ++ (l :: R.drop (p + 1)) := by
  rw [List.set_eq_take_append_cons_drop, if_pos h]
theorem total_set (R : List (List Ent)) {p : Nat} (h : p < R.length) (l : List Ent) : total (R.set p l) + (pageAt R p).length = total R + l.length := by
  rw [set_split h, total_append, total_cons, total_split R h]; omega
theorem total_put {size : Nat} {R : List (List Ent)} (s : St) (v : Value) (hR : 0 < R.length) : total (putR size R s v) = total R + if there R s then 0 else 1 := by
  have hp := pageOf_lt (s := s) hR
  have he := entOf_le R s
  unfold putR
  rw [if_neg (by omega)]
  by_cases ht : there R s = true
  · rw [if_pos ht, if_pos ht]
    have := total_set R hp ((pageAt R (pageOf R s)).set (entOf R s) ⟨(ent (pageAt R (pageOf R s)) (entOf R s)).k, v⟩)
    rw [List.length_set] at this
    omega
  · rw [if_neg ht, if_neg ht]
    have hl : ((pageAt R (pageOf R s)).take (entOf R s) ++ (⟨s, v⟩ :: (pageAt R (pageOf R s)).drop (entOf R s)) : List Ent).length = (pageAt R (pageOf R s)).length + 1 := by
      simp only [List.length_append, List.length_take, List.length_cons, List.length_drop]; omega
    simp only []
    split
    · have := total_set R hp ((pageAt R (pageOf R s)).take (entOf R s) ++ (⟨s, v⟩ :: (pageAt R (pageOf R s)).drop (entOf R s)))
      omega
    · have hx : ∀ (l : List Ent) (k : Nat), (l.take k).length + (l.drop k).length = l.length := fun l k => by rw [List.length_take, List.length_drop]; omega
      have := hx ((pageAt R (pageOf R s)).take (entOf R s) ++ (⟨s, v⟩ :: (pageAt R (pageOf R s)).drop (entOf R s))) (((pageAt R (pageOf R s)).take (entOf R s) ++ (⟨s, v⟩ :: (pageAt R (pageOf R s)).drop (entOf R s))).length / 2)
      rw [total_append, total_cons, total_cons, total_split R hp]
      omega

/-! ### cells of a page that is changed -/
theorem cellsOf_take (p : List Ent) (i : Nat) : (cellsOf p).take (i * 3) = cellsOf (p.take i) := by
  induction p generalizing i with
  | nil => simp [cellsOf]
  | cons e p ih =>
    cases i with
    | zero => simp [cellsOf]
    | succ i =>
      rw [cellsOf_cons, List.take_succ_cons, cellsOf_cons, ← ih i, List.take_append, Nat.succ_mul]
      have : (Ent.cells e).length = 3 := rfl
      rw [this, List.take_of_length_le (by rw [this]; omega)]
      congr 2
theorem cellsOf_drop (p : List Ent) (i : Nat) : (cellsOf p).drop (i * 3) = cellsOf (p.drop i) := by
  induction p generalizing i with
  | nil => simp [cellsOf]
  | cons e p ih =>
    cases i with
    | zero => simp
    | succ i =>
      rw [cellsOf_cons, List.drop_succ_cons, ← ih i, List.drop_append, Nat.succ_mul]
      have : (Ent.cells e).length = 3 := rfl
      rw [this, List.drop_of_length_le (by rw [this]; omega)]
      simp
theorem cellsOf_one {p : List Ent} (h : ∀ e ∈ p, e.v.oneCell' = true) : ∀ v ∈ cellsOf p, v.oneCell' = true := by
  intro v hv
  simp only [cellsOf, List.mem_flatMap] at hv
  obtain ⟨e, he, hv⟩ := hv
  simp only [Ent.cells, List.mem_cons, List.not_mem_nil, or_false] at hv
  rcases hv with rfl | rfl | rfl
  · rfl
  · rfl
  · exact h e he
theorem cellsOf_set (p : List Ent) (i : Nat) (x : Value) (h : i < p.length) : (cellsOf p).set (i * 3 + 2) x = cellsOf (p.set i ⟨(ent p i).k, x⟩) := by
  induction p generalizing i with
  | nil => cases h
  | cons e p ih =>
    cases i with
    | zero => simp [cellsOf_cons, Ent.cells, ent]
    | succ i =>
      have h' : i < p.length := by simpa using h
      rw [cellsOf_cons, List.set_cons_succ, cellsOf_cons]
      have e1 : ent (e :: p) (i + 1) = ent p i := by simp [ent]
      rw [e1, ← ih i h', Nat.succ_mul]
      have e2 : i * 3 + 3 + 2 = (i * 3 + 2) + 1 + 1 + 1 := by omega
      rw [e2]
      rfl

/-! ### the index's struct -/
theorem str_set (w : World) (bx : Nat) (a b c u : Value) (T : TypeId) (fr : Nat × Nat) (h : w.heap[bx]? = some (.cells #[a, b, c] T fr)) :
    (w.setCell ⟨bx, 0, none⟩ u).heap[bx]? = some (.cells #[u, b, c] T fr) ∧ (w.setCell ⟨bx, 1, none⟩ u).heap[bx]? = some (.cells #[a, u, c] T fr) ∧ (w.setCell ⟨bx, 2, none⟩ u).heap[bx]? = some (.cells #[a, b, u] T fr) := by
  refine ⟨?_, ?_, ?_⟩
  · rw [setCell_eq_setRow w bx 0 #[a, b, c] T fr u h]; exact setRow_heap w bx _ _ T fr h
  · rw [setCell_eq_setRow w bx 1 #[a, b, c] T fr u h]; exact setRow_heap w bx _ _ T fr h
  · rw [setCell_eq_setRow w bx 2 #[a, b, c] T fr u h]; exact setRow_heap w bx _ _ T fr h
end Go.Pg
namespace Go.Pg
open Go.RowKit Go.RG Go.Hp

theorem Row.setCell {w : World} {g j : Nat} {e : TypeId} {L : List Value} (h : Row w g e L) (u : Value) : Row (w.setCell ⟨g, j, none⟩ u) g e (L.set j u) := by
  unfold Row at *
  rw [setCell_eq_setRow w g j L.toArray e (0, 0) u h, setRow_heap w g _ _ e _ h]
  simp
theorem owns_setCell {w : World} {B e size n g cap j : Nat} {xs : List Value} (h : w.ownsRow B e size (.slice (some ⟨g, 0, none⟩) n cap) n xs) (u : Value) :
    (w.setCell ⟨g, j, none⟩ u).ownsRow B e size (.slice (some ⟨g, 0, none⟩) n cap) n (xs.set j u) := by
  have hgB := (h.lt g rfl).1
  obtain ⟨L, hg, hLl, hLt, hnc, hcm⟩ := owns_row h
  refine owns_of_row (Row.setCell hg u) (by simpa using hLl) hnc hcm ?_ hgB
  rw [List.take_set, hLt]
theorem owns_src {w : World} {B e size n g cap : Nat} {xs : List Value} (h : w.ownsRow B e size (.slice (some ⟨g, 0, none⟩) n cap) n xs) :
    ∀ j u, xs[j]? = some u → w.cell? ((⟨g, 0, none⟩ : Addr).add j) = some u := by
  obtain ⟨L, hg, hLl, hLt, hnc, hcm⟩ := owns_row h
  intro j u hj
  rw [Addr.add_lit, Nat.zero_add, hg.cell]
  rw [← hLt, List.getElem?_take] at hj
  split at hj
  · exact hj
  · cases hj
theorem PageIs.put {E : TypeId} {w : World} {g n cap : Nat} {p : List Ent} (h : PageIs E w (.slice (some ⟨g, 0, none⟩) n cap) p) {i : Nat} (hn : n = p.length) (hi : i < p.length) {u : Value} (hu : u.oneCell' = true) :
    PageIs E (w.setCell ⟨g, i * 3 + 2, none⟩ u) (.slice (some ⟨g, 0, none⟩) n cap) (p.set i ⟨(ent p i).k, u⟩) := by
  subst hn
  refine ⟨?_, fun e he => ?_⟩
  · rw [← cellsOf_set p i u hi, List.length_set]
    exact owns_setCell h.row u
  · rcases List.mem_or_eq_of_mem_set he with h1 | rfl
    · exact h.one _ h1
    · exact hu

theorem Mem.repl {E PG IX : TypeId} {w W : World} {bx : Nat} {size : Int} {R ms : List (List Ent)} {S : Nat → Prop} {vr vr' : Value} {pvs vs : List Value} {i j : Nat}
    (h : Mem E PG IX w bx size R S vr pvs) (hij : i ≤ j) (hj : j ≤ R.length) (hvs : vs.length = ms.length)
    (hstr : W.heap[bx]? = some (.cells #[.int .i64 size, .int .i64 (total (R.take i ++ (ms ++ R.drop j))), vr'] IX (0, 0)))
    (hrow : ∃ B, W.ownsRow B PG 1 vr' (R.length - (j - i) + ms.length) (pvs.take i ++ (vs ++ pvs.drop j)))
    (hvr : ∀ k, vr'.ownBlock = some k → vr.ownBlock = some k ∨ w.heap.size ≤ k)
    (hk : ∀ k, S k → k < w.heap.size → k ≠ bx → vr.ownBlock ≠ some k → W.heap[k]? = w.heap[k]?)
    (hpage : ∀ q, q < ms.length → PageIs E W (val vs q) (pageAt ms q))
    (hnew : ∀ q, q < ms.length → ∀ k, (val vs q).ownBlock = some k → w.heap.size ≤ k ∧ vr'.ownBlock ≠ some k) :
    Mem E PG IX W bx size (R.take i ++ (ms ++ R.drop j)) (fun k => S k ∨ w.heap.size ≤ k) vr' (pvs.take i ++ (vs ++ pvs.drop j)) := by
  have hpl : pvs.length = R.length := by have := owns_length h.rows; omega
  have hbx := block_lt_of_heap h.str
  have hlen : (R.take i ++ (ms ++ R.drop j)).length = R.length - (j - i) + ms.length := length_repl hij hj
  -- an old page, where it stands now
  have hold : ∀ q, q < R.length → PageIs E W (val pvs q) (pageAt R q) ∧ ∀ k, (val pvs q).ownBlock = some k → (S k ∨ w.heap.size ≤ k) ∧ k ≠ bx ∧ vr'.ownBlock ≠ some k := by
    intro q hq
    refine ⟨⟨owns_of_block (h.pages q hq).row fun k hb => ?_, (h.pages q hq).one⟩, fun k hb => ?_⟩
    · obtain ⟨h1, h2, h3⟩ := h.sp q hq k hb
      exact hk k h1 (owns_lt (h.pages q hq).row hb) h2 h3
    · obtain ⟨h1, h2, h3⟩ := h.sp q hq k hb
      refine ⟨.inl h1, h2, fun h4 => ?_⟩
      rcases hvr k h4 with h5 | h5
      · exact h3 h5
      · have := owns_lt (h.pages q hq).row hb
        omega
  have hboth : ∀ q, q < (R.take i ++ (ms ++ R.drop j)).length → PageIs E W (val (pvs.take i ++ (vs ++ pvs.drop j)) q) (pageAt (R.take i ++ (ms ++ R.drop j)) q) ∧
      ∀ k, (val (pvs.take i ++ (vs ++ pvs.drop j)) q).ownBlock = some k → (S k ∨ w.heap.size ≤ k) ∧ k ≠ bx ∧ vr'.ownBlock ≠ some k := by
    intro q hq
    rw [hlen] at hq
    rw [pageAt_repl q hij hj, val_repl q hij (by omega), hvs]
    by_cases h1 : q < i
    · rw [if_pos h1, if_pos h1]; exact hold q (by omega)
    · rw [if_neg h1, if_neg h1]
      by_cases h2 : q < i + ms.length
      · rw [if_pos h2, if_pos h2]
        refine ⟨hpage _ (by omega), fun k hb => ?_⟩
        obtain ⟨h3, h4⟩ := hnew _ (by omega) k hb
        exact ⟨.inr h3, by omega, h4⟩
      · rw [if_neg h2, if_neg h2]; exact hold _ (by omega)
  obtain ⟨B, hrow⟩ := hrow
  refine ⟨hstr, by rw [hlen]; exact owns_base hrow fun k _ => Nat.zero_le _, fun q hq => (hboth q hq).1, .inl h.sx, fun k hb => ?_, fun q hq => (hboth q hq).2⟩
  rcases hvr k hb with h5 | h5
  · have := h.sr k h5
    exact ⟨.inl this.1, this.2⟩
  · exact ⟨.inr h5, by omega⟩

/-- one page in the place of another -/
theorem Mem.swap {E PG IX : TypeId} {w W : World} {bx g cap p : Nat} {size : Int} {R : List (List Ent)} {S : Nat → Prop} {pvs : List Value} {u : Value} {l : List Ent}
    (h : Mem E PG IX w bx size R S (.slice (some ⟨g, 0, none⟩) R.length cap) pvs) (hp : p < R.length)
    (hstr : W.heap[bx]? = some (.cells #[.int .i64 size, .int .i64 (total (R.set p l)), .slice (some ⟨g, 0, none⟩) R.length cap] IX (0, 0)))
    (hrow : W.heap[g]? = (w.setCell ⟨g, p, none⟩ u).heap[g]?)
    (hk : ∀ k, S k → k < w.heap.size → k ≠ bx → k ≠ g → W.heap[k]? = w.heap[k]?)
    (hpage : PageIs E W u l) (hnew : ∀ k, u.ownBlock = some k → w.heap.size ≤ k) :
    Mem E PG IX W bx size (R.set p l) (fun k => S k ∨ w.heap.size ≤ k) (.slice (some ⟨g, 0, none⟩) R.length cap) (pvs.set p u) := by
  have hpl : pvs.length = R.length := by have := owns_length h.rows; omega
  have hgl : g < w.heap.size := owns_lt h.rows rfl
  have e1 : R.set p l = R.take p ++ ([l] ++ R.drop (p + 1)) := set_split hp l
  have e2 : pvs.set p u = pvs.take p ++ ([u] ++ pvs.drop (p + 1)) := by rw [List.set_eq_take_append_cons_drop, if_pos (by omega)]; rfl
  rw [e1] at hstr ⊢
  have hrow2 := owns_setCell (j := p) h.rows u
  rw [e2] at hrow2 ⊢
  refine h.repl (by omega) (by omega) rfl hstr ⟨0, ?_⟩ (fun k hk => .inl hk) (fun k h1 h2 h3 h4 => hk k h1 h2 h3 fun e => h4 (e ▸ rfl)) (fun q hq => ?_) (fun q hq k hk => ?_)
  · rw [show R.length - (p + 1 - p) + [l].length = R.length by simp; omega]
    exact owns_of_block hrow2 fun k hb => by injection hb with hb; subst hb; exact hrow
  · obtain rfl : q = 0 := by simpa using hq
    exact hpage
  · obtain rfl : q = 0 := by simpa using hq
    have := hnew k hk
    exact ⟨this, fun e => by have e : g = k := Option.some.inj e; omega⟩

theorem heap_setCell_ne (w : World) (a : Addr) (u : Value) (k : Nat) (h : k ≠ a.block) : (w.setCell a u).heap[k]? = w.heap[k]? := Below.heap_setCell _ _ _ _ (fun e => h e)
theorem heap_setCell_eq {w w' : World} {b o : Nat} (u : Value) (h : w'.heap[b]? = w.heap[b]?) : (w'.setCell ⟨b, o, none⟩ u).heap[b]? = (w.setCell ⟨b, o, none⟩ u).heap[b]? := by
  simp only [World.setCell, Array.getElem?_modify, h]

theorem Mem.put_there {E PG IX : TypeId} {w w' : World} {bx g cap p i g' cap' : Nat} {size : Int} {R : List (List Ent)} {S : Nat → Prop} {pvs : List Value} {v : Value}
    (h : Mem E PG IX w bx size R S (.slice (some ⟨g, 0, none⟩) R.length cap) pvs) (hb : Below w.heap.size w w') (hp : p < R.length) (hi : i < (pageAt R p).length) (hg' : w.heap.size ≤ g')
    (hown : w'.ownsRow w.heap.size E 3 (.slice (some ⟨g', 0, none⟩) (pageAt R p).length cap') (pageAt R p).length (cellsOf (pageAt R p))) (h1 : v.oneCell' = true) :
    Mem E PG IX ((w'.setCell ⟨g, p, none⟩ (.slice (some ⟨g', 0, none⟩) (pageAt R p).length cap')).setCell ⟨g', i * 3 + 2, none⟩ v) bx size (R.set p ((pageAt R p).set i ⟨(ent (pageAt R p) i).k, v⟩))
      (fun k => S k ∨ w.heap.size ≤ k) (.slice (some ⟨g, 0, none⟩) R.length cap) (pvs.set p (.slice (some ⟨g', 0, none⟩) (pageAt R p).length cap')) ∧
    Wrote w bx (.slice (some ⟨g, 0, none⟩) R.length cap) ((w'.setCell ⟨g, p, none⟩ (.slice (some ⟨g', 0, none⟩) (pageAt R p).length cap')).setCell ⟨g', i * 3 + 2, none⟩ v) := by
  have hgx := h.sr g rfl
  have hgl : g < w.heap.size := owns_lt h.rows rfl
  have hbx := block_lt_of_heap h.str
  have ht : total (R.set p ((pageAt R p).set i ⟨(ent (pageAt R p) i).k, v⟩)) = total R := by
    have := total_set R hp ((pageAt R p).set i ⟨(ent (pageAt R p) i).k, v⟩)
    rw [List.length_set] at this
    omega
  refine ⟨h.swap hp ?_ ?_ (fun k h1 h2 h3 h4 => ?_) ?_ (fun k hk => by have hk : g' = k := Option.some.inj hk; omega), ?_⟩
  · rw [ht, heap_setCell_ne _ _ _ _ (by show bx ≠ g'; omega), heap_setCell_ne _ _ _ _ (by exact Ne.symm hgx.2), hb.block _ hbx]
    exact h.str
  · rw [heap_setCell_ne _ _ _ _ (by show g ≠ g'; omega)]
    exact heap_setCell_eq _ (hb.block _ hgl)
  · rw [heap_setCell_ne _ _ _ _ (by show k ≠ g'; omega), heap_setCell_ne _ _ _ _ h4, hb.block _ h2]
  · refine PageIs.put (p := pageAt R p) ?_ rfl hi h1
    refine ⟨owns_of_block (owns_base hown fun k _ => Nat.zero_le _) fun k hk => heap_setCell_ne _ _ _ _ ?_, (h.pages p hp).one⟩
    have hk : g' = k := Option.some.inj hk
    show k ≠ g
    omega
  · have e1 : Ext (WrW w bx) w (w'.setCell ⟨g, p, none⟩ (.slice (some ⟨g', 0, none⟩) (pageAt R p).length cap')) := (Ext.of_below hb).trans (Ext.setCell (S := (· = g)) rfl _) fun k _ hk => by obtain rfl : k = g := hk; exact h.wg rfl
    exact ⟨e1.trans (Ext.setCell (S := (· = g')) rfl _) fun k hk e => by (exfalso; omega), fun k hk => .inl (h.wg hk)⟩
theorem frozen_alloc_ne (w : World) (o : Obj) (b i : Nat) (h : ¬ b = w.heap.size) : (w.alloc o).frozen? ⟨b, i, none⟩ = w.frozen? ⟨b, i, none⟩ := by
  have e : (w.alloc o).heap[b]? = w.heap[b]? := by
    show (w.heap.push o)[b]? = _
    rw [Array.getElem?_push, if_neg h]
  simp only [World.frozen?, e]

theorem heap_alloc_ne (w : World) (o : Obj) (b : Nat) (h : b ≠ w.heap.size) : (w.alloc o).heap[b]? = w.heap[b]? := by
  show (w.heap.push o)[b]? = _
  rw [Array.getElem?_push, if_neg h]
theorem row_of_heap {w : World} {B e g n : Nat} {cs : Array Value} (h : w.heap[g]? = some (.cells cs e (0, 0))) (size : Nat) (hs : cs.size = n * size) (hn : n ≤ maxLen) (hB : B ≤ g) :
    w.ownsRow B e size (.slice (some ⟨g, 0, none⟩) n n) n cs.toList :=
  owns_of_row (L := cs.toList) (by unfold Row; rw [Array.toArray_toList]; exact h) (by rw [Array.length_toList]; exact hs) (Nat.le_refl _) hn (by rw [← hs, ← Array.length_toList, List.take_length]) hB

theorem Mem.put_nil {E PG IX : TypeId} {w w1 : World} {bx cap : Nat} {a : Option Addr} {size : Int} {S : Nat → Prop} {pvs : List Value} {s : St} {v : Value}
    (h : Mem E PG IX w bx size [] S (.slice a 0 cap) pvs) (hb : Below w.heap.size w w1) (h1 : v.oneCell' = true) (W : World)
    (hW : W = ((((w1.setCell ⟨bx, 1, none⟩ (.int .i64 1)).setCell ⟨bx, 2, none⟩ (.slice (some ⟨w1.heap.size + 1 + 1, 0, none⟩) 1 1)).alloc (.cells #[.int .u64 s.t, .int .u64 s.s, v] E)).alloc
      (.cells #[.int .u64 s.t, .int .u64 s.s, v] E)).alloc (.cells #[.slice (some ⟨w1.heap.size + 1, 0, none⟩) 1 1] PG)) :
    Mem E PG IX W bx size [[⟨s, v⟩]] (fun k => S k ∨ w.heap.size ≤ k) (.slice (some ⟨w1.heap.size + 1 + 1, 0, none⟩) 1 1) [.slice (some ⟨w1.heap.size + 1, 0, none⟩) 1 1] ∧ Wrote w bx (.slice (some ⟨w1.heap.size + 1 + 1, 0, none⟩) 1 1) W := by
  have hbx := block_lt_of_heap h.str
  have hsz := hb.size
  have h0 : w1.heap[bx]? = _ := (hb.block _ hbx).trans h.str
  have h2 := (str_set w1 bx _ _ _ (.int .i64 1) IX (0, 0) h0).2.1
  have h3 := (str_set _ bx _ _ _ (.slice (some ⟨w1.heap.size + 1 + 1, 0, none⟩) 1 1) IX (0, 0) h2).2.2
  have s1 : ((w1.setCell ⟨bx, 1, none⟩ (.int .i64 1)).setCell ⟨bx, 2, none⟩ (.slice (some ⟨w1.heap.size + 1 + 1, 0, none⟩) 1 1)).heap.size = w1.heap.size := by simp [World.setCell]
  have b1 : W.heap[bx]? = some (.cells #[.int .i64 size, .int .i64 1, .slice (some ⟨w1.heap.size + 1 + 1, 0, none⟩) 1 1] IX (0, 0)) := by
    rw [hW, heap_alloc_ne, heap_alloc_ne, heap_alloc_ne]
    exact h3
    all_goals (simp [s1]; try omega)
  have b2 : W.heap[w1.heap.size + 1]? = some (.cells #[.int .u64 s.t, .int .u64 s.s, v] E (0, 0)) := by
    rw [hW, heap_alloc_ne]
    rotate_left
    · simp [s1]
    have := heap_alloc_new (((w1.setCell ⟨bx, 1, none⟩ (.int .i64 1)).setCell ⟨bx, 2, none⟩ (.slice (some ⟨w1.heap.size + 1 + 1, 0, none⟩) 1 1)).alloc (.cells #[.int .u64 s.t, .int .u64 s.s, v] E)) (.cells #[.int .u64 s.t, .int .u64 s.s, v] E)
    simpa [s1] using this
  have b3 : W.heap[w1.heap.size + 1 + 1]? = some (.cells #[.slice (some ⟨w1.heap.size + 1, 0, none⟩) 1 1] PG (0, 0)) := by
    rw [hW]
    have := heap_alloc_new ((((w1.setCell ⟨bx, 1, none⟩ (.int .i64 1)).setCell ⟨bx, 2, none⟩ (.slice (some ⟨w1.heap.size + 1 + 1, 0, none⟩) 1 1)).alloc (.cells #[.int .u64 s.t, .int .u64 s.s, v] E)).alloc (.cells #[.int .u64 s.t, .int .u64 s.s, v] E)) (.cells #[.slice (some ⟨w1.heap.size + 1, 0, none⟩) 1 1] PG)
    simpa [s1] using this
  refine ⟨⟨b1, row_of_heap b3 1 rfl (by decide) (Nat.zero_le _), fun i hi => ?_, .inl h.sx, fun k hk => ?_, fun i hi k hk => ?_⟩, ?_⟩
  · obtain rfl : i = 0 := by simpa using hi
    exact ⟨row_of_heap b2 3 rfl (by decide) (Nat.zero_le _), fun e he => by obtain rfl := List.mem_singleton.1 he; exact h1⟩
  · have hk : w1.heap.size + 1 + 1 = k := Option.some.inj hk
    exact ⟨.inr (by omega), by omega⟩
  · obtain rfl : i = 0 := by simpa using hi
    have hk : w1.heap.size + 1 = k := Option.some.inj hk
    exact ⟨.inr (by omega), by omega, fun e => by have e : w1.heap.size + 1 + 1 = k := Option.some.inj e; omega⟩
  · have e1 : Ext (WrW w bx) w w1 := Ext.of_below hb
    have e2 : Ext (WrW w bx) w1 ((w1.setCell ⟨bx, 1, none⟩ (.int .i64 1)).setCell ⟨bx, 2, none⟩ (.slice (some ⟨w1.heap.size + 1 + 1, 0, none⟩) 1 1)) :=
      (Ext.setCell (S := WrW w bx) (.inl rfl) _).trans (Ext.setCell (S := WrW w bx) (.inl rfl) _) fun k _ hk => hk
    refine ⟨?_, fun k hk => .inr (by have hk : w1.heap.size + 1 + 1 = k := Option.some.inj hk; omega)⟩
    rw [hW]
    exact (((e1.trans e2 fun k _ hk => hk).trans (Ext.alloc (S := WrW w bx) _ _) fun k _ hk => hk).trans (Ext.alloc (S := WrW w bx) _ _) fun k _ hk => hk).trans (Ext.alloc (S := WrW w bx) _ _) fun k _ hk => hk
/-- the count is changed, and something is boxed -/
theorem Mem.count {E PG IX : TypeId} {w w1 : World} {bx : Nat} {size : Int} {R : List (List Ent)} {S : Nat → Prop} {vr : Value} {pvs : List Value}
    (h : Mem E PG IX w bx size R S vr pvs) (hb : Below w.heap.size w w1) (c : Value) (o : Obj) :
    Ext (· = bx) w ((w1.setCell ⟨bx, 1, none⟩ c).alloc o) ∧ ((w1.setCell ⟨bx, 1, none⟩ c).alloc o).heap[bx]? = some (.cells #[.int .i64 size, c, vr] IX (0, 0)) ∧
    ((w1.setCell ⟨bx, 1, none⟩ c).alloc o).heap[w1.heap.size]? = some o ∧ ((w1.setCell ⟨bx, 1, none⟩ c).alloc o).heap.size = w1.heap.size + 1 := by
  have hbx := block_lt_of_heap h.str
  have hsz := hb.size
  have s1 : (w1.setCell ⟨bx, 1, none⟩ c).heap.size = w1.heap.size := by simp [World.setCell]
  have h0 : w1.heap[bx]? = _ := (hb.block _ hbx).trans h.str
  have h2 := (str_set w1 bx _ _ _ c IX (0, 0) h0).2.1
  refine ⟨((Ext.of_below hb).trans (Ext.setCell (S := (· = bx)) rfl _) fun k _ hk => hk).trans (Ext.alloc (S := (· = bx)) _ _) fun k _ hk => hk, ?_, ?_, by simp [s1]⟩
  · rw [heap_alloc_ne _ _ _ (by rw [s1]; omega)]; exact h2
  · have := heap_alloc_new (w1.setCell ⟨bx, 1, none⟩ c) o
    rwa [s1] at this
/-- an entry's own row is not a page that lacks its stamp -/
theorem apart_new {w : World} {B E g n cap gv : Nat} {p : List Ent} {s : St} {v : Value} (hown : w.ownsRow B E 3 (.slice (some ⟨g, 0, none⟩) n cap) n (cellsOf p)) (hn : p.length = n) (h0 : 0 < n)
    (hrv : Row w gv E (Ent.cells ⟨s, v⟩)) (ht : isIn (keys p) s = false) : gv ≠ g := by
  rintro rfl
  obtain ⟨L, hL, hl, hx, hnc, _⟩ := owns_row hown
  unfold Row at hL hrv
  rw [hrv] at hL
  injection hL with hL
  injection hL with hL
  have hL : L = Ent.cells ⟨s, v⟩ := by
    have := congrArg Array.toList hL
    simpa using this.symm
  subst hL
  have hc : cap = 1 := by simp [Ent.cells] at hl; omega
  obtain rfl : n = 1 := by omega
  match p, hn with
  | [e], _ =>
    obtain ⟨⟨et, es⟩, ev⟩ := e
    simp [cellsOf, Ent.cells] at hx
    have : isIn (keys [⟨⟨et, es⟩, ev⟩]) s = true := by
      rw [← hx.1, ← hx.2.1]
      simp [isIn, rank, keys, St.lt]
    rw [this] at ht
    cases ht
theorem Mem.rows_one {E PG IX : TypeId} {w : World} {bx : Nat} {size : Int} {R : List (List Ent)} {S : Nat → Prop} {vr : Value} {pvs : List Value}
    (h : Mem E PG IX w bx size R S vr pvs) : ∀ v ∈ pvs, v.oneCell' = true := by
  intro v hv
  obtain ⟨i, hi, rfl⟩ := List.mem_iff_getElem.1 hv
  have hl := owns_length h.rows
  obtain ⟨a, cap, hs, -⟩ := owns_shape (h.pages i (by omega)).row
  have e : val pvs i = pvs[i] := by simp [val, hi]
  rw [← e, hs]
  rfl
theorem Mem.put_split {E PG IX : TypeId} {w w3 w7 : World} {bx g cap p h N ga ca gb cb cap7 n7 : Nat} {a7 : Option Addr} {size : Int} {R : List (List Ent)} {S : Nat → Prop} {pvs : List Value} {l : List Ent} {c : Value}
    (H : Mem E PG IX w bx size R S (.slice (some ⟨g, 0, none⟩) R.length cap) pvs) (hp : p < R.length) (hlen : l.length = N) (hh : h < N) (hone : ∀ e ∈ l, e.v.oneCell' = true) (e3 : Ext (· = bx) w w3) (hx7 : Ext (· = g) w3 w7)
    (r2 : w7.heap[bx]? = some (.cells #[.int .i64 size, c, .slice (some ⟨g, 0, none⟩) R.length cap] IX (0, 0))) (hc : c = .int .i64 (total (R.take p ++ ([l.take h, l.drop h] ++ R.drop (p + 1)))))
    (hn7 : n7 = R.length + 1) (hrow : w7.ownsRow 0 PG 1 (.slice a7 n7 cap7) n7 (pvs.take p ++ ([.slice (some ⟨ga, 0, none⟩) h ca, .slice (some ⟨gb, 0, none⟩) (N - h) cb] ++ pvs.drop (p + 1))))
    (hga : w.heap.size ≤ ga) (hgb : w.heap.size ≤ gb) (hoa : w7.ownsRow w.heap.size E 3 (.slice (some ⟨ga, 0, none⟩) h ca) h (cellsOf (l.take h)))
    (hob : w7.ownsRow w.heap.size E 3 (.slice (some ⟨gb, 0, none⟩) (N - h) cb) (N - h) (cellsOf (l.drop h)))
    (hbk : ∀ k, (Value.slice a7 n7 cap7).ownBlock = some k → k = g ∨ (w3.heap.size ≤ k ∧ ga ≠ k ∧ gb ≠ k)) :
    Mem E PG IX (w7.setCell ⟨bx, 2, none⟩ (.slice a7 n7 cap7)) bx size (R.take p ++ ([l.take h, l.drop h] ++ R.drop (p + 1))) (fun k => S k ∨ w.heap.size ≤ k) (.slice a7 n7 cap7)
      (pvs.take p ++ ([.slice (some ⟨ga, 0, none⟩) h ca, .slice (some ⟨gb, 0, none⟩) (N - h) cb] ++ pvs.drop (p + 1))) ∧ Wrote w bx (.slice a7 n7 cap7) (w7.setCell ⟨bx, 2, none⟩ (.slice a7 n7 cap7)) := by
  have hgx := H.sr g rfl
  have hg : g < w.heap.size := owns_lt H.rows rfl
  have hbx := block_lt_of_heap H.str
  have hw3 := e3.size
  subst hn7
  refine ⟨H.repl (by omega) (by omega) rfl ?_ ⟨0, ?_⟩ (fun k hk => ?_) (fun k k1 k2 k3 k4 => ?_) (fun q hq => ?_) (fun q hq k hk => ?_), ?_⟩
  · rw [← hc]
    exact (str_set w7 bx _ _ _ (.slice a7 (R.length + 1) cap7) IX (0, 0) r2).2.2
  · rw [show R.length - (p + 1 - p) + [l.take h, l.drop h].length = R.length + 1 by simp; omega]
    refine owns_of_block hrow fun k hk => heap_setCell_ne _ _ _ _ ?_
    show k ≠ bx
    rcases hbk k hk with h | h <;> omega
  · rcases hbk k hk with h | h
    · rw [h]; exact .inl rfl
    · exact .inr (by omega)
  · have k5 : ¬ k = g := fun e => k4 (by rw [e]; rfl)
    rw [heap_setCell_ne _ _ _ _ k3, hx7.block k (by omega) k5]
    exact e3.block k k2 k3
  · match q, hq with
    | 0, _ =>
      refine ⟨?_, fun e he => hone e (List.mem_of_mem_take he)⟩
      show World.ownsRow _ 0 E 3 (.slice (some ⟨ga, 0, none⟩) h ca) (l.take h).length _
      rw [show (l.take h).length = h by rw [List.length_take]; omega]
      exact owns_base (owns_of_block hoa fun k hk => heap_setCell_ne _ _ _ _ (by have hk : ga = k := Option.some.inj hk; show k ≠ bx; omega)) fun k _ => Nat.zero_le _
    | 1, _ =>
      refine ⟨?_, fun e he => hone e (List.mem_of_mem_drop he)⟩
      show World.ownsRow _ 0 E 3 (.slice (some ⟨gb, 0, none⟩) (N - h) cb) (l.drop h).length _
      rw [show (l.drop h).length = N - h by rw [List.length_drop]; omega]
      exact owns_base (owns_of_block hob fun k hk => heap_setCell_ne _ _ _ _ (by have hk : gb = k := Option.some.inj hk; show k ≠ bx; omega)) fun k _ => Nat.zero_le _
  · have hdis : ∀ k, ga = k ∨ gb = k → w.heap.size ≤ k → (Value.slice a7 (R.length + 1) cap7).ownBlock ≠ some k := fun k h1 h2 h3 => by
      rcases hbk k h3 with h | h <;> omega
    match q, hq with
    | 0, _ =>
      have e : ga = k := Option.some.inj hk
      exact ⟨by omega, hdis k (.inl e) (by omega)⟩
    | 1, _ =>
      have e : gb = k := Option.some.inj hk
      exact ⟨by omega, hdis k (.inr e) (by omega)⟩
  · have E1 : Ext (WrW w bx) w w3 := e3.mono fun k _ hk => .inl hk
    have E2 : Ext (WrW w bx) w w7 := E1.trans hx7 fun k _ hk => by obtain rfl : k = g := hk; exact H.wg rfl
    exact ⟨E2.trans (Ext.setCell (S := (· = bx)) rfl _) fun k _ hk => .inl hk, fun k hk => (hbk k hk).imp (fun h => by rw [h]; exact H.wg rfl) fun h => Nat.le_trans hw3 h.1⟩
end Go.Pg
namespace Go.Pg
open Go.RowKit Go.RG Go.Hp

/-- the count is changed -/
theorem Mem.count0 {E PG IX : TypeId} {w w1 : World} {bx : Nat} {size : Int} {R : List (List Ent)} {S : Nat → Prop} {vr : Value} {pvs : List Value}
    (h : Mem E PG IX w bx size R S vr pvs) (hb : Below w.heap.size w w1) (c : Value) :
    Ext (· = bx) w (w1.setCell ⟨bx, 1, none⟩ c) ∧ (w1.setCell ⟨bx, 1, none⟩ c).heap[bx]? = some (.cells #[.int .i64 size, c, vr] IX (0, 0)) ∧ (w1.setCell ⟨bx, 1, none⟩ c).heap.size = w1.heap.size := by
  have hbx := block_lt_of_heap h.str
  have s1 : (w1.setCell ⟨bx, 1, none⟩ c).heap.size = w1.heap.size := by simp [World.setCell]
  have h0 : w1.heap[bx]? = _ := (hb.block _ hbx).trans h.str
  have h2 := (str_set w1 bx _ _ _ c IX (0, 0) h0).2.1
  exact ⟨(Ext.of_below hb).trans (Ext.setCell (S := (· = bx)) rfl _) fun k _ hk => hk, h2, s1⟩

/-- some pages in the place of some others; the row is the old one or a new one -/
theorem Mem.rows_end {E PG IX : TypeId} {w w3 w7 : World} {bx g cap i j cap7 n7 : Nat} {a7 : Option Addr} {size : Int} {R ms : List (List Ent)} {S : Nat → Prop} {pvs vs : List Value} {c : Value}
    (H : Mem E PG IX w bx size R S (.slice (some ⟨g, 0, none⟩) R.length cap) pvs) (hR : 0 < R.length) (hij : i ≤ j) (hj : j ≤ R.length) (hvs : vs.length = ms.length) (e3 : Ext (· = bx) w w3) (hx7 : Ext (· = g) w3 w7)
    (r2 : w7.heap[bx]? = some (.cells #[.int .i64 size, c, .slice (some ⟨g, 0, none⟩) R.length cap] IX (0, 0))) (hc : c = .int .i64 (total (R.take i ++ (ms ++ R.drop j))))
    (hn7 : n7 = R.length - (j - i) + ms.length) (hrow : w7.ownsRow 0 PG 1 (.slice a7 n7 cap7) n7 (pvs.take i ++ (vs ++ pvs.drop j)))
    (hpage : ∀ q, q < ms.length → PageIs E w7 (val vs q) (pageAt ms q))
    (hnew : ∀ q, q < ms.length → ∀ k, (val vs q).ownBlock = some k → w.heap.size ≤ k ∧ (Value.slice a7 n7 cap7).ownBlock ≠ some k)
    (hbk : ∀ k, (Value.slice a7 n7 cap7).ownBlock = some k → k = g ∨ w3.heap.size ≤ k) :
    Mem E PG IX (w7.setCell ⟨bx, 2, none⟩ (.slice a7 n7 cap7)) bx size (R.take i ++ (ms ++ R.drop j)) (fun k => S k ∨ w.heap.size ≤ k) (.slice a7 n7 cap7) (pvs.take i ++ (vs ++ pvs.drop j)) ∧
    Wrote w bx (.slice a7 n7 cap7) (w7.setCell ⟨bx, 2, none⟩ (.slice a7 n7 cap7)) := by
  have hgx := H.sr g rfl
  have hg : g < w.heap.size := owns_lt H.rows rfl
  have hbx := block_lt_of_heap H.str
  have hw3 := e3.size
  subst hn7
  refine ⟨H.repl hij hj hvs ?_ ⟨0, ?_⟩ (fun k hk => ?_) (fun k k1 k2 k3 k4 => ?_) (fun q hq => ?_) (fun q hq k hk => ?_), ?_⟩
  · rw [← hc]
    exact (str_set w7 bx _ _ _ (.slice a7 _ cap7) IX (0, 0) r2).2.2
  · refine owns_of_block hrow fun k hk => heap_setCell_ne _ _ _ _ ?_
    show k ≠ bx
    rcases hbk k hk with h | h <;> omega
  · rcases hbk k hk with h | h
    · rw [h]; exact .inl rfl
    · exact .inr (by omega)
  · have k5 : ¬ k = g := fun e => k4 (by rw [e]; rfl)
    rw [heap_setCell_ne _ _ _ _ k3, hx7.block k (by omega) k5]
    exact e3.block k k2 k3
  · refine ⟨owns_of_block (hpage q hq).row fun k hk => heap_setCell_ne _ _ _ _ ?_, (hpage q hq).one⟩
    have := (hnew q hq k hk).1
    show k ≠ bx
    omega
  · exact hnew q hq k hk
  · have E1 : Ext (WrW w bx) w w3 := e3.mono fun k _ hk => .inl hk
    have E2 : Ext (WrW w bx) w w7 := E1.trans hx7 fun k _ hk => by obtain rfl : k = g := hk; exact H.wg rfl
    exact ⟨E2.trans (Ext.setCell (S := (· = bx)) rfl _) fun k _ hk => .inl hk, fun k hk => (hbk k hk).imp (fun h => by rw [h]; exact H.wg rfl) fun h => Nat.le_trans hw3 h⟩

theorem total_remove {size : Nat} {R : List (List Ent)} (s : St) (hR : 0 < R.length) (ht : there R s = true) : total (removeR size R s) + 1 = total R := by
  have hp := pageOf_lt (s := s) hR
  have hl : ((pageAt R (pageOf R s)).take (entOf R s) ++ (pageAt R (pageOf R s)).drop (entOf R s + 1)).length + 1 = (pageAt R (pageOf R s)).length := by
    have := (isIn_iff.1 ht).1
    rw [length_keys] at this
    have e : entOf R s = rank (keys (pageAt R (pageOf R s))) s := rfl
    simp only [List.length_append, List.length_take, List.length_drop]; omega
  have ts := total_split R hp
  unfold removeR
  rw [if_pos ht]
  simp only []
  generalize (pageAt R (pageOf R s)).take (entOf R s) ++ (pageAt R (pageOf R s)).drop (entOf R s + 1) = l at hl ⊢
  split
  · rw [total_append]; omega
  · split
    · rename_i h1 h2
      have h3 : R.drop (pageOf R s + 1) = pageAt R (pageOf R s + 1) :: R.drop (pageOf R s + 2) := by
        have e : pageAt R (pageOf R s + 1) = R[pageOf R s + 1] := by simp [pageAt, h2.1]
        rw [e, List.getElem_cons_drop]
      rw [h3, total_cons] at ts
      rw [total_append, total_cons, List.length_append]
      omega
    · split
      · rename_i h1 h2 h3
        have h4 := total_split (R.take (pageOf R s)) (p := pageOf R s - 1) (by rw [List.length_take]; omega)
        have h5 : pageAt (R.take (pageOf R s)) (pageOf R s - 1) = pageAt R (pageOf R s - 1) := by
          simp only [pageAt, List.getD_eq_getElem?_getD]
          rw [List.getElem?_take_of_lt (by omega)]
        rw [h5, List.take_take, List.drop_of_length_le (by rw [List.length_take]; omega), total_nil] at h4
        rw [show min (pageOf R s - 1) (pageOf R s) = pageOf R s - 1 by omega] at h4
        rw [total_append, total_cons, List.length_append]
        omega
      · have := total_set R hp l
        omega
/-- the row's slices, with their lengths -/
theorem Mem.lens {E PG IX : TypeId} {w Y : World} {bx g cap : Nat} {size : Int} {R : List (List Ent)} {S : Nat → Prop} {pvs : List Value}
    (H : Mem E PG IX w bx size R S (.slice (some ⟨g, 0, none⟩) R.length cap) pvs) (e : Ext (· = bx) w Y) : ∀ i, i < R.length → ∃ a c, val pvs i = .slice a (pageAt R i).length c ∧ Y.cell? ⟨g, i, none⟩ = some (.slice a (pageAt R i).length c) := by
  intro i hi
  obtain ⟨g0, cap0, hv, _, _, _, hrow, _⟩ := H.row (by omega)
  injection hv with h1 _ _
  injection h1 with h1
  injection h1 with h1 _ _
  subst h1
  obtain ⟨a, c, hs, _⟩ := owns_shape (H.pages i hi).row
  exact ⟨a, c, hs, by rw [← hs]; exact e.cell_some (hrow i hi) (H.sr g rfl).2⟩
end Go.Pg
namespace Go.Pg

/-- pages that are not empty nor too long, all their stamps rising -/
structure Good (size : Nat) (R : List (List Ent)) : Prop where
  full : ∀ p ∈ R, 0 < p.length ∧ p.length ≤ size
  rise : Rising (keys R.flatten)

theorem keys_append (p q : List Ent) : keys (p ++ q) = keys p ++ keys q := by simp [keys]
theorem mem_keys {p : List Ent} {x : St} : x ∈ keys p ↔ ∃ e ∈ p, e.k = x := by simp [keys]
theorem pageAt_mem {R : List (List Ent)} {i : Nat} (h : i < R.length) : pageAt R i ∈ R := by
  have : pageAt R i = R[i] := by simp [pageAt, h]
  rw [this]; exact List.getElem_mem _
theorem first_of {p : List Ent} (h : 0 < p.length) : ∃ e q, p = e :: q ∧ first p = e.k := by
  match p, h with
  | e :: q, _ => exact ⟨e, q, rfl, by simp [first, key, keys]⟩
theorem firsts_sub (R : List (List Ent)) (h : ∀ p ∈ R, 0 < p.length) : (firsts R).Sublist (keys R.flatten) := by
  induction R with
  | nil => exact List.Sublist.refl _
  | cons p R ih =>
    obtain ⟨e, q, rfl, hf⟩ := first_of (h p (by simp))
    have := ih fun x hx => h x (by simp [hx])
    show (first (e :: q) :: firsts R).Sublist _
    rw [hf, List.flatten_cons, keys_append]
    exact List.Sublist.cons_cons _ (this.trans (List.sublist_append_right _ _))
theorem Good.ordered {size : Nat} {R : List (List Ent)} (h : Good size R) : Ordered R where
  full := fun i hi => (h.full _ (pageAt_mem hi)).1
  firsts := List.Pairwise.sublist (firsts_sub R fun p hp => (h.full p hp).1) h.rise
  page := fun i hi => List.Pairwise.sublist ((List.sublist_flatten_of_mem (pageAt_mem hi)).map _) h.rise

theorem split_row {R : List (List Ent)} {p : Nat} (h : p < R.length) : R = R.take p ++ (pageAt R p :: R.drop (p + 1)) := by
  have e : pageAt R p = R[p] := by simp [pageAt, h]
  rw [e, List.getElem_cons_drop, List.take_append_drop]
theorem flat_split {R : List (List Ent)} {p : Nat} (h : p < R.length) : R.flatten = (R.take p).flatten ++ (pageAt R p ++ (R.drop (p + 1)).flatten) := by
  conv => lhs; rw [split_row h]
  simp

/-- what stands ahead of a stamp, and what stands from it on -/
def ahead' (R : List (List Ent)) (s : St) : List Ent := (R.take (pageOf R s)).flatten ++ (pageAt R (pageOf R s)).take (entOf R s)
def behind' (R : List (List Ent)) (s : St) : List Ent := (pageAt R (pageOf R s)).drop (entOf R s) ++ (R.drop (pageOf R s + 1)).flatten

theorem flat_parts {R : List (List Ent)} (s : St) (hR : 0 < R.length) : R.flatten = ahead' R s ++ behind' R s := by
  rw [flat_split (pageOf_lt (s := s) hR)]
  unfold ahead' behind'
  rw [List.append_assoc]
  congr 1
  rw [← List.append_assoc, List.take_append_drop]

theorem ent_key {p : List Ent} {i : Nat} (h : i < p.length) : (keys p)[i]'(by rw [length_keys]; exact h) = (ent p i).k := by
  rw [← key_of, key_keys]
theorem first_key {R : List (List Ent)} {i : Nat} (h : i < R.length) : (firsts R)[i]'(by rw [length_firsts]; exact h) = first (pageAt R i) := by
  simp [firsts, pageAt, h]
theorem rank_pageOf {R : List (List Ent)} {s : St} {j : Nat} (h : pageOf R s + 1 ≤ j) : rank (firsts R) s ≤ j := by
  unfold pageOf at h
  split at h <;> omega
theorem page_first_le {p : List Ent} (hr : Rising (keys p)) {e : Ent} (he : e ∈ p) : e.k = first p ∨ (first p).lt e.k = true := by
  obtain ⟨x, q, rfl, hf⟩ := first_of (List.length_pos_of_mem he)
  rw [hf]
  rcases List.mem_cons.1 he with rfl | he
  · exact .inl rfl
  · refine .inr ((List.pairwise_cons.1 hr).1 _ ?_)
    exact List.mem_map.2 ⟨e, he, rfl⟩
theorem behind_first {size : Nat} {R : List (List Ent)} (hG : Good size R) {s : St} {e : Ent} (he : e ∈ (R.drop (pageOf R s + 1)).flatten) :
    ∃ j, pageOf R s + 1 ≤ j ∧ j < R.length ∧ e ∈ pageAt R j ∧ (first (pageAt R j)).lt s = false := by
  obtain ⟨p, hp, hep⟩ := List.mem_flatten.1 he
  obtain ⟨j, hj, rfl⟩ := List.mem_iff_getElem.1 hp
  have hj' : pageOf R s + 1 + j < R.length := by rw [List.length_drop] at hj; omega
  refine ⟨pageOf R s + 1 + j, by omega, hj', ?_, ?_⟩
  · have : pageAt R (pageOf R s + 1 + j) = (R.drop (pageOf R s + 1))[j] := by simp [pageAt, hj']
    rw [this]; exact hep
  · rw [← first_key hj']
    exact rank_ge hG.ordered.firsts (rank_pageOf (by omega)) _

theorem ahead_lt {size : Nat} {R : List (List Ent)} (hG : Good size R) (hR : 0 < R.length) (s : St) : ∀ e ∈ ahead' R s, e.k.lt s = true := by
  have hp := pageOf_lt (s := s) hR
  have hO := hG.ordered
  intro e he
  rcases List.mem_append.1 he with h | h
  · have hr := hG.rise
    rw [flat_split hp, keys_append] at hr
    have hlt : e.k.lt (first (pageAt R (pageOf R s))) = true := by
      obtain ⟨x, q, hq, hf⟩ := first_of (hO.full _ hp)
      rw [hf]
      refine (List.pairwise_append.1 hr).2.2 _ (List.mem_map.2 ⟨e, h, rfl⟩) _ ?_
      rw [keys_append, hq]
      simp [keys]
    cases h1 : (first (pageAt R (pageOf R s))).lt s
    · cases h2 : s.lt (first (pageAt R (pageOf R s)))
      · rw [← St.eq_of h1 h2]; exact hlt
      · exfalso
        have h0 : pageOf R s = 0 := by
          have hpd : pageOf R s = if isIn (firsts R) s then rank (firsts R) s else rank (firsts R) s - 1 := rfl
          cases hin : isIn (firsts R) s
          · rw [hin] at hpd
            rcases Nat.eq_zero_or_pos (rank (firsts R) s) with h3 | h3
            · simpa [h3] using hpd
            · have h4 : pageOf R s < rank (firsts R) s := by simp at hpd; omega
              have := rank_lt h4 (by rw [length_firsts]; exact hp)
              rw [first_key hp, h1] at this
              cases this
          · rw [hin, if_pos rfl] at hpd
            obtain ⟨h3, h4⟩ := isIn_iff.1 hin
            rw [← hpd] at h3 h4
            rw [key_of h3, first_key hp] at h4
            rw [h4, St.lt_irrefl] at h2
            cases h2
        rw [h0] at h
        simp at h
    · exact St.lt_trans hlt h1
  · obtain ⟨j, hj, rfl⟩ := List.mem_iff_getElem.1 h
    rw [List.length_take] at hj
    have hj1 : j < (pageAt R (pageOf R s)).length := by omega
    have := rank_lt (l := keys (pageAt R (pageOf R s))) (s := s) (j := j) (by unfold entOf at hj; omega) (by rw [length_keys]; exact hj1)
    rw [ent_key hj1] at this
    simpa [ent, hj1] using this

theorem behind_ge {size : Nat} {R : List (List Ent)} (hG : Good size R) (hR : 0 < R.length) (s : St) : ∀ e ∈ behind' R s, e.k.lt s = false := by
  have hp := pageOf_lt (s := s) hR
  have hO := hG.ordered
  intro e he
  rcases List.mem_append.1 he with h | h
  · obtain ⟨j, hj, rfl⟩ := List.mem_iff_getElem.1 h
    rw [List.length_drop] at hj
    have hj1 : entOf R s + j < (pageAt R (pageOf R s)).length := by omega
    have := rank_ge (l := keys (pageAt R (pageOf R s))) (hO.page _ hp) (s := s) (j := entOf R s + j) (by unfold entOf; omega) (by rw [length_keys]; exact hj1)
    rw [ent_key hj1] at this
    simpa [ent, hj1] using this
  · obtain ⟨j, hj1, hj2, hj3, hj4⟩ := behind_first hG h
    rcases page_first_le (hO.page _ hj2) hj3 with h5 | h5
    · rw [h5]; exact hj4
    · cases h6 : e.k.lt s
      · rfl
      · rw [St.lt_trans h5 h6] at hj4; cases hj4

theorem behind_there {R : List (List Ent)} {s : St} (ht : there R s = true) : ∃ e, e.k = s ∧ e = ent (pageAt R (pageOf R s)) (entOf R s) ∧ entOf R s < (pageAt R (pageOf R s)).length ∧
    behind' R s = e :: ((pageAt R (pageOf R s)).drop (entOf R s + 1) ++ (R.drop (pageOf R s + 1)).flatten) := by
  obtain ⟨h1, h2⟩ := isIn_iff.1 ht
  have h1' : entOf R s < (pageAt R (pageOf R s)).length := by rw [length_keys] at h1; exact h1
  refine ⟨ent (pageAt R (pageOf R s)) (entOf R s), by rw [← key_keys]; exact h2, rfl, h1', ?_⟩
  unfold behind'
  have e : ent (pageAt R (pageOf R s)) (entOf R s) = (pageAt R (pageOf R s))[entOf R s] := by simp [ent, h1']
  rw [e, ← List.cons_append, List.getElem_cons_drop]

theorem behind_gt {size : Nat} {R : List (List Ent)} (hG : Good size R) (hR : 0 < R.length) (s : St) (ht : there R s = false) : ∀ e ∈ behind' R s, s.lt e.k = true := by
  have hp := pageOf_lt (s := s) hR
  have hO := hG.ordered
  intro e he
  have hge := behind_ge hG hR s e he
  cases h0 : s.lt e.k
  · exfalso
    have hes : e.k = s := St.eq_of hge h0
    rcases List.mem_append.1 he with h | h
    · obtain ⟨j, hj, rfl⟩ := List.mem_iff_getElem.1 h
      rw [List.length_drop] at hj
      have hj1 : entOf R s + j < (pageAt R (pageOf R s)).length := by omega
      have hk : key (keys (pageAt R (pageOf R s))) (entOf R s + j) = s := by
        rw [key_keys]; simpa [ent, hj1] using hes
      have : there R s = true := by
        rcases Nat.eq_zero_or_pos j with rfl | hj0
        · exact isIn_iff.2 ⟨by rw [length_keys]; exact hj1, hk⟩
        · exfalso
          have h1 := rising_key (hO.page _ hp) (i := entOf R s) (j := entOf R s + j) (by omega) (by rw [length_keys]; exact hj1)
          rw [hk] at h1
          have h2 := rank_ge (hO.page _ hp) (s := s) (j := entOf R s) (Nat.le_refl _) (by rw [length_keys]; omega)
          rw [← key_of (by rw [length_keys]; omega), h1] at h2
          cases h2
      rw [this] at ht
      cases ht
    · obtain ⟨j, hj1, hj2, hj3, hj4⟩ := behind_first hG h
      have hfs : first (pageAt R j) = s := by
        rcases page_first_le (hO.page _ hj2) hj3 with h5 | h5
        · rw [← h5]; exact hes
        · rw [hes] at h5; rw [h5] at hj4; cases hj4
      have hr : rank (firsts R) s = j := by
        have h1 := rank_pageOf (R := R) (s := s) hj1
        rcases Nat.lt_or_ge (rank (firsts R) s) j with h2 | h2
        · have h3 := rising_key hO.firsts h2 (by rw [length_firsts]; exact hj2)
          rw [key_of (l := firsts R) (i := j) (by rw [length_firsts]; exact hj2), first_key hj2, hfs, key_of (l := firsts R) (i := rank (firsts R) s) (by rw [length_firsts]; omega)] at h3
          have h4 := rank_ge hO.firsts (s := s) (j := rank (firsts R) s) (Nat.le_refl _) (by rw [length_firsts]; omega)
          rw [h3] at h4
          cases h4
        · omega
      have hin : isIn (firsts R) s = true := isIn_iff.2 ⟨by rw [length_firsts, hr]; exact hj2, by rw [hr, key_of (by rw [length_firsts]; exact hj2), first_key hj2, hfs]⟩
      have : pageOf R s = j := by unfold pageOf; rw [if_pos hin, hr]
      omega
  · rfl
end Go.Pg
namespace Go.Pg

/-- behind the stamp's own entry -/
def rest' (R : List (List Ent)) (s : St) : List Ent := (pageAt R (pageOf R s)).drop (entOf R s + 1) ++ (R.drop (pageOf R s + 1)).flatten

theorem total_flat (R : List (List Ent)) : total R = R.flatten.length := by
  rw [List.length_flatten]; rfl

theorem flat_put_new {size : Nat} {R : List (List Ent)} (s : St) (v : Value) (hR : 0 < R.length) (ht : there R s = false) :
    (putR size R s v).flatten = ahead' R s ++ (⟨s, v⟩ :: behind' R s) := by
  have hp := pageOf_lt (s := s) hR
  have hl : ∀ l : List Ent, l = (pageAt R (pageOf R s)).take (entOf R s) ++ (⟨s, v⟩ :: (pageAt R (pageOf R s)).drop (entOf R s)) →
      (R.take (pageOf R s)).flatten ++ (l ++ (R.drop (pageOf R s + 1)).flatten) = ahead' R s ++ (⟨s, v⟩ :: behind' R s) := by
    rintro l rfl
    unfold ahead' behind'
    simp only [List.append_assoc, List.cons_append]
  unfold putR
  rw [if_neg (by omega), if_neg (by rw [ht]; decide)]
  simp only []
  rw [← hl _ rfl]
  generalize (pageAt R (pageOf R s)).take (entOf R s) ++ (⟨s, v⟩ :: (pageAt R (pageOf R s)).drop (entOf R s)) = l
  split
  · rw [set_split hp]
    simp only [List.flatten_append, List.flatten_cons]
  · simp only [List.flatten_append, List.flatten_cons]
    rw [← List.append_assoc (l.take _), List.take_append_drop]

theorem flat_put_there {size : Nat} {R : List (List Ent)} (s : St) (v : Value) (hR : 0 < R.length) (ht : there R s = true) :
    (putR size R s v).flatten = ahead' R s ++ (⟨s, v⟩ :: rest' R s) := by
  have hp := pageOf_lt (s := s) hR
  obtain ⟨e, he, hee, hi, hb⟩ := behind_there ht
  unfold putR
  rw [if_neg (by omega), if_pos ht, set_split hp]
  simp only [List.flatten_append, List.flatten_cons]
  rw [← hee, he, List.set_eq_take_append_cons_drop, if_pos hi]
  unfold ahead' rest'
  simp only [List.append_assoc, List.cons_append]

theorem flat_remove {size : Nat} {R : List (List Ent)} (s : St) (hR : 0 < R.length) (ht : there R s = true) :
    (removeR size R s).flatten = ahead' R s ++ rest' R s := by
  have hp := pageOf_lt (s := s) hR
  have hl : ∀ l : List Ent, l = (pageAt R (pageOf R s)).take (entOf R s) ++ (pageAt R (pageOf R s)).drop (entOf R s + 1) →
      (R.take (pageOf R s)).flatten ++ (l ++ (R.drop (pageOf R s + 1)).flatten) = ahead' R s ++ rest' R s := by
    rintro l rfl
    unfold ahead' rest'
    simp only [List.append_assoc]
  unfold removeR
  rw [if_pos ht]
  simp only []
  rw [← hl _ rfl]
  generalize (pageAt R (pageOf R s)).take (entOf R s) ++ (pageAt R (pageOf R s)).drop (entOf R s + 1) = l
  split
  · rename_i h0
    obtain rfl := List.eq_nil_of_length_eq_zero h0
    simp only [List.flatten_append, List.nil_append]
  · split
    · rename_i h1
      have h3 : R.drop (pageOf R s + 1) = pageAt R (pageOf R s + 1) :: R.drop (pageOf R s + 2) := by
        have e : pageAt R (pageOf R s + 1) = R[pageOf R s + 1] := by simp [pageAt, h1.1]
        rw [e, List.getElem_cons_drop]
      rw [h3]
      simp only [List.flatten_append, List.flatten_cons, List.append_assoc]
    · split
      · rename_i h1
        have h4 := split_row (R := R.take (pageOf R s)) (p := pageOf R s - 1) (by rw [List.length_take]; omega)
        have h5 : pageAt (R.take (pageOf R s)) (pageOf R s - 1) = pageAt R (pageOf R s - 1) := by
          simp only [pageAt, List.getD_eq_getElem?_getD]
          rw [List.getElem?_take_of_lt (by omega)]
        rw [h5, List.take_take, List.drop_of_length_le (by rw [List.length_take]; omega), show min (pageOf R s - 1) (pageOf R s) = pageOf R s - 1 by omega] at h4
        rw [h4]
        simp only [List.flatten_append, List.flatten_cons, List.append_assoc, List.flatten_nil, List.append_nil]
      · rw [set_split hp]
        simp only [List.flatten_append, List.flatten_cons]

theorem rising_mid {A B : List Ent} {e : Ent} (h : Rising (keys (A ++ B))) (hA : ∀ x ∈ A, x.k.lt e.k = true) (hB : ∀ x ∈ B, e.k.lt x.k = true) : Rising (keys (A ++ (e :: B))) := by
  rw [keys_append] at h ⊢
  obtain ⟨h1, h2, h3⟩ := List.pairwise_append.1 h
  refine List.pairwise_append.2 ⟨h1, List.pairwise_cons.2 ⟨fun x hx => ?_, h2⟩, fun x hx y hy => ?_⟩
  · obtain ⟨z, hz, rfl⟩ := mem_keys.1 hx
    exact hB z hz
  · rcases List.mem_cons.1 hy with rfl | hy
    · obtain ⟨z, hz, rfl⟩ := mem_keys.1 hx
      exact hA z hz
    · exact h3 x hx y hy
theorem rising_part {A B : List Ent} {e : Ent} (h : Rising (keys (A ++ (e :: B)))) : Rising (keys (A ++ B)) ∧ (∀ x ∈ A, x.k.lt e.k = true) ∧ (∀ x ∈ B, e.k.lt x.k = true) := by
  refine ⟨List.Pairwise.sublist ((List.Sublist.append_left (List.sublist_cons_self _ _) A).map _) h, fun x hx => ?_, fun x hx => ?_⟩
  · rw [keys_append] at h
    exact (List.pairwise_append.1 h).2.2 _ (mem_keys.2 ⟨x, hx, rfl⟩) _ (List.mem_cons_self)
  · rw [keys_append] at h
    exact (List.pairwise_cons.1 (List.pairwise_append.1 h).2.1).1 _ (mem_keys.2 ⟨x, hx, rfl⟩)

theorem behind_rest {R : List (List Ent)} {s : St} (ht : there R s = true) : ∃ e, e.k = s ∧ e = ent (pageAt R (pageOf R s)) (entOf R s) ∧ behind' R s = e :: rest' R s := by
  obtain ⟨e, h1, h2, _, h3⟩ := behind_there ht
  exact ⟨e, h1, h2, h3⟩

theorem Good.put {size : Nat} {R : List (List Ent)} (h : Good size R) (h4 : 4 ≤ size) (s : St) (v : Value) : Good size (putR size R s v) := by
  rcases Nat.eq_zero_or_pos R.length with h0 | hR
  · have e : putR size R s v = [[⟨s, v⟩]] := by unfold putR; rw [if_pos h0]
    rw [e]
    exact ⟨fun p hp => by obtain rfl := List.mem_singleton.1 hp; exact ⟨by simp, by simp; omega⟩, by simp [keys, Rising]⟩
  · have hp := pageOf_lt (s := s) hR
    have hpage := h.full _ (pageAt_mem hp)
    have hel := entOf_le R s
    have hrise := h.rise
    rw [flat_parts s hR] at hrise
    cases ht : there R s
    · refine ⟨?_, ?_⟩
      · have hll : ((pageAt R (pageOf R s)).take (entOf R s) ++ (⟨s, v⟩ :: (pageAt R (pageOf R s)).drop (entOf R s)) : List Ent).length = (pageAt R (pageOf R s)).length + 1 := by
          simp only [List.length_append, List.length_take, List.length_cons, List.length_drop]; omega
        unfold putR
        rw [if_neg (by omega), if_neg (by rw [ht]; decide)]
        simp only []
        generalize (pageAt R (pageOf R s)).take (entOf R s) ++ (⟨s, v⟩ :: (pageAt R (pageOf R s)).drop (entOf R s)) = l at hll
        intro p hp'
        split at hp'
        · rcases List.mem_or_eq_of_mem_set hp' with h1 | rfl
          · exact h.full p h1
          · omega
        · rcases List.mem_append.1 hp' with h1 | h1
          · exact h.full p (List.mem_of_mem_take h1)
          · rcases List.mem_cons.1 h1 with rfl | h1
            · rw [List.length_take]; omega
            · rcases List.mem_cons.1 h1 with rfl | h1
              · rw [List.length_drop]; omega
              · exact h.full p (List.mem_of_mem_drop h1)
      · rw [flat_put_new s v hR ht]
        exact rising_mid hrise (ahead_lt h hR s) (behind_gt h hR s ht)
    · obtain ⟨e, he, hee, hb⟩ := behind_rest ht
      refine ⟨?_, ?_⟩
      · unfold putR
        rw [if_neg (by omega), if_pos ht]
        intro p hp'
        rcases List.mem_or_eq_of_mem_set hp' with h1 | rfl
        · exact h.full p h1
        · rw [List.length_set]; exact hpage
      · rw [flat_put_there s v hR ht]
        rw [hb] at hrise
        obtain ⟨h1, h2, h3⟩ := rising_part hrise
        exact rising_mid h1 (fun x hx => by rw [he] at h2; exact h2 x hx) (fun x hx => by rw [he] at h3; exact h3 x hx)

theorem Good.remove {size : Nat} {R : List (List Ent)} (h : Good size R) (s : St) (hR : 0 < R.length) : Good size (removeR size R s) := by
  cases ht : there R s
  · have e : removeR size R s = R := by unfold removeR; rw [if_neg (by rw [ht]; decide)]
    rw [e]; exact h
  · have hp := pageOf_lt (s := s) hR
    have hpage := h.full _ (pageAt_mem hp)
    obtain ⟨e, he, hee, hb⟩ := behind_rest ht
    have hrise := h.rise
    rw [flat_parts s hR, hb] at hrise
    refine ⟨?_, by rw [flat_remove s hR ht]; exact (rising_part hrise).1⟩
    have hll : ((pageAt R (pageOf R s)).take (entOf R s) ++ (pageAt R (pageOf R s)).drop (entOf R s + 1)).length ≤ (pageAt R (pageOf R s)).length := by
      simp only [List.length_append, List.length_take, List.length_drop]; omega
    unfold removeR
    rw [if_pos ht]
    simp only []
    generalize (pageAt R (pageOf R s)).take (entOf R s) ++ (pageAt R (pageOf R s)).drop (entOf R s + 1) = l at hll
    intro p hp'
    split at hp'
    · rcases List.mem_append.1 hp' with h1 | h1
      · exact h.full p (List.mem_of_mem_take h1)
      · exact h.full p (List.mem_of_mem_drop h1)
    · split at hp'
      · rcases List.mem_append.1 hp' with h1 | h1
        · exact h.full p (List.mem_of_mem_take h1)
        · rcases List.mem_cons.1 h1 with rfl | h1
          · rw [List.length_append]; omega
          · exact h.full p (List.mem_of_mem_drop h1)
      · split at hp'
        · rcases List.mem_append.1 hp' with h1 | h1
          · exact h.full p (List.mem_of_mem_take h1)
          · rcases List.mem_cons.1 h1 with rfl | h1
            · rw [List.length_append]; omega
            · exact h.full p (List.mem_of_mem_drop h1)
        · rcases List.mem_or_eq_of_mem_set hp' with h1 | rfl
          · exact h.full p h1
          · omega

theorem rows_le_total {size : Nat} {R : List (List Ent)} (h : Good size R) : R.length ≤ total R := by
  have := h.full
  clear h
  induction R with
  | nil => exact Nat.zero_le _
  | cons p R ih =>
    have h1 := ih fun q hq => this q (by simp [hq])
    have h2 := (this p (by simp)).1
    rw [total_cons, List.length_cons]
    omega
end Go.Pg
namespace Go.Pg
open Go.RowKit Go.RG Go.Hp

theorem Mem.cut {E PG IX : TypeId} {w : World} {bx : Nat} {size : Int} {R : List (List Ent)} {S : Nat → Prop} {vr : Value} {pvs : List Value}
    (h : Mem E PG IX w bx size R S vr pvs) : Mem E PG IX w bx size R (fun k => S k ∧ k < w.heap.size) vr pvs where
  str := h.str
  rows := h.rows
  pages := h.pages
  sx := ⟨h.sx, block_lt_of_heap h.str⟩
  sr := fun k hk => ⟨⟨(h.sr k hk).1, owns_lt h.rows hk⟩, (h.sr k hk).2⟩
  sp := fun i hi k hk => ⟨⟨(h.sp i hi k hk).1, owns_lt (h.pages i hi).row hk⟩, (h.sp i hi k hk).2⟩
theorem Mem.mono {E PG IX : TypeId} {w : World} {bx : Nat} {size : Int} {R : List (List Ent)} {S T : Nat → Prop} {vr : Value} {pvs : List Value}
    (h : Mem E PG IX w bx size R S vr pvs) (hS : ∀ k, S k → T k) : Mem E PG IX w bx size R T vr pvs where
  str := h.str
  rows := h.rows
  pages := h.pages
  sx := hS _ h.sx
  sr := fun k hk => ⟨hS _ (h.sr k hk).1, (h.sr k hk).2⟩
  sp := fun i hi k hk => ⟨hS _ (h.sp i hi k hk).1, (h.sp i hi k hk).2⟩

def mapE (f : Value → Value) (e : Ent) : Ent := ⟨e.k, f e.v⟩
def mapP (f : Value → Value) (p : List Ent) : List Ent := p.map (mapE f)
def mapR (f : Value → Value) (R : List (List Ent)) : List (List Ent) := R.map (mapP f)

section
variable (f : Value → Value)
theorem keys_mapP (p : List Ent) : keys (mapP f p) = keys p := by simp [keys, mapP, mapE]
theorem length_mapP (p : List Ent) : (mapP f p).length = p.length := by simp [mapP]
theorem length_mapR (R : List (List Ent)) : (mapR f R).length = R.length := by simp [mapR]
theorem pageAt_mapR (R : List (List Ent)) (i : Nat) : pageAt (mapR f R) i = mapP f (pageAt R i) := by
  simp only [pageAt, mapR, List.getD_eq_getElem?_getD, List.getElem?_map]
  cases R[i]? <;> rfl
theorem firsts_mapR (R : List (List Ent)) : firsts (mapR f R) = firsts R := by
  simp only [firsts, mapR, List.map_map]
  refine List.map_congr_left fun p _ => ?_
  simp only [Function.comp, first, keys_mapP]
theorem pageOf_mapR (R : List (List Ent)) (s : St) : pageOf (mapR f R) s = pageOf R s := by unfold pageOf; rw [firsts_mapR]
theorem entOf_mapR (R : List (List Ent)) (s : St) : entOf (mapR f R) s = entOf R s := by unfold entOf; rw [pageOf_mapR, pageAt_mapR, keys_mapP]
theorem there_mapR (R : List (List Ent)) (s : St) : there (mapR f R) s = there R s := by unfold there; rw [pageOf_mapR, pageAt_mapR, keys_mapP]
theorem ent_mapP {p : List Ent} {i : Nat} (h : i < p.length) : ent (mapP f p) i = mapE f (ent p i) := by
  simp [ent, mapP, h]
theorem flat_mapR (R : List (List Ent)) : (mapR f R).flatten = mapP f R.flatten := by
  simp only [mapR, mapP, List.map_flatten]
  rfl
theorem total_mapR (R : List (List Ent)) : total (mapR f R) = total R := by
  rw [total_flat, flat_mapR, length_mapP, total_flat]
theorem Good.map {size : Nat} {R : List (List Ent)} (h : Good size R) : Good size (mapR f R) :=
  ⟨fun p hp => by
    obtain ⟨q, hq, rfl⟩ := List.mem_map.1 hp
    rw [length_mapP]; exact h.full q hq, by rw [flat_mapR, keys_mapP]; exact h.rise⟩
theorem mapP_append (p q : List Ent) : mapP f (p ++ q) = mapP f p ++ mapP f q := by simp [mapP]
theorem mapP_take (p : List Ent) (i : Nat) : mapP f (p.take i) = (mapP f p).take i := by simp [mapP, List.map_take]
theorem mapP_drop (p : List Ent) (i : Nat) : mapP f (p.drop i) = (mapP f p).drop i := by simp [mapP, List.map_drop]
theorem mapR_take (p : List (List Ent)) (i : Nat) : mapR f (p.take i) = (mapR f p).take i := by simp [mapR, List.map_take]
theorem mapR_drop (p : List (List Ent)) (i : Nat) : mapR f (p.drop i) = (mapR f p).drop i := by simp [mapR, List.map_drop]
theorem mapR_append (p q : List (List Ent)) : mapR f (p ++ q) = mapR f p ++ mapR f q := by simp [mapR]
theorem mapR_cons (p : List Ent) (q : List (List Ent)) : mapR f (p :: q) = mapP f p :: mapR f q := by simp [mapR]
theorem mapR_set (p : List (List Ent)) (i : Nat) (l : List Ent) : mapR f (p.set i l) = (mapR f p).set i (mapP f l) := by simp [mapR, List.map_set]

theorem putR_mapR (size : Nat) (R : List (List Ent)) (s : St) (v : Value) : putR size (mapR f R) s (f v) = mapR f (putR size R s v) := by
  unfold putR
  rw [length_mapR, there_mapR, pageOf_mapR, pageAt_mapR, entOf_mapR]
  split
  · rfl
  · split
    · rename_i h1 h2
      have hi : entOf R s < (pageAt R (pageOf R s)).length := by
        have := (isIn_iff.1 h2).1
        rwa [length_keys] at this
      rw [mapR_set, ent_mapP f hi]
      congr 1
      simp [mapP, List.map_set, mapE]
    · have e : (mapP f (pageAt R (pageOf R s))).take (entOf R s) ++ (⟨s, f v⟩ :: (mapP f (pageAt R (pageOf R s))).drop (entOf R s)) = mapP f ((pageAt R (pageOf R s)).take (entOf R s) ++ (⟨s, v⟩ :: (pageAt R (pageOf R s)).drop (entOf R s))) := by
        rw [mapP_append, ← mapP_take, ← mapP_drop]; rfl
      simp only [e, length_mapP]
      split
      · rw [mapR_set]
      · rw [mapR_append, mapR_cons, mapR_cons, mapR_take, mapR_drop, mapP_take, mapP_drop]
theorem removeR_mapR (size : Nat) (R : List (List Ent)) (s : St) : removeR size (mapR f R) s = mapR f (removeR size R s) := by
  unfold removeR
  rw [there_mapR]
  split
  · simp only [length_mapR, pageOf_mapR, pageAt_mapR, entOf_mapR]
    have e : (mapP f (pageAt R (pageOf R s))).take (entOf R s) ++ (mapP f (pageAt R (pageOf R s))).drop (entOf R s + 1) = mapP f ((pageAt R (pageOf R s)).take (entOf R s) ++ (pageAt R (pageOf R s)).drop (entOf R s + 1)) := by
      rw [mapP_append, ← mapP_take, ← mapP_drop]
    simp only [e, length_mapP]
    generalize (pageAt R (pageOf R s)).take (entOf R s) ++ (pageAt R (pageOf R s)).drop (entOf R s + 1) = l
    split
    · rw [mapR_append, mapR_take, mapR_drop]
    · split
      · rw [mapR_append, mapR_cons, mapR_take, mapR_drop, mapP_append]
      · split
        · rw [mapR_append, mapR_cons, mapR_take, mapR_drop, mapP_append]
        · rw [mapR_set]
  · rfl
end
end Go.Pg
