/-
  PagesOwn: the lists that Pages answers are the caller's: the walk.
-/
import Derived.Test.YtagcohpghgnalaaCQG
import Derived.Test.YtagcohpghgnalaaCOC
set_option linter.unusedSimpArgs false
set_option linter.unusedVariables false
namespace Go.Proofs.Ytagcohpghgnalaa.OW
open Go.RowKit Go.RG Go.Hp Go.Pg Go.Proofs.Ytagcohpghgnalaa Go.Proofs.Ytagcohpghgnalaa.RF Go.Proofs.Ytagcohpghgnalaa.U Go.Proofs.Ytagcohpghgnalaa.LB Go.Proofs.Ytagcohpghgnalaa.BK Go.Proofs.Ytagcohpghgnalaa.QA


/-- how many entries each page has -/
def shp (d : Dx) : List Nat := match d with | none => [] | some R => R.map List.length
def nums (l : List Nat) : List Value := l.map fun (n : Nat) => Value.int .i64 (n : Int)
def PgPost (l : List Nat) (w : World) (e : Ending) (w' : World) : Prop := ∃ v, e = .returned v ∧ w'.ownsRow w.heap.size 3 1 v l.length (nums l) ∧ Below w.heap.size w w'
theorem nums_len (l : List Nat) : (nums l).length = l.length := by simp [nums]
theorem nums_get {l : List Nat} {j : Nat} (h : j < l.length) : (nums l)[j]? = some (.int .i64 ((l[j] : Nat) : Int)) := by simp [nums, h]
theorem shp_len {size i : Nat} {d : Dx} (h : DGood size d i) : (shp d).length ≤ i := by
  cases d with
  | none => exact Nat.zero_le _
  | some R =>
    have := rows_le_total h.2.2.1
    have := h.2.2.2.2
    simp only [shp, List.length_map]
    omega
theorem twin_pgx {size i : Nat} {p q : Option Addr} {d : Dx} {Z : Nat → Prop} {w : World} (h : QA.Twin size p q d i Z w) (hi : i ≤ 1099511) : Calls Try.prog 32 #[.pointer p] w (PgPost (shp d) w) := by
  obtain ⟨h0, Zx, Zy, hx, hy, h1, h2⟩ := h
  cases d with
  | none =>
    obtain rfl : p = none := hx
    exact (U.pages_nil w).mono fun e w' ⟨he, hw⟩ => by subst hw; exact ⟨_, he, World.ownsRow_nil _ _ _ _, Below.refl _ _⟩
  | some R =>
    obtain ⟨bx, vr, pvs, rfl, hM⟩ := hx
    have hr := rows_le_total h0.2.2.1
    have ht := h0.2.2.2.2
    have := U.pages_any bx size (by have := h0.1; omega) R (by omega) Zx vr pvs w hM
    refine this.mono fun e w' ⟨v, he, ho, hb⟩ => ⟨v, he, ?_, hb⟩
    simp only [shp, List.length_map, nums, List.map_map]
    exact ho
theorem twin_pgy {size i : Nat} {p q : Option Addr} {d : Dx} {Z : Nat → Prop} {w : World} (h : QA.Twin size p q d i Z w) (hi : i ≤ 1099511) : Calls Try.prog 48 #[.pointer q] w (PgPost (shp d) w) := by
  obtain ⟨h0, Zx, Zy, hx, hy, h1, h2⟩ := h
  cases d with
  | none =>
    obtain rfl : q = none := hy
    exact (RF.pages_rnil w).mono fun e w' ⟨he, hw⟩ => by subst hw; exact ⟨_, he, World.ownsRow_nil _ _ _ _, Below.refl _ _⟩
  | some R =>
    obtain ⟨bx, vr, pvs, rfl, hM⟩ := hy
    have hr := rows_le_total h0.2.2.1
    have ht := h0.2.2.2.2
    have := RF.pages_ref bx size R (by omega) Zy vr pvs w hM
    refine this.mono fun e w' ⟨v, he, ho, hb⟩ => ⟨v, he, ?_, hb⟩
    simp only [shp, List.length_map, nums, List.map_map]
    exact ho

/-- the two indexes and the lists that have been gathered -/
structure OwnSt (B size : Nat) (p q : Option Addr) (d : Dx) (i : Nat) (Z : Nat → Prop) (vs : List Value) (L : Nat → Nat) (c : Nat → List Value) (va : Value) (w : World) : Prop where
  tw : QA.Twin size p q d i Z w
  zl : ∀ k, Z k → B ≤ k ∧ k < w.heap.size
  ls : Lists B w vs L c
  ll : ∀ k, k < vs.length → L k ≤ 1099511
  row : w.ownsRow B 52 1 va vs.length vs
  off1 : ∀ b, OW.LB vs b → ¬ Z b
  off2 : ∀ b, va.ownBlock = some b → ¬ Z b ∧ ¬ OW.LB vs b
theorem OwnSt.below {B size i : Nat} {p q : Option Addr} {d : Dx} {Z : Nat → Prop} {vs : List Value} {L : Nat → Nat} {c : Nat → List Value} {va : Value} {w w' : World} (h : OwnSt B size p q d i Z vs L c va w) (hb : Below w.heap.size w w') : OwnSt B size p q d i Z vs L c va w' :=
  ⟨h.tw.below hb, fun k hk => ⟨(h.zl k hk).1, Nat.lt_of_lt_of_le (h.zl k hk).2 hb.size⟩, h.ls.below hb, h.ll, owns_below h.row hb, h.off1, h.off2⟩
/-- behind both answers -/
theorem OwnSt.both {B size i : Nat} {p q : Option Addr} {d : Dx} {Z Z1 : Nat → Prop} {vs : List Value} {L : Nat → Nat} {c : Nat → List Value} {va v : Value} {w w1 w2 : World} {o : Opd} {e : Ending} (h : OwnSt B size p q d i Z vs L c va w) (hB : B ≤ w.heap.size) (hX : Ext Z w w1)
    (hZ1 : ∀ k, Z1 k → (Z k ∨ w.heap.size ≤ k) ∧ k < w1.heap.size) (hb : BothPost size p q d o i v Z1 w1 e w2) : (∃ v', e = .returned v' ∧ ∃ a n c, v' = .slice a n c) ∧ ∃ Z', OwnSt B size p q (stepD size d o) (i + 1) Z' vs L c va w2 ∧ Below B w w2 := by
  obtain ⟨v', Z', b, b', rfl, -, hn', hT, hX2, hZ'⟩ := hb
  obtain ⟨a, cc, hv', -⟩ := owns_shape hn'
  have s1 := hX.size
  have s2 := hX2.size
  have hXX : Ext Z w w2 := hX.trans hX2 fun k hk h1 => by
    rcases (hZ1 k h1).1 with h2 | h2
    · exact h2
    · omega
  have hzz : ∀ k, Z' k → Z k ∨ w.heap.size ≤ k := fun k hk => by
    rcases (hZ' k hk).1 with h1 | h1
    · exact (hZ1 k h1).1
    · exact Or.inr (by omega)
  have hlb : ∀ b, OW.LB vs b → b < w.heap.size := fun b ⟨k, hk, hb⟩ => owns_lt (h.ls.row k hk) hb
  refine ⟨⟨v', rfl, a, _, cc, hv'⟩, Z', ⟨hT, fun k hk => ⟨?_, (hZ' k hk).2⟩, h.ls.ext hXX h.off1, h.ll, owns_ext h.row hXX fun b hb => (h.off2 b hb).1, fun b hb hz => ?_, fun b hb => ⟨fun hz => ?_, (h.off2 b hb).2⟩⟩, hXX.to_belowAt hB fun k hk hz => by have := (h.zl k hz).1; omega⟩
  · rcases hzz k hk with h1 | h1
    · exact (h.zl k h1).1
    · omega
  · rcases hzz b hz with h1 | h1
    · exact h.off1 b hb h1
    · have := hlb b hb; omega
  · rcases hzz b hz with h1 | h1
    · exact (h.off2 b hb).1 h1
    · have := (h.row.lt b hb).2; omega
theorem val_two {l : List Value} {u v : Value} {k : Nat} : val (l ++ [u, v]) k = if k < l.length then val l k else if k = l.length then u else if k = l.length + 1 then v else val [] (k - l.length - 2) := by
  unfold val
  rw [List.getD_eq_getElem?_getD]
  split
  · rename_i h
    rw [List.getElem?_append_left h, List.getD_eq_getElem?_getD]
  · rename_i h
    rw [List.getElem?_append_right (by omega)]
    split
    · rename_i e; subst e; simp
    · split
      · rename_i e; subst e
        rw [show l.length + 1 - l.length = 1 by omega]; simp
      · obtain ⟨m, hm⟩ : ∃ m, k - l.length = m + 2 := ⟨k - l.length - 2, by omega⟩
        rw [hm]
        simp
/-- two lists more -/
theorem OwnSt.add {B size i n : Nat} {p q : Option Addr} {d : Dx} {Z : Nat → Prop} {vs : List Value} {L : Nat → Nat} {c : Nat → List Value} {va va' a b : Value} {xs ys : List Value} {w0 wa w w' : World} (h : OwnSt B size p q d i Z vs L c va w0) (hn : n ≤ 1099511) (hB : B ≤ w0.heap.size)
    (ha : w.ownsRow w0.heap.size 3 1 a n xs) (hwa : ∀ k, a.ownBlock = some k → k < wa.heap.size) (hb : w.ownsRow wa.heap.size 3 1 b n ys) (hbw : Below w0.heap.size w0 w) (hwx : w0.heap.size ≤ wa.heap.size)
    (hown : w'.ownsRow B 52 1 va' (vs.length + 2) (vs ++ [a, b])) (hg : w.grownBy w' va.ownBlock) (hnew : ∀ k, va'.ownBlock = some k → va.ownBlock = some k ∨ w.heap.size ≤ k) :
    OwnSt B size p q d i Z (vs ++ [a, b]) (fun k => if k < vs.length then L k else n) (fun k => if k < vs.length then c k else if k = vs.length then xs else ys) va' w' ∧ Below B w w' := by
  have h1 := h.below hbw
  have hva : ∀ k, va.ownBlock = some k → k < w0.heap.size := fun k hk => (h.row.lt k hk).2
  have hlb : ∀ b, OW.LB vs b → b < w0.heap.size := fun b ⟨k, hk, hb⟩ => owns_lt (h.ls.row k hk) hb
  have hX : Ext (fun k => va.ownBlock = some k) w w' := Ext.grown hg fun k hk _ => hk
  have hs := hX.size
  have hl2 : (vs ++ [a, b]).length = vs.length + 2 := by simp
  have hLB : ∀ k, OW.LB (vs ++ [a, b]) k → OW.LB vs k ∨ w0.heap.size ≤ k := by
    rintro k ⟨j, hj, hk⟩
    rw [hl2] at hj
    rw [val_two] at hk
    split at hk
    · rename_i e; exact .inl ⟨j, e, hk⟩
    · split at hk
      · exact .inr (ha.lt k hk).1
      · rw [if_pos (by omega)] at hk
        exact .inr (Nat.le_trans hwx (hb.lt k hk).1)
  have hab : ∀ k, a.ownBlock = some k → b.ownBlock ≠ some k := fun k h1 h2 => by have := hwa k h1; have := (hb.lt k h2).1; omega
  refine ⟨⟨h1.tw.ext hX fun k hz hv => (h.off2 k hv).1 hz, fun k hk => ⟨(h1.zl k hk).1, by have := (h1.zl k hk).2; omega⟩, ⟨fun k hk => ?_, fun j k hj hk hne x hx hx2 => ?_⟩, fun k hk => ?_, by rw [hl2]; exact hown, fun x hx hz => ?_, fun x hx => ⟨fun hz => ?_, fun hl => ?_⟩⟩, ?_⟩
  · rw [hl2] at hk
    rw [val_two]
    by_cases e : k < vs.length
    · rw [if_pos e, if_pos e, if_pos e]
      exact owns_ext (h1.ls.row k e) hX fun x hx hv => (h.off2 x hv).2 ⟨k, e, hx⟩
    · rw [if_neg e, if_neg e, if_neg e]
      by_cases e2 : k = vs.length
      · rw [if_pos e2, if_pos e2]
        exact owns_base (owns_ext ha hX fun x hx hv => by have := (ha.lt x hx).1; have := hva x hv; omega) fun x hx => Nat.le_trans hB (ha.lt x hx).1
      · rw [if_neg e2, if_neg e2, if_pos (by omega)]
        exact owns_base (owns_ext hb hX fun x hx hv => by have := (hb.lt x hx).1; have := hva x hv; omega) fun x hx => by have := (hb.lt x hx).1; omega
  · rw [hl2] at hj hk
    rw [val_two] at hx hx2
    by_cases ej : j < vs.length
    · rw [if_pos ej] at hx
      have hj0 := hlb x ⟨j, ej, hx⟩
      by_cases ek : k < vs.length
      · rw [if_pos ek] at hx2
        exact h.ls.off j k ej ek hne x hx hx2
      · rw [if_neg ek] at hx2
        split at hx2
        · have := (ha.lt x hx2).1; omega
        · rw [if_pos (by omega)] at hx2
          have := (hb.lt x hx2).1; omega
    · rw [if_neg ej] at hx
      by_cases ek : k < vs.length
      · rw [if_pos ek] at hx2
        have hk0 := hlb x ⟨k, ek, hx2⟩
        split at hx
        · have := (ha.lt x hx).1; omega
        · rw [if_pos (by omega)] at hx
          have := (hb.lt x hx).1; omega
      · rw [if_neg ek] at hx2
        split at hx
        · split at hx2
          · omega
          · rw [if_pos (by omega)] at hx2
            exact hab x hx hx2
        · rw [if_pos (by omega)] at hx
          split at hx2
          · exact hab x hx2 hx
          · omega
  · rw [hl2] at hk
    split
    · rename_i e; exact h.ll k e
    · exact hn
  · rcases hLB x hx with h2 | h2
    · exact h.off1 x h2 hz
    · have := (h.zl x hz).2; omega
  · rcases hnew x hx with h2 | h2
    · exact (h.off2 x h2).1 hz
    · have := (h1.zl x hz).2; omega
  · rcases hnew x hx with h2 | h2
    · rcases hLB x hl with h3 | h3
      · exact (h.off2 x h2).2 h3
      · have := hva x h2; omega
    · obtain ⟨j, hj, hk⟩ := hl
      rw [hl2] at hj
      rw [val_two] at hk
      split at hk
      · rename_i e
        have := hlb x ⟨j, e, hk⟩
        have := hbw.size
        omega
      · split at hk
        · have := (ha.lt x hk).2; omega
        · rw [if_pos (by omega)] at hk
          have := (hb.lt x hk).2; omega
  · exact hX.to_belowAt (by have := hbw.size; omega) fun k hk hv => by have := (h.row.lt k hv).1; omega
end Go.Proofs.Ytagcohpghgnalaa.OW
