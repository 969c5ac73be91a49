/-
  What an index answers to a call, as numbers; two indexes, the program's and the document's, side by side. No walk.
-/
import Derived.Test.YtagcohpghgnalaaCQ1
import Derived.Test.YtagcohpghgnalaaCGBK
import Derived.Test.YtagcohpghgnalaaCPU
import Derived.Test.YtagcohpghgnalaaCLO
import Derived.Test.YtagcohpghgnalaaCGQ1
import Derived.Test.YtagcohpghgnalaaCGQ3
set_option linter.unusedSimpArgs false
set_option linter.unusedVariables false
namespace Go.Proofs.Ytagcohpghgnalaa.QA
open Go.RowKit Go.RG Go.Hp Go.Pg Go.Proofs.Ytagcohpghgnalaa Go.Proofs.Ytagcohpghgnalaa.RF Go.Proofs.Ytagcohpghgnalaa.U Go.Proofs.Ytagcohpghgnalaa.LB Go.Proofs.Ytagcohpghgnalaa.BK

/-- what an index with the pages R answers -/
def ans (R : List (List Ent)) (o : Opd) : List Int :=
  if o.kind = 1 then [bitN (!(decide (0 < R.length) && there R o.s))]
  else if o.kind = 2 ∨ o.kind = 3 then (if (decide (0 < R.length) && there R o.s) = true then [numOf (ent (pageAt R (pageOf R o.s)) (entOf R o.s)).v, bitN true] else [0, bitN false])
  else if o.kind = 4 then [(total R : Int)]
  else if o.kind = 5 then (R.map List.length).map fun (n : Nat) => (n : Int)
  else if o.kind = 6 then (if 0 < R.length then [(pageOf R o.s : Int), (entOf R o.s : Int), bitN (there R o.s)] else [((0 : Nat) : Int), ((0 : Nat) : Int), bitN false])
  else if o.kind = 7 then firstNums (behind' R o.s)
  else if o.kind = 8 then firstNums (downs R o.s)
  else if o.kind = 9 then ((behind' R o.s).take (o.v % 64).toNat).flatMap entNums
  else if o.kind = 10 then ((downs R o.s).take (o.v % 64).toNat).flatMap entNums
  else []
/-- what no index answers -/
def ansB (o : Opd) : List Int :=
  if o.kind = 1 then [bitN false]
  else if o.kind = 2 ∨ o.kind = 3 then [0, bitN false]
  else if o.kind = 4 then [((0 : Nat) : Int)]
  else if o.kind = 5 then []
  else if o.kind = 6 then [((0 : Nat) : Int), ((0 : Nat) : Int), bitN false]
  else if o.kind = 7 ∨ o.kind = 8 then [0, 0, 0, 0]
  else []

/-- what there is: no index, or one with these pages -/
abbrev Dx := Option (List (List Ent))
def ansD (d : Dx) (o : Opd) : List Int := match d with | none => ansB o | some R => ans R o
def stepD (size : Nat) (d : Dx) (o : Opd) : Dx := match d with | none => none | some R => some (stepR size R o)
/-- the pages are such as Puts and Removes make them, with i entries at most -/
def DGood (size : Nat) (d : Dx) (i : Nat) : Prop := match d with | none => True | some R => 4 ≤ size ∧ size ≤ 64 ∧ Pg.Good size R ∧ (∀ e ∈ R.flatten, NumV e.v) ∧ total R ≤ i
theorem DGood.step {size : Nat} {d : Dx} {i : Nat} (h : DGood size d i) (o : Opd) : DGood size (stepD size d o) (i + 1) := by
  cases d with
  | none => trivial
  | some R =>
    obtain ⟨h4, h64, hG, hN, ht⟩ := h
    refine ⟨h4, h64, ?_, ?_, ?_⟩
    · unfold stepR
      split
      · exact hG.put h4 _ _
      · split
        · exact good_remove hG _
        · exact hG
    · intro e he
      unfold stepR at he
      split at he
      · rcases put_mem _ _ he with h | h
        · exact hN e h
        · exact ⟨_, h⟩
      · split at he
        · exact hN e (remove_mem' _ he)
        · exact hN e he
    · have := stepR_total hG o
      omega

/-- the program's index -/
def HX (size : Nat) (p : Option Addr) (d : Dx) (Z : Nat → Prop) (w : World) : Prop := match d with | none => p = none | some R => ∃ bx vr pvs, p = some ⟨bx, 0, none⟩ ∧ U.MemV w bx size R Z vr pvs
/-- the document's index -/
def HY (size : Nat) (q : Option Addr) (d : Dx) (Z : Nat → Prop) (w : World) : Prop := match d with | none => q = none | some R => ∃ bx vr pvs, q = some ⟨bx, 0, none⟩ ∧ RF.RMemV w bx size R Z vr pvs
theorem HX.ext {size : Nat} {p : Option Addr} {d : Dx} {Z T : Nat → Prop} {w w' : World} (h : HX size p d Z w) (hb : Ext T w w') (hd : ∀ k, Z k → ¬ T k) : HX size p d Z w' := by
  cases d with
  | none => exact h
  | some R => obtain ⟨bx, vr, pvs, e, hM⟩ := h; exact ⟨bx, vr, pvs, e, hM.ext hb fun k _ => hd k⟩
theorem HY.ext {size : Nat} {p : Option Addr} {d : Dx} {Z T : Nat → Prop} {w w' : World} (h : HY size p d Z w) (hb : Ext T w w') (hd : ∀ k, Z k → ¬ T k) : HY size p d Z w' := by
  cases d with
  | none => exact h
  | some R => obtain ⟨bx, vr, pvs, e, hM⟩ := h; exact ⟨bx, vr, pvs, e, hM.ext hb fun k _ => hd k⟩
theorem HX.below {size : Nat} {p : Option Addr} {d : Dx} {Z : Nat → Prop} {w w' : World} (h : HX size p d Z w) (hb : Below w.heap.size w w') : HX size p d Z w' := h.ext (Ext.of_below (S := fun _ => False) hb) fun _ _ h => h
theorem HY.below {size : Nat} {p : Option Addr} {d : Dx} {Z : Nat → Prop} {w w' : World} (h : HY size p d Z w) (hb : Below w.heap.size w w') : HY size p d Z w' := h.ext (Ext.of_below (S := fun _ => False) hb) fun _ _ h => h

/-- an answer: its row of numbers, and what it leaves of what Z named -/
def APost (Hold : (Nat → Prop) → World → Prop) (Z : Nat → Prop) (l : List Int) (w : World) (e : Ending) (w' : World) : Prop :=
  ∃ v Z', e = .returned v ∧ NumsAt w.heap.size w' v l ∧ Hold Z' w' ∧ Ext Z w w' ∧ ∀ k, Z' k → (Z k ∨ w.heap.size ≤ k) ∧ k < w'.heap.size ∧ v.ownBlock ≠ some k

/-- two indexes side by side -/
def Twin (size : Nat) (p q : Option Addr) (d : Dx) (i : Nat) (Z : Nat → Prop) (w : World) : Prop :=
  DGood size d i ∧ ∃ Zx Zy, HX size p d Zx w ∧ HY size q d Zy w ∧ (∀ k, Zx k → Z k ∧ k < w.heap.size ∧ ¬ Zy k) ∧ (∀ k, Zy k → Z k ∧ k < w.heap.size)
theorem Twin.ext {size i : Nat} {p q : Option Addr} {d : Dx} {Z T : Nat → Prop} {w w' : World} (h : Twin size p q d i Z w) (hb : Ext T w w') (hd : ∀ k, Z k → ¬ T k) : Twin size p q d i Z w' := by
  obtain ⟨h0, Zx, Zy, hx, hy, h1, h2⟩ := h
  have hs := hb.size
  exact ⟨h0, Zx, Zy, hx.ext hb fun k hk => hd k (h1 k hk).1, hy.ext hb fun k hk => hd k (h2 k hk).1, fun k hk => ⟨(h1 k hk).1, by have := (h1 k hk).2.1; omega, (h1 k hk).2.2⟩, fun k hk => ⟨(h2 k hk).1, by have := (h2 k hk).2; omega⟩⟩
theorem Twin.below {size i : Nat} {p q : Option Addr} {d : Dx} {Z : Nat → Prop} {w w' : World} (h : Twin size p q d i Z w) (hb : Below w.heap.size w w') : Twin size p q d i Z w' := h.ext (Ext.of_below (S := fun _ => False) hb) fun _ _ h => h
/-- the program's index has answered v, the document's has not been asked yet -/
def Half (size : Nat) (p q : Option Addr) (d : Dx) (o : Opd) (i : Nat) (v : Value) (Z : Nat → Prop) (w : World) : Prop :=
  DGood size d i ∧ ∃ Zx Zy b, HX size p (stepD size d o) Zx w ∧ HY size q d Zy w ∧ (∀ k, Zx k → Z k ∧ k < w.heap.size ∧ ¬ Zy k) ∧ (∀ k, Zy k → Z k ∧ k < w.heap.size) ∧ NumsAt b w v (ansD d o) ∧ ∀ k, v.ownBlock = some k → ¬ Zy k
theorem Half.below {size i : Nat} {p q : Option Addr} {d : Dx} {o : Opd} {v : Value} {Z : Nat → Prop} {w w' : World} (h : Half size p q d o i v Z w) (hb : Below w.heap.size w w') : Half size p q d o i v Z w' := by
  obtain ⟨h0, Zx, Zy, b, hx, hy, h1, h2, h3, h4⟩ := h
  have hs := hb.size
  exact ⟨h0, Zx, Zy, b, hx.below hb, hy.below hb, fun k hk => ⟨(h1 k hk).1, by have := (h1 k hk).2.1; omega, (h1 k hk).2.2⟩, fun k hk => ⟨(h2 k hk).1, by have := (h2 k hk).2; omega⟩, h3.below hb, h4⟩

def HalfPost (size : Nat) (p q : Option Addr) (d : Dx) (o : Opd) (i : Nat) (Z : Nat → Prop) (w : World) (e : Ending) (w' : World) : Prop :=
  ∃ v Z', e = .returned v ∧ Half size p q d o i v Z' w' ∧ Ext Z w w' ∧ ∀ k, Z' k → (Z k ∨ w.heap.size ≤ k) ∧ k < w'.heap.size
theorem half_of {size i : Nat} {p q : Option Addr} {d : Dx} {o : Opd} {Z Zx Zy : Nat → Prop} {w : World} (h0 : DGood size d i) (hy : HY size q d Zy w) (h1 : ∀ k, Zx k → Z k ∧ k < w.heap.size ∧ ¬ Zy k) (h2 : ∀ k, Zy k → Z k ∧ k < w.heap.size)
    {e : Ending} {w' : World} (hA : APost (HX size p (stepD size d o)) Zx (ansD d o) w e w') : HalfPost size p q d o i Z w e w' := by
  obtain ⟨v, Z', rfl, hn, hx', hX, hZ'⟩ := hA
  have hs := hX.size
  refine ⟨v, fun k => Z' k ∨ Zy k, rfl, ⟨h0, Z', Zy, _, hx', hy.ext hX fun k hk h => (h1 k h).2.2 hk, fun k hk => ⟨Or.inl hk, (hZ' k hk).2.1, fun h => ?_⟩, fun k hk => ⟨Or.inr hk, by have := (h2 k hk).2; omega⟩, hn, fun k hk h => ?_⟩, hX.mono fun k _ hk => (h1 k hk).1, ?_⟩
  · rcases (hZ' k hk).1 with h3 | h3
    · exact (h1 k h3).2.2 h
    · have := (h2 k h).2; omega
  · have := (hn.lt k hk).1
    have := (h2 k h).2
    omega
  · rintro k (hk | hk)
    · refine ⟨?_, (hZ' k hk).2.1⟩
      rcases (hZ' k hk).1 with h3 | h3
      · exact Or.inl (h1 k h3).1
      · exact Or.inr h3
    · exact ⟨Or.inl (h2 k hk).1, by have := (h2 k hk).2; omega⟩
/-- both have answered -/
def BothPost (size : Nat) (p q : Option Addr) (d : Dx) (o : Opd) (i : Nat) (v : Value) (Z : Nat → Prop) (w : World) (e : Ending) (w' : World) : Prop :=
  ∃ v' Z' b b', e = .returned v' ∧ NumsAt b w' v (ansD d o) ∧ NumsAt b' w' v' (ansD d o) ∧ Twin size p q (stepD size d o) (i + 1) Z' w' ∧ Ext Z w w' ∧ ∀ k, Z' k → (Z k ∨ w.heap.size ≤ k) ∧ k < w'.heap.size
theorem both_of {size i : Nat} {p q : Option Addr} {d : Dx} {o : Opd} {v : Value} {Z Zx Zy : Nat → Prop} {b : Nat} {w : World} (h0 : DGood size d i) (hx : HX size p (stepD size d o) Zx w) (h1 : ∀ k, Zx k → Z k ∧ k < w.heap.size ∧ ¬ Zy k) (h2 : ∀ k, Zy k → Z k ∧ k < w.heap.size)
    (h3 : NumsAt b w v (ansD d o)) (h4 : ∀ k, v.ownBlock = some k → ¬ Zy k) {e : Ending} {w' : World} (hA : APost (HY size q (stepD size d o)) Zy (ansD d o) w e w') : BothPost size p q d o i v Z w e w' := by
  obtain ⟨v', Z', rfl, hn, hy', hX, hZ'⟩ := hA
  have hs := hX.size
  refine ⟨v', fun k => Zx k ∨ Z' k, b, _, rfl, owns_ext h3 hX h4, hn, ⟨h0.step o, Zx, Z', hx.ext hX fun k hk => (h1 k hk).2.2, hy', fun k hk => ⟨Or.inl hk, by have := (h1 k hk).2.1; omega, fun h => ?_⟩, fun k hk => ⟨Or.inr hk, (hZ' k hk).2.1⟩⟩, hX.mono fun k _ hk => (h2 k hk).1, ?_⟩
  · rcases (hZ' k h).1 with h5 | h5
    · exact (h1 k hk).2.2 h5
    · have := (h1 k hk).2.1; omega
  · rintro k (hk | hk)
    · exact ⟨Or.inl (h1 k hk).1, by have := (h1 k hk).2.1; omega⟩
    · refine ⟨?_, (hZ' k hk).2.1⟩
      rcases (hZ' k hk).1 with h5 | h5
      · exact Or.inl (h2 k h5).1
      · exact Or.inr h5
end Go.Proofs.Ytagcohpghgnalaa.QA
namespace Go.Proofs.Ytagcohpghgnalaa.QA
open Go.RowKit Go.RG Go.Hp Go.Pg Go.Proofs.Ytagcohpghgnalaa Go.Proofs.Ytagcohpghgnalaa.RF Go.Proofs.Ytagcohpghgnalaa.U Go.Proofs.Ytagcohpghgnalaa.LB Go.Proofs.Ytagcohpghgnalaa.BK

def agg (o : Opd) : Value := .agg #[.int .i64 o.kind, .int .u64 o.s.t, .int .u64 o.s.s, .int .u64 o.v]
theorem HX.mono {size : Nat} {p : Option Addr} {d : Dx} {Z T : Nat → Prop} {w : World} (h : HX size p d Z w) (hS : ∀ k, Z k → T k) : HX size p d T w := by
  cases d with
  | none => exact h
  | some R => obtain ⟨bx, vr, pvs, e, hM⟩ := h; exact ⟨bx, vr, pvs, e, hM.mono hS⟩
theorem HY.mono {size : Nat} {p : Option Addr} {d : Dx} {Z T : Nat → Prop} {w : World} (h : HY size p d Z w) (hS : ∀ k, Z k → T k) : HY size p d T w := by
  cases d with
  | none => exact h
  | some R => obtain ⟨bx, vr, pvs, e, hM⟩ := h; exact ⟨bx, vr, pvs, e, hM.mono hS⟩

theorem mid_post {Hold : (Nat → Prop) → World → Prop} {Z : Nat → Prop} {l : List Int} {w : World} {e : Ending} {w' : World} {Pr : World → World → Prop}
    (h : ∃ v w0 w1, e = .returned v ∧ Below w.heap.size w w0 ∧ Pr w0 w1 ∧ Below w1.heap.size w1 w' ∧ NumsAt w1.heap.size w' v l)
    (hP : ∀ w0 w1, Below w.heap.size w w0 → Pr w0 w1 → Hold (fun k => (Z k ∨ w0.heap.size ≤ k) ∧ k < w1.heap.size) w1 ∧ Ext Z w0 w1)
    (hb : ∀ Z w1 w2, Hold Z w1 → Below w1.heap.size w1 w2 → Hold Z w2) : APost Hold Z l w e w' := by
  obtain ⟨v, w0, w1, rfl, hB0, hp, hB1, hn⟩ := h
  obtain ⟨hH, hX⟩ := hP w0 w1 hB0 hp
  have s0 := hB0.size
  have s1 := hX.size
  have s2 := hB1.size
  refine ⟨v, _, rfl, hn.base (by omega), hb _ _ _ hH hB1, ((Ext.of_below hB0).trans hX fun _ _ h => h).trans (Ext.of_below (S := Z) hB1) fun _ _ h => h, fun k ⟨h1, h2⟩ => ⟨?_, by omega, fun h => ?_⟩⟩
  · rcases h1 with h1 | h1
    · exact Or.inl h1
    · exact Or.inr (by omega)
  · have := (hn.lt k h).1
    omega

theorem first_is (l : List Ent) : ∃ (s : St) (v : Int) (b : Bool), firstOf (evs l) = #[s.v, .int .u64 v, .bool b] ∧ firstNums l = [bitN b, s.t, s.s, v] := by
  cases l with
  | nil => exact ⟨⟨0, 0⟩, 0, false, rfl, rfl⟩
  | cons e l => exact ⟨e.k, numOf e.v, true, rfl, rfl⟩

/-- the kinds of a call -/
theorem kinds (k : Int) : k = 1 ∨ k = 2 ∨ k = 3 ∨ k = 4 ∨ k = 5 ∨ k = 6 ∨ k = 7 ∨ k = 8 ∨ k = 9 ∨ k = 10 ∨ (k < 1 ∨ 10 < k) := by omega

/-- calls on no index of the document's -/
theorem doc_bare (o : Opd) (ho : OpOk o) (w : World) : Calls Try.prog 47 #[.pointer none, agg o] w (doc.Mid w doc.Quiet (ansB o)) := by
  have hA : ∀ w0, Below w.heap.size w w0 → Calls Try.prog 87 #[.pointer none] w0 (AllPost [] w0) := fun w0 _ => (all_rnil w0).mono fun e w1 h => by
    obtain ⟨rfl, rfl⟩ := h
    exact ⟨_, rfl, World.ownsRow_nil _ _ _ _, Below.refl _ _⟩
  have hU : ∀ w0, Below w.heap.size w w0 → Calls Try.prog _ #[.pointer none, o.s.v] w0 (AllPost [] w0) := fun w0 hb => up_of (.pointer none) o.s [] (by simp) (fun e he => by cases he) w0 (fun w1 hb1 => hA w1 (below_trans hb hb1)) ⟨none, rfl⟩
  have hD : ∀ w0, Below w.heap.size w w0 → Calls Try.prog _ #[.pointer none, o.s.v] w0 (AllPost [] w0) := fun w0 hb => down_of (.pointer none) o.s [] (by simp) (fun e he => by cases he) w0 (fun w1 hb1 => hA w1 (below_trans hb hb1)) ⟨none, rfl⟩
  have hv : 0 ≤ o.v ∧ o.v < 18446744073709551616 := ⟨ho.v.1, by have := ho.v.2; omega⟩
  unfold ansB
  rcases kinds o.kind with k | k | k | k | k | k | k | k | k | k | k
  · have h := doc.arm_put (.pointer none) ⟨none, rfl⟩ o k false doc.Quiet w fun w0 _ => put_rbare o.s o.v w0
    rw [if_pos k]
    exact h
  · have h := doc.arm_rem (.pointer none) ⟨none, rfl⟩ o k 0 false doc.Quiet w fun w0 _ => rem_rnil o.s w0
    rw [if_neg (by omega), if_pos (Or.inl k)]
    exact h
  · have h := doc.arm_get (.pointer none) ⟨none, rfl⟩ o k 0 false doc.Quiet w fun w0 _ => get_rnil o.s w0
    rw [if_neg (by omega), if_pos (Or.inr k)]
    exact h
  · have h := doc.arm_len (.pointer none) ⟨none, rfl⟩ o k [] (by simp) w hA
    rw [if_neg (by omega), if_neg (by omega), if_pos k]
    exact h
  · have h := doc.arm_pages (.pointer none) ⟨none, rfl⟩ o k [] (by simp) (fun n hn => by cases hn) w fun w0 _ => (pages_rnil w0).mono fun e w1 h => by
      obtain ⟨rfl, rfl⟩ := h
      exact ⟨_, rfl, World.ownsRow_nil _ _ _ _, Below.refl _ _⟩
    rw [if_neg (by omega), if_neg (by omega), if_neg (by omega), if_pos k]
    exact h
  · have h := doc.arm_place (.pointer none) ⟨none, rfl⟩ o k 0 0 (by omega) (by omega) false doc.Quiet w fun w0 _ => place_rnil o.s w0
    rw [if_neg (by omega), if_neg (by omega), if_neg (by omega), if_neg (by omega), if_pos k]
    exact h
  · have h := doc.arm_least (.pointer none) ⟨none, rfl⟩ o k [] (fun e he => by cases he) w hU
    rw [if_neg (by omega), if_neg (by omega), if_neg (by omega), if_neg (by omega), if_neg (by omega), if_pos (Or.inl k)]
    exact h
  · have h := doc.arm_greatest (.pointer none) ⟨none, rfl⟩ o k [] (fun e he => by cases he) w hD
    rw [if_neg (by omega), if_neg (by omega), if_neg (by omega), if_neg (by omega), if_neg (by omega), if_pos (Or.inr k)]
    exact h
  · have h := doc.arm_up (.pointer none) ⟨none, rfl⟩ o k hv [] (by simp) (fun e he => by cases he) w hU
    rw [if_neg (by omega), if_neg (by omega), if_neg (by omega), if_neg (by omega), if_neg (by omega), if_neg (by omega)]
    rw [List.take_nil] at h
    exact h
  · have h := doc.arm_down (.pointer none) ⟨none, rfl⟩ o k hv [] (by simp) (fun e he => by cases he) w hD
    rw [if_neg (by omega), if_neg (by omega), if_neg (by omega), if_neg (by omega), if_neg (by omega), if_neg (by omega)]
    rw [List.take_nil] at h
    exact h
  · have h := doc.arm_none (.pointer none) ⟨none, rfl⟩ o k w
    rw [if_neg (by omega), if_neg (by omega), if_neg (by omega), if_neg (by omega), if_neg (by omega), if_neg (by omega)]
    exact h

theorem doc_any (size i : Nat) (hi : i ≤ 1099511) (q : Option Addr) (d : Dx) (o : Opd) (ho : OpOk o) (Z : Nat → Prop) (w : World) (hD : DGood size d i) (hY : HY size q d Z w) (hZ : ∀ k, Z k → k < w.heap.size) :
    Calls Try.prog 47 #[.pointer q, agg o] w (APost (HY size q (stepD size d o)) Z (ansD d o) w) := by
  have hv : 0 ≤ o.v ∧ o.v < 18446744073709551616 := ⟨ho.v.1, by have := ho.v.2; omega⟩
  cases d with
  | none =>
    obtain rfl : q = none := hY
    exact (doc_bare o ho w).mono fun e w' hm => mid_post hm (fun w0 w1 hB0 hp => ⟨(rfl : (none : Option Addr) = none), Ext.of_below hp⟩) (fun Z w1 w2 hh hb => hh)
  | some R =>
    obtain ⟨h4, h64, hG, hN, ht⟩ := hD
    obtain ⟨bx, vr, pvs, rfl, hM⟩ := hY
    have hr := rows_le_total hG
    have hO := hG.ordered
    have htf := total_flat R
    have hl : ∀ i, i < R.length → (pageAt R i).length ≤ size := fun i hi => (hG.full _ (pageAt_mem hi)).2
    have hA : ∀ w0, Below w.heap.size w w0 → Calls Try.prog 87 #[.pointer (some ⟨bx, 0, none⟩)] w0 (AllPost R.flatten w0) := fun w0 hb => all_ref bx size R (by omega) hO (by omega) Z vr pvs w0 (hM.below hb)
    have hU : ∀ w0, Below w.heap.size w w0 → Calls Try.prog _ #[.pointer (some ⟨bx, 0, none⟩), o.s.v] w0 (AllPost (behind' R o.s) w0) := fun w0 hb => by
      rw [← up_flat hG]
      exact up_of _ o.s R.flatten (by omega) hN w0 (fun w1 hb1 => hA w1 (below_trans hb hb1)) ⟨_, rfl⟩
    have hDn : ∀ w0, Below w.heap.size w w0 → Calls Try.prog _ #[.pointer (some ⟨bx, 0, none⟩), o.s.v] w0 (AllPost (downs R o.s) w0) := fun w0 hb => by
      rw [← down_flat hG]
      exact down_of _ o.s R.flatten (by omega) hN w0 (fun w1 hb1 => hA w1 (below_trans hb hb1)) ⟨_, rfl⟩
    have hNU : ∀ e ∈ behind' R o.s, NumV e.v := fun e he => by rw [← up_flat hG] at he; exact hN e (List.mem_filter.1 he).1
    have hND : ∀ e ∈ downs R o.s, NumV e.v := fun e he => by rw [← down_flat hG] at he; exact hN e (List.mem_filter.1 (List.mem_reverse.1 he)).1
    have hlU : (behind' R o.s).length ≤ 274877906 := by rw [← up_flat hG]; have := upR_len o.s R.flatten; omega
    have hlD : (downs R o.s).length ≤ 274877906 := by rw [← down_flat hG]; have := dnR_len o.s R.flatten; omega
    have ep := fun (R' : List (List Ent)) (hs : stepR size R o = R') => hs
    show Calls Try.prog 47 #[.pointer (some ⟨bx, 0, none⟩), agg o] w (APost (HY size (some ⟨bx, 0, none⟩) (some (stepR size R o))) Z (ans R o) w)
    unfold ans
    rcases kinds o.kind with k | k | k | k | k | k | k | k | k | k | k
    · have e1 : stepR size R o = putR size R o.s (.int .u64 o.v) := by unfold stepR; rw [if_pos k]
      rw [e1, if_pos k]
      have h := doc.arm_put (.pointer (some ⟨bx, 0, none⟩)) ⟨_, rfl⟩ o k (!(decide (0 < R.length) && there R o.s)) (fun w0 w1 => ∃ vr' pvs', RMemV w1 bx size (putR size R o.s (.int .u64 o.v)) (fun k => Z k ∨ w0.heap.size ≤ k) vr' pvs' ∧ Ext Z w0 w1) w
        fun w0 hb => put_ref o.s o.v bx size h4 h64 R (by omega) hO hl Z vr pvs w0 (hM.below hb)
      refine h.mono fun e w' hm => mid_post hm (fun w0 w1 hB0 hp => ?_) (fun Z w1 w2 hh hb => HY.below hh hb)
      obtain ⟨vr', pvs', hM', hX⟩ := hp
      exact ⟨⟨bx, vr', pvs', rfl, hM'.cut⟩, hX⟩
    · cases ht' : (decide (0 < R.length) && there R o.s)
      · have e1 : stepR size R o = R := by
          unfold stepR
          rw [if_neg (by omega), if_pos k]
          unfold removeR
          rw [if_neg]
          intro h
          rw [h, Bool.and_true, decide_eq_false_iff_not] at ht'
          obtain rfl : R = [] := List.eq_nil_of_length_eq_zero (by omega)
          cases h
        rw [e1, if_neg (by omega), if_pos (Or.inl k), if_neg (by decide)]
        have h := doc.arm_rem (.pointer (some ⟨bx, 0, none⟩)) ⟨_, rfl⟩ o k 0 false doc.Quiet w fun w0 hb => rem_rnot o.s bx size R (by omega) hO (fun i hi => by have := hl i hi; omega) ht' Z vr pvs w0 (hM.below hb)
        refine h.mono fun e w' hm => mid_post hm (fun w0 w1 hB0 hp => ?_) (fun Z w1 w2 hh hb => HY.below hh hb)
        have hq : Below w0.heap.size w0 w1 := hp
        have s1 := hB0.size
        have s2 := hq.size
        refine ⟨HY.mono (Z := Z) ⟨bx, vr, pvs, rfl, (hM.below hB0).below hq⟩ fun k hk => ⟨Or.inl hk, by have := hZ k hk; omega⟩, Ext.of_below hq⟩
      · obtain ⟨h1, h2⟩ := Bool.and_eq_true_iff.1 ht'
        have hR := of_decide_eq_true h1
        have e1 : stepR size R o = removeR size R o.s := by unfold stepR; rw [if_neg (by omega), if_pos k]
        rw [e1, if_neg (by omega), if_pos (Or.inl k), if_pos rfl]
        have hen : entOf R o.s < (pageAt R (pageOf R o.s)).length := by
          have := (isIn_iff.1 h2).1
          rwa [length_keys] at this
        obtain ⟨num, hnum⟩ := ent_num hN (pageOf_lt (s := o.s) hR) hen
        have h := doc.arm_rem (.pointer (some ⟨bx, 0, none⟩)) ⟨_, rfl⟩ o k num true (fun w0 w1 => ∃ vr' pvs', RMemV w1 bx size (removeR size R o.s) (fun k => Z k ∨ w0.heap.size ≤ k) vr' pvs' ∧ Ext Z w0 w1) w
          fun w0 hb => by
            have := rem_ref o.s bx size h64 R (by omega) hO (fun i hi => by have := hl i hi; omega) hN hR h2 Z vr pvs w0 (hM.below hb)
            rw [hnum] at this
            exact this
        rw [hnum]
        refine h.mono fun e w' hm => mid_post hm (fun w0 w1 hB0 hp => ?_) (fun Z w1 w2 hh hb => HY.below hh hb)
        obtain ⟨vr', pvs', hM', hX⟩ := hp
        exact ⟨⟨bx, vr', pvs', rfl, hM'.cut⟩, hX⟩
    all_goals have e1 : stepR size R o = R := by unfold stepR; rw [if_neg (by omega), if_neg (by omega)]
    all_goals rw [e1]
    · rw [if_neg (by omega), if_pos (Or.inr k)]
      rcases Nat.eq_zero_or_pos R.length with h0 | hR
      · obtain rfl := List.eq_nil_of_length_eq_zero h0
        rw [if_neg (by simp)]
        have h := doc.arm_get (.pointer (some ⟨bx, 0, none⟩)) ⟨_, rfl⟩ o k 0 false doc.Quiet w fun w0 hb => get_rnone o.s bx size Z vr pvs w0 (hM.below hb)
        refine h.mono fun e w' hm => mid_post hm (fun w0 w1 hB0 hp => ?_) (fun Z w1 w2 hh hb => HY.below hh hb)
        have hq : Below w0.heap.size w0 w1 := hp
        have s1 := hB0.size
        have s2 := hq.size
        refine ⟨HY.mono (Z := Z) ⟨bx, vr, pvs, rfl, (hM.below hB0).below hq⟩ fun k hk => ⟨Or.inl hk, by have := hZ k hk; omega⟩, Ext.of_below hq⟩
      · rw [decide_eq_true hR, Bool.true_and]
        cases h2 : there R o.s
        · rw [if_neg (by decide)]
          have h := doc.arm_get (.pointer (some ⟨bx, 0, none⟩)) ⟨_, rfl⟩ o k 0 false doc.Quiet w fun w0 hb => by
            have := get_rsome o.s bx size R hR (by omega) hO (fun i hi => by have := hl i hi; omega) hN Z vr pvs w0 (hM.below hb)
            rw [h2, if_neg (by decide)] at this
            exact this
          refine h.mono fun e w' hm => mid_post hm (fun w0 w1 hB0 hp => ?_) (fun Z w1 w2 hh hb => HY.below hh hb)
          have hq : Below w0.heap.size w0 w1 := hp
          have s1 := hB0.size
          have s2 := hq.size
          refine ⟨HY.mono (Z := Z) ⟨bx, vr, pvs, rfl, (hM.below hB0).below hq⟩ fun k hk => ⟨Or.inl hk, by have := hZ k hk; omega⟩, Ext.of_below hq⟩
        · rw [if_pos rfl]
          have hen : entOf R o.s < (pageAt R (pageOf R o.s)).length := by
            have := (isIn_iff.1 h2).1
            rwa [length_keys] at this
          obtain ⟨num, hnum⟩ := ent_num hN (pageOf_lt (s := o.s) hR) hen
          rw [hnum]
          have h := doc.arm_get (.pointer (some ⟨bx, 0, none⟩)) ⟨_, rfl⟩ o k num true doc.Quiet w fun w0 hb => by
            have := get_rsome o.s bx size R hR (by omega) hO (fun i hi => by have := hl i hi; omega) hN Z vr pvs w0 (hM.below hb)
            rw [h2, if_pos rfl, hnum] at this
            exact this
          refine h.mono fun e w' hm => mid_post hm (fun w0 w1 hB0 hp => ?_) (fun Z w1 w2 hh hb => HY.below hh hb)
          have hq : Below w0.heap.size w0 w1 := hp
          have s1 := hB0.size
          have s2 := hq.size
          refine ⟨HY.mono (Z := Z) ⟨bx, vr, pvs, rfl, (hM.below hB0).below hq⟩ fun k hk => ⟨Or.inl hk, by have := hZ k hk; omega⟩, Ext.of_below hq⟩
    · rw [if_neg (by omega), if_neg (by omega), if_pos k, htf]
      have h := doc.arm_len (.pointer (some ⟨bx, 0, none⟩)) ⟨_, rfl⟩ o k R.flatten (by omega) w hA
      refine h.mono fun e w' hm => mid_post hm (fun w0 w1 hB0 hp => ?_) (fun Z w1 w2 hh hb => HY.below hh hb)
      have hq : Below w0.heap.size w0 w1 := hp
      have s1 := hB0.size
      have s2 := hq.size
      refine ⟨HY.mono (Z := Z) ⟨bx, vr, pvs, rfl, (hM.below hB0).below hq⟩ fun k hk => ⟨Or.inl hk, by have := hZ k hk; omega⟩, Ext.of_below hq⟩
    · rw [if_neg (by omega), if_neg (by omega), if_neg (by omega), if_pos k]
      have h := doc.arm_pages (.pointer (some ⟨bx, 0, none⟩)) ⟨_, rfl⟩ o k (R.map List.length) (by simp; omega) (fun n hn => by obtain ⟨p, hp, rfl⟩ := List.mem_map.1 hn; have := (hG.full p hp).2; omega) w fun w0 hb => by
        have := pages_ref bx size R (by omega) Z vr pvs w0 (hM.below hb)
        rw [show doc.ints (R.map List.length) = R.map fun p => Value.int .i64 p.length by simp [doc.ints], List.length_map]
        exact this
      refine h.mono fun e w' hm => mid_post hm (fun w0 w1 hB0 hp => ?_) (fun Z w1 w2 hh hb => HY.below hh hb)
      have hq : Below w0.heap.size w0 w1 := hp
      have s1 := hB0.size
      have s2 := hq.size
      refine ⟨HY.mono (Z := Z) ⟨bx, vr, pvs, rfl, (hM.below hB0).below hq⟩ fun k hk => ⟨Or.inl hk, by have := hZ k hk; omega⟩, Ext.of_below hq⟩
    · rw [if_neg (by omega), if_neg (by omega), if_neg (by omega), if_neg (by omega), if_pos k]
      rcases Nat.eq_zero_or_pos R.length with h0 | hR
      · obtain rfl := List.eq_nil_of_length_eq_zero h0
        rw [if_neg (by simp)]
        have h := doc.arm_place (.pointer (some ⟨bx, 0, none⟩)) ⟨_, rfl⟩ o k 0 0 (by omega) (by omega) false doc.Quiet w fun w0 hb => place_rnone o.s bx size Z vr pvs w0 (hM.below hb)
        refine h.mono fun e w' hm => mid_post hm (fun w0 w1 hB0 hp => ?_) (fun Z w1 w2 hh hb => HY.below hh hb)
        have hq : Below w0.heap.size w0 w1 := hp
        have s1 := hB0.size
        have s2 := hq.size
        refine ⟨HY.mono (Z := Z) ⟨bx, vr, pvs, rfl, (hM.below hB0).below hq⟩ fun k hk => ⟨Or.inl hk, by have := hZ k hk; omega⟩, Ext.of_below hq⟩
      · rw [if_pos hR]
        have hp := pageOf_lt (s := o.s) hR
        have h := doc.arm_place (.pointer (some ⟨bx, 0, none⟩)) ⟨_, rfl⟩ o k (pageOf R o.s) (entOf R o.s) (by omega) (by have := entOf_le R o.s; have := hl _ hp; omega) (there R o.s) doc.Quiet w
          fun w0 hb => place_rsome o.s bx size R hR (by omega) hO (fun i hi => by have := hl i hi; omega) Z vr pvs w0 (hM.below hb)
        refine h.mono fun e w' hm => mid_post hm (fun w0 w1 hB0 hp => ?_) (fun Z w1 w2 hh hb => HY.below hh hb)
        have hq : Below w0.heap.size w0 w1 := hp
        have s1 := hB0.size
        have s2 := hq.size
        refine ⟨HY.mono (Z := Z) ⟨bx, vr, pvs, rfl, (hM.below hB0).below hq⟩ fun k hk => ⟨Or.inl hk, by have := hZ k hk; omega⟩, Ext.of_below hq⟩
    · rw [if_neg (by omega), if_neg (by omega), if_neg (by omega), if_neg (by omega), if_neg (by omega), if_pos k]
      have h := doc.arm_least (.pointer (some ⟨bx, 0, none⟩)) ⟨_, rfl⟩ o k (behind' R o.s) hNU w hU
      refine h.mono fun e w' hm => mid_post hm (fun w0 w1 hB0 hp => ?_) (fun Z w1 w2 hh hb => HY.below hh hb)
      have hq : Below w0.heap.size w0 w1 := hp
      have s1 := hB0.size
      have s2 := hq.size
      refine ⟨HY.mono (Z := Z) ⟨bx, vr, pvs, rfl, (hM.below hB0).below hq⟩ fun k hk => ⟨Or.inl hk, by have := hZ k hk; omega⟩, Ext.of_below hq⟩
    · rw [if_neg (by omega), if_neg (by omega), if_neg (by omega), if_neg (by omega), if_neg (by omega), if_neg (by omega), if_pos k]
      have h := doc.arm_greatest (.pointer (some ⟨bx, 0, none⟩)) ⟨_, rfl⟩ o k (downs R o.s) hND w hDn
      refine h.mono fun e w' hm => mid_post hm (fun w0 w1 hB0 hp => ?_) (fun Z w1 w2 hh hb => HY.below hh hb)
      have hq : Below w0.heap.size w0 w1 := hp
      have s1 := hB0.size
      have s2 := hq.size
      refine ⟨HY.mono (Z := Z) ⟨bx, vr, pvs, rfl, (hM.below hB0).below hq⟩ fun k hk => ⟨Or.inl hk, by have := hZ k hk; omega⟩, Ext.of_below hq⟩
    · rw [if_neg (by omega), if_neg (by omega), if_neg (by omega), if_neg (by omega), if_neg (by omega), if_neg (by omega), if_neg (by omega), if_pos k]
      have h := doc.arm_up (.pointer (some ⟨bx, 0, none⟩)) ⟨_, rfl⟩ o k hv (behind' R o.s) hlU hNU w hU
      refine h.mono fun e w' hm => mid_post hm (fun w0 w1 hB0 hp => ?_) (fun Z w1 w2 hh hb => HY.below hh hb)
      have hq : Below w0.heap.size w0 w1 := hp
      have s1 := hB0.size
      have s2 := hq.size
      refine ⟨HY.mono (Z := Z) ⟨bx, vr, pvs, rfl, (hM.below hB0).below hq⟩ fun k hk => ⟨Or.inl hk, by have := hZ k hk; omega⟩, Ext.of_below hq⟩
    · rw [if_neg (by omega), if_neg (by omega), if_neg (by omega), if_neg (by omega), if_neg (by omega), if_neg (by omega), if_neg (by omega), if_neg (by omega), if_pos k]
      have h := doc.arm_down (.pointer (some ⟨bx, 0, none⟩)) ⟨_, rfl⟩ o k hv (downs R o.s) hlD hND w hDn
      refine h.mono fun e w' hm => mid_post hm (fun w0 w1 hB0 hp => ?_) (fun Z w1 w2 hh hb => HY.below hh hb)
      have hq : Below w0.heap.size w0 w1 := hp
      have s1 := hB0.size
      have s2 := hq.size
      refine ⟨HY.mono (Z := Z) ⟨bx, vr, pvs, rfl, (hM.below hB0).below hq⟩ fun k hk => ⟨Or.inl hk, by have := hZ k hk; omega⟩, Ext.of_below hq⟩
    · rw [if_neg (by omega), if_neg (by omega), if_neg (by omega), if_neg (by omega), if_neg (by omega), if_neg (by omega), if_neg (by omega), if_neg (by omega), if_neg (by omega)]
      have h := doc.arm_none (.pointer (some ⟨bx, 0, none⟩)) ⟨_, rfl⟩ o k w
      refine h.mono fun e w' hm => mid_post hm (fun w0 w1 hB0 hp => ?_) (fun Z w1 w2 hh hb => HY.below hh hb)
      have hq : Below w0.heap.size w0 w1 := hp
      have s1 := hB0.size
      have s2 := hq.size
      refine ⟨HY.mono (Z := Z) ⟨bx, vr, pvs, rfl, (hM.below hB0).below hq⟩ fun k hk => ⟨Or.inl hk, by have := hZ k hk; omega⟩, Ext.of_below hq⟩
end Go.Proofs.Ytagcohpghgnalaa.QA
