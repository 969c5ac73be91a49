/-
  A region whose order is drawn, walked once in the order of the text, where some of its operations make memory (rely and guarantee): every operation either yields one value in every world that has grown out of the region's first world, or makes a value that meets a predicate which growth keeps. Conditions: the program follows mixedOrders; the order's static checks.
-/
import Derived.StillTail
import Derived.Below
import Derived.WalkKit
import Derived.ProofKit
import Derived.Lib.Hide
import Derived.WalkSpells
import Derived.Laws.CopyRow
import Derived.Laws.CopyOwn
import Derived.Laws.AppendOwn
import Derived.Lib.AppendZerosOnto
import Derived.Test.YtbjofbhhnmehgaaGreatDoorRows
import Derived.Laws.AppendOwnNone
import Derived.RangeFuncRecord
import Derived.LoopN
import Derived.Lib.EndianBits
import Derived.WalkMore
import Derived.Maps.OwnSet
import Derived.Maps.RangeWalk
import Derived.Laws.MakeOwn
import Derived.Laws.Cells
import Derived.Laws.Tables
set_option linter.unusedSimpArgs false
set_option linter.unusedVariables false
namespace Go.RG
open Go.RowKit

/-- what is known of a slot's value in a world -/
abbrev Spec := Value → World → Prop
abbrev Facts := Nat → Spec
def Facts.empty : Facts := fun _ _ _ => True
def Facts.set (Γ : Facts) (d : Option Tmp) (S : Spec) : Facts := fun t => if d = some t then S else Γ t
def Spec.any : Spec := fun _ _ => True
/-- growth keeps it -/
def Spec.stable (S : Spec) : Prop := ∀ v w w', S v w → Below w.heap.size w w' → S v w'
def Facts.stable (Γ : Facts) : Prop := ∀ t, Spec.stable (Γ t)
def Facts.ok (Γ : Facts) (a : Act) (w : World) : Prop := ∀ t, t < a.tmps.size → Γ t (a.tmps.getD t undef) w

theorem Spec.any_stable : Spec.stable Spec.any := fun _ _ _ _ _ => trivial
theorem Facts.empty_stable : Facts.stable Facts.empty := fun _ _ _ _ _ _ => trivial
theorem Facts.empty_ok (a : Act) (w : World) : Facts.empty.ok a w := fun _ _ => trivial
theorem Facts.set_stable {Γ : Facts} {d : Option Tmp} {S : Spec} (h : Γ.stable) (hS : Spec.stable S) : (Γ.set d S).stable := by
  intro t
  unfold Facts.set
  split
  · exact hS
  · exact h t
theorem Facts.ok_grow {Γ : Facts} {a : Act} {w w' : World} (h : Γ.ok a w) (hs : Γ.stable) (hb : Below w.heap.size w w') : Γ.ok a w' :=
  fun t ht => hs t _ _ _ (h t ht) hb
theorem Act.size_put (a : Act) (d : Option Tmp) (v : Value) : (a.put d v).tmps.size = a.tmps.size := by
  cases d <;> simp [Act.put]
theorem Act.getD_put_ne {a : Act} {d : Option Tmp} {v : Value} {t : Nat} (h : d ≠ some t) : (a.put d v).tmps.getD t undef = a.tmps.getD t undef := by
  cases d with
  | none => rfl
  | some d =>
    have : d ≠ t := fun e => h (by rw [e])
    simp [Act.put, Array.getElem?_setIfInBounds_ne this]
theorem Act.getD_put_eq {a : Act} {v : Value} {t : Nat} (h : t < a.tmps.size) : (a.put (some t) v).tmps.getD t undef = v := by
  simp [Act.put, h]
theorem Facts.ok_set {Γ : Facts} {a : Act} {w : World} {d : Option Tmp} {S : Spec} {v : Value} (h : Γ.ok a w) (hS : S v w) : (Γ.set d S).ok (a.put d v) w := by
  intro t ht
  rw [Act.size_put] at ht
  unfold Facts.set
  by_cases hd : d = some t
  · rw [if_pos hd]
    subst hd
    rw [Act.getD_put_eq ht]
    exact hS
  · rw [if_neg hd, Act.getD_put_ne hd]
    exact h t ht

section
variable (P : Program) (ops : Array Oper)

/-- what is known of the slots that an operation looks at -/
def facts (o : Oper) (Γ : Facts) (a : Act) (w : World) : Prop := ∀ t, t ∈ o.looksAt ops → t < a.tmps.size → Γ t (a.tmps.getD t undef) w

/-- what an operation comes to, where it makes a value -/
def makesUpon (R : Value → World → Prop) : Result Next → Prop
  | .ok (.value v) w' => R v w'
  | .ok .skip w' => R undef w'
  | .ok (.enter f args) w' => Calls P f args w' fun e w'' => ∃ v, e = .returned v ∧ R v w''
  | _ => False
def makes (o : Oper) (a : Act) (w : World) (R : Value → World → Prop) : Prop := makesUpon P R ((execOp a.eval o).run P w)

/-- one value, in every world grown out of 'base' -/
def YF (base : World) (Γ : Facts) (o : Oper) (a : Act) (v : Value) : Prop :=
  (Region.wanted o (yielded ops a.tmps) = true ∧ ∀ w, Below base.heap.size base w → facts ops o Γ a w → (execOp a.eval o).run P w = .ok (.value v) w) ∨
  (Region.wanted o (yielded ops a.tmps) = false ∧ v = undef)
/-- a value that meets S -/
def YM (base : World) (Γ : Facts) (o : Oper) (a : Act) (S : Spec) : Prop :=
  Region.wanted o (yielded ops a.tmps) = true ∧ Spec.stable S ∧
  ∀ w, Below base.heap.size base w → facts ops o Γ a w → makes P o a w fun v w' => Below w.heap.size w w' ∧ S v w'

variable (base : World) (sp : Nat → Option Spec)

def sStep (i : Nat) (o : Oper) (K : Facts → Act → World → Prop) (Γ : Facts) (a : Act) (w : World) : Prop :=
  ((sp i = none ∨ Region.wanted o (yielded ops a.tmps) = false) ∧ ∃ v, YF P ops base Γ o a v ∧ K (Γ.set o.dst Spec.any) (a.put o.dst v) w) ∨
  (∃ S, sp i = some S ∧ YM P ops base Γ o a S ∧ ∀ v w', Below w.heap.size w w' → S v w' → K (Γ.set o.dst S) (a.put o.dst v) w')

/-- whatever order is picked from here on, among the first n operations -/
def rgAny (md : Region.Mode) (n : Nat) (L : Array Bool → Act → World → Prop) : Nat → Array Bool → Facts → Act → World → Prop
  | 0, listed, _, a, w => L listed a w
  | f + 1, listed, Γ, a, w =>
    Region.ready md ops listed ≠ [] ∧ ∀ i ∈ Region.ready md ops listed, i < n ∧ ∃ o, ops[i]? = some o ∧
      sStep P ops base sp i o (rgAny md n L f (listed.setIfInBounds i true)) Γ a w

/-- the walk in the order of the text; k: the number of the first operation -/
def rgLex (Q : Act → World → Prop) : List Oper → Nat → Facts → Act → World → Prop
  | [], _, _, a, w => Q a w
  | o :: rest, k, Γ, a, w => sStep P ops base sp k o (rgLex Q rest (k + 1)) Γ a w
end

section
variable {P : Program} {ops : Array Oper} {base : World} {sp : Nat → Option Spec} {md : Region.Mode}

theorem below_trans {a b c : World} (h : Below a.heap.size a b) (k : Below b.heap.size b c) : Below a.heap.size a c := h.trans (k.mono h.size)

theorem wp_of_makes {o : Oper} {a : Act} {w : World} {R : Value → World → Prop} {K : Act → World → Prop} {Q : Exit → Act → World → Prop}
    (h : makes P o a w R) (hK : ∀ v w', R v w' → K (a.put o.dst v) w') : o.wp P a w K Q := by
  unfold makes at h
  unfold Oper.wp
  generalize (execOp a.eval o).run P w = r at *
  cases r with
  | ok n w' =>
    cases n <;> simp only [makesUpon] at h <;> simp only [Oper.upon]
    case value v => exact hK _ _ h
    case skip => exact hK _ _ h
    case enter f args => exact h.mono fun e w'' ⟨v, he, hv⟩ => by subst he; exact hK _ _ hv
  | halt x w' => simp only [makesUpon] at h

theorem makes_exists {o : Oper} {a : Act} {w : World} {R : Value → World → Prop} (h : makes P o a w R) : ∃ v w', R v w' := by
  unfold makes at h
  generalize (execOp a.eval o).run P w = r at *
  cases r with
  | ok n w' =>
    cases n <;> simp only [makesUpon] at h
    case value v => exact ⟨_, _, h⟩
    case skip => exact ⟨_, _, h⟩
    case enter f args =>
      obtain ⟨e, w'', fr, ⟨v, _, hv⟩, _⟩ := h []
      exact ⟨v, w'', hv⟩
  | halt x w' => simp only [makesUpon] at h

/-- it is a wpAny -/
theorem wpAny_of_rg {n g : Nat} {L : Array Bool → Act → World → Prop} {Q : Exit → Act → World → Prop}
    (hL : ∀ listed a w, L listed a w → wpAny P md ops Q g listed a w) :
    ∀ (f : Nat) (listed : Array Bool) (Γ : Facts) (a : Act) (w : World), Below base.heap.size base w → Γ.ok a w → Γ.stable →
      rgAny P ops base sp md n L f listed Γ a w → wpAny P md ops Q (f + g) listed a w
  | 0, listed, Γ, a, w, _, _, _, h => by rw [Nat.zero_add]; exact hL _ _ _ h
  | f + 1, listed, Γ, a, w, hC, hok, hst, h => by
    rw [show f + 1 + g = (f + g) + 1 by omega]
    refine ⟨fun h0 => absurd h0 h.1, fun i hi => ?_⟩
    obtain ⟨_, o, ho, hs⟩ := h.2 i hi
    have hfacts : facts ops o Γ a w := fun t _ ht => hok t ht
    unfold wpOp
    simp only [ho]
    rcases hs with ⟨_, v, hy, hK⟩ | ⟨S, _, ⟨hw, hSs, hm⟩, hK⟩
    · have hgo := wpAny_of_rg hL f _ _ _ _ hC (Facts.ok_set (S := Spec.any) hok trivial) (Facts.set_stable hst Spec.any_stable) hK
      rcases hy with ⟨hw, hr⟩ | ⟨hw, rfl⟩
      · rw [if_pos hw]
        refine .inl ?_
        unfold Oper.wp
        rw [hr w hC hfacts]
        exact hgo
      · rw [if_neg (by simp [hw])]
        exact hgo
    · rw [if_pos hw]
      refine .inl (wp_of_makes (hm w hC hfacts) fun v w' ⟨hb, hS⟩ => ?_)
      exact wpAny_of_rg hL f _ _ _ _ (below_trans hC hb) (Facts.ok_set (Facts.ok_grow hok hst hb) hS) (Facts.set_stable hst hSs) (hK v w' hb hS)

theorem facts_put {oi oj : Oper} {Γ : Facts} {S : Spec} {a : Act} {v : Value} {w : World} (h : ∀ d, oi.dst = some d → d ∉ oj.looksAt ops) :
    facts ops oj (Γ.set oi.dst S) (a.put oi.dst v) w ↔ facts ops oj Γ a w := by
  unfold facts
  constructor
  · intro hf t ht hlt
    have hne : oi.dst ≠ some t := fun e => h t e ht
    have := hf t ht (by rw [Act.size_put]; exact hlt)
    rwa [Act.getD_put_ne hne, Facts.set, if_neg hne] at this
  · intro hf t ht hlt
    have hne : oi.dst ≠ some t := fun e => h t e ht
    rw [Act.size_put] at hlt
    have := hf t ht hlt
    rwa [Act.getD_put_ne hne, Facts.set, if_neg hne]

theorem YF_put {oi oj : Oper} {Γ : Facts} {S : Spec} {a : Act} {v u : Value} (hsj : ∀ cs b, oj.op ≠ .select cs b) (h : ∀ d, oi.dst = some d → d ∉ oj.looksAt ops) :
    YF P ops base (Γ.set oi.dst S) oj (a.put oi.dst v) u ↔ YF P ops base Γ oj a u := by
  unfold YF
  rw [wanted_put oj a oi.dst v h, execOp_put oj hsj a oi.dst v h]
  simp only [facts_put h]

theorem YM_put {oi oj : Oper} {Γ : Facts} {S T : Spec} {a : Act} {v : Value} (hsj : ∀ cs b, oj.op ≠ .select cs b) (h : ∀ d, oi.dst = some d → d ∉ oj.looksAt ops) :
    YM P ops base (Γ.set oi.dst S) oj (a.put oi.dst v) T ↔ YM P ops base Γ oj a T := by
  unfold YM makes
  rw [wanted_put oj a oi.dst v h, execOp_put oj hsj a oi.dst v h]
  simp only [facts_put h]

theorem Facts.set_comm {Γ : Facts} {d e : Option Tmp} {S T : Spec} (h : ∀ x, d = some x → e ≠ some x) : (Γ.set d S).set e T = (Γ.set e T).set d S := by
  funext t
  unfold Facts.set
  by_cases h1 : e = some t
  · have h2 : d ≠ some t := fun hd => h t hd h1
    rw [if_pos h1, if_neg h2, if_pos h1]
  · rw [if_neg h1, if_neg h1]

theorem YF_unique {o : Oper} {Γ Γ' : Facts} {a : Act} {v u : Value} {w : World} (hC : Below base.heap.size base w) (hf : facts ops o Γ a w) (hf' : facts ops o Γ' a w)
    (h : YF P ops base Γ o a v) (h' : YF P ops base Γ' o a u) : v = u := by
  rcases h with ⟨hw, h⟩ | ⟨hw, rfl⟩ <;> rcases h' with ⟨hw', h'⟩ | ⟨hw', rfl⟩
  · have e := (h w hC hf).symm.trans (h' w hC hf')
    injection e with e1 _
    injection e1
  · rw [hw] at hw'; cases hw'
  · rw [hw] at hw'; cases hw'
  · rfl

/-- an operation that may come up now may be taken first -/
theorem rg_first {n i : Nat} {oi : Oper} {L : Array Bool → Act → World → Prop} (hi : ops[i]? = some oi)
    (hsel : ∀ (j : Nat) (o : Oper) cs b, ops[j]? = some o → o.op ≠ .select cs b)
    (Inv : Array Bool → Prop) (hInv : ∀ listed j, Inv listed → j ∈ Region.ready md ops listed → j < n → Inv (listed.setIfInBounds j true))
    (hhead : ∀ listed, Inv listed → listed.getD i true = false → ∀ j ∈ Region.ready md ops listed, j < n)
    (hdone : ∀ listed a w, L listed a w → ∀ j ∈ Region.ready md ops listed, n ≤ j) :
    ∀ (f : Nat) (listed : Array Bool) (Γ : Facts) (a : Act) (w : World), Inv listed →
      (∀ j oj, ops[j]? = some oj → j ≠ i → listed.getD j true = false → (∀ e ∈ oj.after, Region.binds md e = true → e.on ≠ i) → oi.apart ops oj = true) →
      i ∈ Region.ready md ops listed → Below base.heap.size base w → Γ.ok a w → Γ.stable →
      sStep P ops base sp i oi (rgAny P ops base sp md n L f (listed.setIfInBounds i true)) Γ a w → rgAny P ops base sp md n L (f + 1) listed Γ a w := by
  intro f
  induction f with
  | zero =>
    intro listed Γ a w inv _ hr hC hok hst H
    have hun := (mem_ready.1 hr).1
    refine ⟨fun h => (by rw [h] at hr; cases hr), fun j hj => ?_⟩
    have hjn : j < n := hhead listed inv hun j hj
    refine ⟨hjn, ?_⟩
    by_cases hji : j = i
    · subst hji; exact ⟨oi, hi, H⟩
    · exfalso
      have hex : ∃ a w, L (listed.setIfInBounds i true) a w := by
        rcases H with ⟨_, v, _, hK⟩ | ⟨S, _, ⟨_, _, hm⟩, hK⟩
        · exact ⟨_, _, hK⟩
        · obtain ⟨v, w', hb, hS⟩ := makes_exists (hm w hC (fun t _ ht => hok t ht))
          exact ⟨_, _, hK v w' hb hS⟩
      obtain ⟨a', w', hL⟩ := hex
      have := hdone _ _ _ hL j (ready_mono hj hji)
      omega
  | succ f ih =>
    intro listed Γ a w inv hfree hr hC hok hst H
    have hun := (mem_ready.1 hr).1
    refine ⟨fun h => (by rw [h] at hr; cases hr), fun j hj => ?_⟩
    have hjn : j < n := hhead listed inv hun j hj
    refine ⟨hjn, ?_⟩
    by_cases hji : j = i
    · subst hji; exact ⟨oi, hi, H⟩
    obtain ⟨hjun, oj, hoj, hall⟩ := mem_ready.1 hj
    refine ⟨oj, hoj, ?_⟩
    have hnot : ∀ e ∈ oj.after, Region.binds md e = true → e.on ≠ i := fun e he hb heq => by
      have h1 := hall e he hb
      rw [heq, getD_both hun] at h1
      cases h1
    obtain ⟨ap1, ap2, ap3⟩ := Oper.apart_spec (hfree j oj hoj hji hjun hnot)
    have hsi := fun cs b => hsel i oi cs b hi
    have hsj := fun cs b => hsel j oj cs b hoj
    have hfree' : ∀ k ok, ops[k]? = some ok → k ≠ i → (listed.setIfInBounds j true).getD k true = false →
        (∀ e ∈ ok.after, Region.binds md e = true → e.on ≠ i) → oi.apart ops ok = true := fun k ok hk hki hun hno => by
      refine hfree k ok hk hki ?_ hno
      by_cases hjk : j = k
      · subst hjk; exact hjun
      · rw [getD_set_ne true hjk] at hun; exact hun
    have IH := fun Γ' a' w' => ih (listed.setIfInBounds j true) Γ' a' w' (hInv _ _ inv hj hjn) hfree' (ready_mono hr (Ne.symm hji))
    have hjr := ready_mono hj hji
    have hcomm : (listed.setIfInBounds j true).setIfInBounds i true = (listed.setIfInBounds i true).setIfInBounds j true := Array.setIfInBounds_comm _ _ hji
    -- what i's step leaves
    rcases H with ⟨hspi, v, hy, hK⟩ | ⟨S, hspi, hy, hK⟩
    · obtain ⟨oj', hoj', hj1⟩ := (hK.2 j hjr).2
      obtain rfl : oj' = oj := Option.some.inj (hoj'.symm.trans hoj)
      rcases hj1 with ⟨hspj, u, hyj, hKj⟩ | ⟨T, hspj, hyj, hKj⟩
      · refine .inl ⟨by rw [wanted_put oj' a oi.dst v ap1] at hspj; exact hspj, u, (YF_put hsj ap1).1 hyj, ?_⟩
        refine IH _ _ _ hC (Facts.ok_set (S := Spec.any) hok trivial) (Facts.set_stable hst Spec.any_stable) (.inl ⟨?_, v, ?_, ?_⟩)
        · rw [wanted_put oi a oj'.dst u ap3]; exact hspi
        · exact (YF_put hsi ap3).2 hy
        · rw [hcomm, ← Act.put_comm a v u ap2, ← Facts.set_comm ap2]; exact hKj
      · refine .inr ⟨T, hspj, (YM_put hsj ap1).1 hyj, fun u w' hb hT => ?_⟩
        refine IH _ _ _ (below_trans hC hb) (Facts.ok_set (Facts.ok_grow hok hst hb) hT) (Facts.set_stable hst hyj.2.1) (.inl ⟨?_, v, ?_, ?_⟩)
        · rw [wanted_put oi a oj'.dst u ap3]; exact hspi
        · exact (YF_put hsi ap3).2 hy
        · rw [hcomm, ← Act.put_comm a v u ap2, ← Facts.set_comm ap2]; exact hKj u w' hb hT
    · obtain ⟨vs, ws, hbs, hSs⟩ := makes_exists (hy.2.2 w hC (fun t _ ht => hok t ht))
      obtain ⟨oj', hoj', hj1⟩ := ((hK vs ws hbs hSs).2 j hjr).2
      obtain rfl : oj' = oj := Option.some.inj (hoj'.symm.trans hoj)
      rcases hj1 with ⟨hspj, u, hyj, hKj⟩ | ⟨T, hspj, hyj, hKj⟩
      · have hyj' := (YF_put hsj ap1).1 hyj
        have hspj' : sp j = none ∨ Region.wanted oj' (yielded ops a.tmps) = false := by rw [wanted_put oj' a oi.dst vs ap1] at hspj; exact hspj
        refine .inl ⟨hspj', u, hyj', ?_⟩
        refine IH _ _ _ hC (Facts.ok_set (S := Spec.any) hok trivial) (Facts.set_stable hst Spec.any_stable) (.inr ⟨S, hspi, (YM_put hsi ap3).2 hy, fun v w' hb hS => ?_⟩)
        rw [hcomm, ← Act.put_comm a v u ap2, ← Facts.set_comm ap2]
        obtain ⟨oj'', hoj'', hj2⟩ := ((hK v w' hb hS).2 j hjr).2
        obtain rfl : oj'' = oj' := Option.some.inj (hoj''.symm.trans hoj)
        rcases hj2 with ⟨_, u', hyj2, hKj2⟩ | ⟨T, hspT, hyj2, _⟩
        · have hyj2' := (YF_put hsj ap1).1 hyj2
          obtain rfl : u = u' := YF_unique hC (fun t _ ht => hok t ht) (fun t _ ht => hok t ht) hyj' hyj2'
          exact hKj2
        · exfalso
          have hw2 := ((YM_put (S := S) (v := v) hsj ap1).1 hyj2).1
          rcases hspj' with h | h
          · rw [h] at hspT; cases hspT
          · rw [h] at hw2; cases hw2
      · have hyj' := (YM_put hsj ap1).1 hyj
        refine .inr ⟨T, hspj, hyj', fun u w' hb hT => ?_⟩
        refine IH _ _ _ (below_trans hC hb) (Facts.ok_set (Facts.ok_grow hok hst hb) hT) (Facts.set_stable hst hyj'.2.1) (.inr ⟨S, hspi, (YM_put hsi ap3).2 hy, fun v w'' hb2 hS => ?_⟩)
        rw [hcomm, ← Act.put_comm a v u ap2, ← Facts.set_comm ap2]
        have hbb : Below w.heap.size w w'' := below_trans hb hb2
        obtain ⟨oj'', hoj'', hj2⟩ := ((hK v w'' hbb hS).2 j hjr).2
        obtain rfl : oj'' = oj' := Option.some.inj (hoj''.symm.trans hoj)
        rcases hj2 with ⟨hsp2, _, _, _⟩ | ⟨T', hspT, hyj2, hKj2⟩
        · exfalso
          rw [wanted_put oj'' a oi.dst v ap1] at hsp2
          have hw2 := hyj'.1
          rcases hsp2 with h | h
          · rw [h] at hspj; cases hspj
          · rw [h] at hw2; cases hw2
        · obtain rfl : T' = T := Option.some.inj (hspT.symm.trans hspj)
          exact hKj2 u w'' (Below.refl _ _) (hyj'.2.1 _ _ _ hT hb2)

/-- the order of the text serves every order: the first n operations -/
theorem rg_lex {n g : Nat} {Lq : Act → World → Prop} (hsel : Region.noSelect ops = true) (L : Array Bool → Act → World → Prop)
    (Inv : Array Bool → Prop) (hInv : ∀ listed j, Inv listed → j ∈ Region.ready md ops listed → j < n → Inv (listed.setIfInBounds j true))
    (hhead : ∀ i, i < n → ∀ listed, Inv listed → listed.getD i true = false → ∀ j ∈ Region.ready md ops listed, j < n)
    (hdone : ∀ listed a w, L listed a w → ∀ j ∈ Region.ready md ops listed, n ≤ j)
    (hend : ∀ listed a w, Region.seqB md ops g n listed = true → Lq a w → L listed a w) :
    ∀ (l : List Oper) (k : Nat) (listed : Array Bool) (Γ : Facts) (a : Act) (w : World), (∀ j, j < l.length → l[j]? = ops[k + j]?) → k + l.length = n → Inv listed →
    Region.lexHead md ops g l.length k listed = true → Below base.heap.size base w → Γ.ok a w → Γ.stable → rgLex P ops base sp Lq l k Γ a w →
    rgAny P ops base sp md n L l.length listed Γ a w
  | [], k, listed, Γ, a, w, _, hk, _, hB, _, _, _, h => by
    have : k = n := by simpa using hk
    subst this
    exact hend _ _ _ (by simpa [Region.lexHead] using hB) h
  | o :: l, k, listed, Γ, a, w, hl, hk, inv, hB, hC, hok, hst, h => by
    have h0 : ops[k]? = some o := by simpa using (hl 0 (by simp)).symm
    simp only [List.length_cons, Region.lexHead, Bool.and_eq_true] at hB
    obtain ⟨⟨hr, hf⟩, hB'⟩ := hB
    have hkn : k < n := by simp only [List.length_cons] at hk; omega
    have hr' : k ∈ Region.ready md ops listed := by simpa using hr
    have hgo := fun Γ' a' w' => rg_lex hsel L Inv hInv hhead hdone hend l (k + 1) (listed.setIfInBounds k true) Γ' a' w' (fun j hj => by have := hl (j + 1) (by simp; omega); simpa [Nat.add_assoc, Nat.add_comm 1 j] using this)
      (by simp only [List.length_cons] at hk; omega) (hInv _ _ inv hr' hkn) hB'
    refine rg_first h0 (Region.noSelect_spec hsel) Inv hInv (hhead k hkn) hdone l.length listed Γ a w inv (Region.free_spec h0 hf) hr' hC hok hst ?_
    have h' : sStep P ops base sp k o (rgLex P ops base sp Lq l (k + 1)) Γ a w := h
    rcases h' with ⟨h1, v, h2, h3⟩ | ⟨S, h1, h2, h3⟩
    · exact .inl ⟨h1, v, h2, hgo _ _ _ hC (Facts.ok_set (S := Spec.any) hok trivial) (Facts.set_stable hst Spec.any_stable) h3⟩
    · exact .inr ⟨S, h1, h2, fun v w' hb hS => hgo _ _ _ (below_trans hC hb) (Facts.ok_set (Facts.ok_grow hok hst hb) hS) (Facts.set_stable hst h2.2.1) (h3 v w' hb hS)⟩
end

section
variable {P : Program} {sp : Nat → Option Spec} {id : Nat} {Q : Exit → Act → World → Prop} {a : Act} {w : World} {l : List Oper}

/-- **A region that draws, the first n operations in any order, those behind them in the order that is forced.** -/
theorem wp_region_rg_tail (n : Nat) (sp : Nat → Option Spec) (hm : P.follows .mixedOrders = true) (hB : Region.lexTailB .any l.toArray n = true)
    (h : ∀ b, Below w.heap.size w b → b.heap = w.heap → rgLex P l.toArray b sp (fun a' w' => wpList P l.toArray Q (l.drop n) a' w') (l.take n) 0 Facts.empty a b) :
    (Code.region id l.toArray true).wp P Q a w := by
  simp only [Region.lexTailB, Bool.and_eq_true, decide_eq_true_eq] at hB
  obtain ⟨⟨⟨⟨hsel, hn⟩, hs⟩, hc⟩, hlex⟩ := hB
  have htl : (l.take n).length = n := by simp at hn; simp; omega
  have hdl : (l.drop n).length = l.toArray.size - n := by simp
  have inv0 : HeadInv .any l.toArray n (Array.replicate l.toArray.size false) :=
    ⟨by simp, fun j oj _ hl => (by rw [getD_replicate_false] at hl; cases hl), fun t _ ht => getD_in (by simpa using ht) (getD_replicate_false _ _)⟩
  have H := rg_lex (md := .any) (g := l.toArray.size - n) (Lq := fun a' w' => wpList P l.toArray Q (l.drop n) a' w') hsel
    (fun listed' a' w' => Region.seqB .any l.toArray (l.toArray.size - n) n listed' = true ∧ wpList P l.toArray Q (l.drop n) a' w')
    (HeadInv .any l.toArray n) (fun listed j inv hj hjn => inv.set hj hjn) (fun i hin listed inv hun j hj => by
      rcases Nat.lt_or_ge j n with h | h
      · exact h
      · exact absurd hj (tail_waits hs hc hn inv _ i rfl hin hun j h))
    (fun listed a w hL => seqB_ready hL.1) (fun _ _ _ h1 h2 => ⟨h1, h2⟩)
    (l.take n) 0 _ Facts.empty a { w with drawn := w.drawn + 1 } (fun j hj => by
      have hj' : j < n := by rw [htl] at hj; exact hj
      simp [hj']) (by simpa using htl) inv0 (by rw [htl]; exact hlex) (Below.refl _ _) (Facts.empty_ok _ _) Facts.empty_stable
    (h { w with drawn := w.drawn + 1 } ((Below.refl _ _).drew) rfl)
  refine wp_region_any hm ?_
  have := wpAny_of_rg (Q := Q) (g := l.toArray.size - n) (fun listed a' w' hL => by
    have := wpAny_of_seq (md := .any) (Q' := Q) (l.drop n) n listed a' w' (fun j => by simp [List.getElem?_drop]) (by rw [hdl]; exact hL.1) hL.2
    rwa [hdl] at this) _ _ _ _ _ (Below.refl _ _) (Facts.empty_ok _ _) Facts.empty_stable H
  rw [htl, show n + (l.toArray.size - n) = l.toArray.size by simp at hn; simp; omega] at this
  exact this

/-- the static check for a region without a tail -/
def lexAllB (ops : Array Oper) : Bool := Region.noSelect ops && Region.lexHead .any ops 0 ops.size 0 (Array.replicate ops.size false)

/-- **A region that draws, all its operations in any order.** -/
theorem wp_region_rg (sp : Nat → Option Spec) (hm : P.follows .mixedOrders = true) (hB : lexAllB l.toArray = true)
    (h : ∀ b, Below w.heap.size w b → b.heap = w.heap → rgLex P l.toArray b sp (fun a' w' => Q .normal a' w') l 0 Facts.empty a b) :
    (Code.region id l.toArray true).wp P Q a w := by
  simp only [lexAllB, Bool.and_eq_true] at hB
  obtain ⟨hsel, hlex⟩ := hB
  have hsz : l.toArray.size = l.length := by simp
  have H := rg_lex (md := .any) (n := l.length) (g := 0) (Lq := fun a' w' => Q .normal a' w') hsel
    (fun listed' a' w' => Region.ready .any l.toArray listed' = [] ∧ Q .normal a' w')
    (fun _ => True) (fun _ _ _ _ _ => trivial) (fun i _ listed _ _ j hj => by
      obtain ⟨_, o, ho, _⟩ := mem_ready.1 hj
      have := (Array.getElem?_eq_some_iff.1 ho).1
      simpa using this)
    (fun listed a w hL j hj => by rw [hL.1] at hj; cases hj) (fun listed a' w' h1 h2 => ⟨by simpa [Region.seqB] using h1, h2⟩)
    l 0 _ Facts.empty a { w with drawn := w.drawn + 1 } (fun j _ => by simp) (by simp) trivial (by rw [← hsz]; exact hlex) (Below.refl _ _) (Facts.empty_ok _ _) Facts.empty_stable
    (h { w with drawn := w.drawn + 1 } ((Below.refl _ _).drew) rfl)
  refine wp_region_any hm ?_
  have := wpAny_of_rg (Q := Q) (g := 0) (fun listed a' w' hL => ⟨hL.1, hL.2⟩) _ _ _ _ _ (Below.refl _ _) (Facts.empty_ok _ _) Facts.empty_stable H
  rw [hsz]
  simpa using this

/-! ### The steps of the walk -/
variable {ops : Array Oper} {b : World} {q : Act → World → Prop} {o : Oper} {rest : List Oper} {k : Nat} {Γ : Facts}

theorem lex_nil (h : q a w) : rgLex P ops b sp q [] k Γ a w := h
/-- one value in every world that has grown out of b -/
theorem lex_float (v : Value) (hs : sp k = none) (hw : Region.wanted o (yielded ops a.tmps) = true)
    (h : ∀ w1, Below b.heap.size b w1 → facts ops o Γ a w1 → (execOp a.eval o).run P w1 = .ok (.value v) w1)
    (hn : rgLex P ops b sp q rest (k + 1) (Γ.set o.dst Spec.any) (a.put o.dst v) w) : rgLex P ops b sp q (o :: rest) k Γ a w :=
  .inl ⟨.inl hs, v, .inl ⟨hw, h⟩, hn⟩
theorem lex_move (x : Operand) (ho : o.op = .move x ∨ o.op = .assign x) (hs : sp k = none) (hw : Region.wanted o (yielded ops a.tmps) = true)
    (hn : rgLex P ops b sp q rest (k + 1) (Γ.set o.dst Spec.any) (a.put o.dst (a.eval x)) w) : rgLex P ops b sp q (o :: rest) k Γ a w :=
  lex_float (a.eval x) hs hw (fun w1 _ _ => by rcases ho with h | h <;> simp [execOp, h]) hn
theorem lex_skip (hw : Region.wanted o (yielded ops a.tmps) = false)
    (hn : rgLex P ops b sp q rest (k + 1) (Γ.set o.dst Spec.any) (a.put o.dst undef) w) : rgLex P ops b sp q (o :: rest) k Γ a w :=
  .inl ⟨.inr hw, undef, .inr ⟨hw, rfl⟩, hn⟩
theorem lex_make (S : Spec) (hs : sp k = some S) (hst : Spec.stable S) (hw : Region.wanted o (yielded ops a.tmps) = true)
    (h : ∀ w1, Below b.heap.size b w1 → facts ops o Γ a w1 → makes P o a w1 fun v w' => Below w1.heap.size w1 w' ∧ S v w')
    (hn : ∀ v w', Below w.heap.size w w' → S v w' → rgLex P ops b sp q rest (k + 1) (Γ.set o.dst S) (a.put o.dst v) w') : rgLex P ops b sp q (o :: rest) k Γ a w :=
  .inr ⟨S, hs, ⟨hw, hst, h⟩, hn⟩
end
end Go.RG
namespace Go.Hp
open Go.RowKit Go.RG

/-- of the blocks that were there, those outside S are as they were -/
structure Ext (S : Nat → Prop) (w w' : World) : Prop where
  os : w'.os = w.os
  tape : w'.tape = w.tape
  output : w'.output = w.output
  size : w.heap.size ≤ w'.heap.size
  block : ∀ k, k < w.heap.size → ¬ S k → w'.heap[k]? = w.heap[k]?

theorem Ext.refl (S : Nat → Prop) (w : World) : Ext S w w := ⟨rfl, rfl, rfl, Nat.le_refl _, fun _ _ _ => rfl⟩
theorem Ext.of_below {S : Nat → Prop} {w w' : World} (h : Below w.heap.size w w') : Ext S w w' := ⟨h.os, h.tape, h.output, h.size, fun k hk _ => h.block k hk⟩
theorem Ext.to_belowAt {w w' : World} {S : Nat → Prop} {B : Nat} (h : Ext S w w') (hB : B ≤ w.heap.size) (hS : ∀ k, k < B → ¬ S k) : Below B w w' :=
  ⟨h.os, h.tape, h.output, h.size, fun k hk => h.block k (Nat.lt_of_lt_of_le hk hB) (hS k hk)⟩
theorem Ext.mono {S S' : Nat → Prop} {w w' : World} (h : Ext S w w') (hS : ∀ k, k < w.heap.size → S k → S' k) : Ext S' w w' :=
  ⟨h.os, h.tape, h.output, h.size, fun k hk hn => h.block k hk (fun hs => hn (hS k hk hs))⟩
theorem Ext.trans {S S' : Nat → Prop} {a b c : World} (h : Ext S a b) (k : Ext S' b c) (hS : ∀ k, k < a.heap.size → S' k → S k) : Ext S a c :=
  ⟨k.os.trans h.os, k.tape.trans h.tape, k.output.trans h.output, Nat.le_trans h.size k.size,
   fun i hi hn => (k.block i (Nat.lt_of_lt_of_le hi h.size) (fun hs => hn (hS i hi hs))).trans (h.block i hi hn)⟩
theorem Ext.grown {w w' : World} {row : Option Nat} {S : Nat → Prop} (hg : w.grownBy w' row) (hS : ∀ k, row = some k → k < w.heap.size → S k) : Ext S w w' :=
  ⟨hg.os, hg.tape, hg.output, hg.size, fun k hk hn => hg.block k hk (fun e => hn (hS k e.symm hk))⟩
theorem Ext.setCell {S : Nat → Prop} {w : World} {p : Addr} (hS : S p.block) (u : Value) : Ext S w (w.setCell p u) :=
  ⟨rfl, rfl, rfl, by simp [World.setCell], fun k _ hn => Below.heap_setCell _ _ _ _ (fun e => hn (e ▸ hS))⟩
theorem Ext.cell {S : Nat → Prop} {w w' : World} (h : Ext S w w') {p : Addr} (hp : p.block < w.heap.size) (hn : ¬ S p.block) : w'.cell? p = w.cell? p :=
  World.cell?_of_block (w := w) (h.block p.block hp hn)
theorem Ext.cell_some {S : Nat → Prop} {w w' : World} (h : Ext S w w') {p : Addr} {v : Value} (hc : w.cell? p = some v) (hn : ¬ S p.block) : w'.cell? p = some v := by
  rw [h.cell (block_lt_of_cell hc) hn]; exact hc

theorem below_box (w : World) (o : Obj) : Below w.heap.size w (w.alloc o) := (Below.refl _ w).alloc (Nat.le_refl _) _
theorem below_cell {w w' : World} (h : Below w.heap.size w w') {p : Addr} {v : Value} (hc : w.cell? p = some v) : w'.cell? p = some v := by
  rw [h.cell (block_lt_of_cell hc)]; exact hc
theorem block_lt_of_heap {w : World} {b : Nat} {o : Obj} (h : w.heap[b]? = some o) : b < w.heap.size := (Array.getElem?_eq_some_iff.1 h).1
theorem below_heap {w w' : World} (h : Below w.heap.size w w') {b : Nat} {o : Obj} (hc : w.heap[b]? = some o) : w'.heap[b]? = some o := by
  rw [h.block b (block_lt_of_heap hc)]; exact hc
theorem Ext.heap {S : Nat → Prop} {w w' : World} (h : Ext S w w') {b : Nat} {o : Obj} (hc : w.heap[b]? = some o) (hn : ¬ S b) : w'.heap[b]? = some o := by
  rw [h.block b (block_lt_of_heap hc) hn]; exact hc

/-! ### An owned row in a world that has grown -/
theorem owns_of_block {w w' : World} {base e size n : Nat} {v : Value} {xs : List Value} (h : w.ownsRow base e size v n xs) (hb : ∀ k, v.ownBlock = some k → w'.heap[k]? = w.heap[k]?) : w'.ownsRow base e size v n xs := by
  obtain ⟨h1, h2⟩ := h
  refine ⟨h1, ?_⟩
  rcases h2 with h2 | ⟨g, cap, cur, rfl, hg, hh, hr⟩
  · exact .inl h2
  · exact .inr ⟨g, cap, cur, rfl, hg, by rw [hb g rfl]; exact hh, hr⟩
theorem owns_lt {w : World} {base e size n : Nat} {v : Value} {xs : List Value} (h : w.ownsRow base e size v n xs) {k : Nat} (hk : v.ownBlock = some k) : k < w.heap.size := (h.lt k hk).2
theorem owns_below {w w' : World} {base e size n : Nat} {v : Value} {xs : List Value} (h : w.ownsRow base e size v n xs) (hb : Below w.heap.size w w') : w'.ownsRow base e size v n xs :=
  owns_of_block h fun _ hk => hb.block _ (owns_lt h hk)
theorem owns_ext {S : Nat → Prop} {w w' : World} {base e size n : Nat} {v : Value} {xs : List Value} (h : w.ownsRow base e size v n xs) (hb : Ext S w w') (hn : ∀ k, v.ownBlock = some k → ¬ S k) : w'.ownsRow base e size v n xs :=
  owns_of_block h fun _ hk => hb.block _ (owns_lt h hk) (hn _ hk)
theorem owns_base {w : World} {base base' e size n : Nat} {v : Value} {xs : List Value} (h : w.ownsRow base e size v n xs) (hb : ∀ k, v.ownBlock = some k → base' ≤ k) : w.ownsRow base' e size v n xs := by
  obtain ⟨h1, h2⟩ := h
  refine ⟨h1, ?_⟩
  rcases h2 with h2 | ⟨g, cap, cur, rfl, hg, hr⟩
  · exact .inl h2
  · exact .inr ⟨g, cap, cur, rfl, hb g rfl, hr⟩
/-- its parts, where it is not empty -/
theorem owns_parts {w : World} {base e size n : Nat} {v : Value} {xs : List Value} (h : w.ownsRow base e size v n xs) (hn : 0 < n) :
    ∃ g cap, v = .slice (some ⟨g, 0, none⟩) n cap ∧ base ≤ g ∧ g < w.heap.size ∧ n ≤ cap ∧ cap ≤ maxLen ∧ (∀ j, j < n * size → w.cell? ⟨g, j, none⟩ = xs[j]?) ∧ ∀ j, w.frozen? ⟨g, j, none⟩ = false := by
  have h0 := h
  obtain ⟨_, h2⟩ := h
  rcases h2 with ⟨rfl, rfl⟩ | ⟨g, cap, cur, rfl, hg, hh, hr, hm, _⟩
  · omega
  · exact ⟨g, cap, rfl, hg, block_lt_of_heap hh, hr, hm, fun j hj => h0.cellAt j hj, fun j => h0.frozenAt j⟩
/-- a slice's length and room, whatever it is -/
theorem owns_shape {w : World} {base e size n : Nat} {v : Value} {xs : List Value} (h : w.ownsRow base e size v n xs) : ∃ a cap, v = .slice a n cap ∧ n ≤ cap ∧ cap ≤ maxLen := by
  obtain ⟨_, h2⟩ := h
  rcases h2 with ⟨rfl, rfl⟩ | ⟨g, cap, cur, rfl, _, _, hr, hm, _⟩
  · exact ⟨none, 0, rfl, Nat.le_refl _, Nat.zero_le _⟩
  · exact ⟨_, cap, rfl, hr, hm⟩
theorem owns_length {w : World} {base e size n : Nat} {v : Value} {xs : List Value} (h : w.ownsRow base e size v n xs) : xs.length = n * size := h.1
end Go.Hp
namespace Go.Hp
open Go.RowKit Go.RG

/-- block g is a row of these cells, none of them frozen -/
def Row (w : World) (g : Nat) (e : TypeId) (L : List Value) : Prop := w.heap[g]? = some (.cells L.toArray e (0, 0))

theorem Row.lt {w : World} {g : Nat} {e : TypeId} {L : List Value} (h : Row w g e L) : g < w.heap.size := block_lt_of_heap h
theorem Row.cell {w : World} {g : Nat} {e : TypeId} {L : List Value} (h : Row w g e L) (i : Nat) : w.cell? ⟨g, i, none⟩ = L[i]? := by
  unfold Row at h; simp [World.cell?, h]
theorem Row.frozen {w : World} {g : Nat} {e : TypeId} {L : List Value} (h : Row w g e L) (i : Nat) : w.frozen? ⟨g, i, none⟩ = false := by
  unfold Row at h; simp [World.frozen?, h]
theorem Row.below {w w' : World} {g : Nat} {e : TypeId} {L : List Value} (h : Row w g e L) (hb : Below w.heap.size w w') : Row w' g e L := below_heap hb h
theorem Row.ext {S : Nat → Prop} {w w' : World} {g : Nat} {e : TypeId} {L : List Value} (h : Row w g e L) (hb : Ext S w w') (hn : ¬ S g) : Row w' g e L := hb.heap h hn
theorem row_new (w : World) (L : List Value) (e : TypeId) : Row (w.alloc (.cells L.toArray e)) w.heap.size e L := heap_alloc_new w _
theorem row_put {w : World} {g : Nat} {e : TypeId} {L : List Value} (h : Row w g e L) (L' : List Value) : Row (w.setRow g L'.toArray) g e L' := setRow_heap w g L.toArray L'.toArray e (0, 0) h
theorem ext_setRow (w : World) (g : Nat) (cs : Array Value) : Ext (· = g) w (w.setRow g cs) :=
  ⟨rfl, rfl, rfl, by simp, fun k _ hn => setRow_other w g k cs hn⟩

/-- what is owned lies in a row -/
theorem owns_row {w : World} {base e size n g cap : Nat} {xs : List Value} (h : w.ownsRow base e size (.slice (some ⟨g, 0, none⟩) n cap) n xs) :
    ∃ L, Row w g e L ∧ L.length = cap * size ∧ L.take (n * size) = xs ∧ n ≤ cap ∧ cap ≤ maxLen := by
  obtain ⟨_, h2⟩ := h
  rcases h2 with ⟨h, _⟩ | ⟨g', cap', cur, hv, _, hh, hr, hm, hs, ht⟩
  · cases h
  · injection hv with h1 _ h3
    injection h1 with h1
    injection h1 with h1 _ _
    subst h1 h3
    exact ⟨cur.toList, by unfold Row; simpa using hh, by simpa using hs, ht, hr, hm⟩
theorem owns_of_row {w : World} {base e size n g cap : Nat} {L xs : List Value} (h : Row w g e L) (hl : L.length = cap * size) (hn : n ≤ cap) (hc : cap ≤ maxLen) (hx : L.take (n * size) = xs) (hb : base ≤ g) :
    w.ownsRow base e size (.slice (some ⟨g, 0, none⟩) n cap) n xs := by
  refine ⟨?_, .inr ⟨g, cap, L.toArray, rfl, hb, h, hn, hc, by simpa using hl, hx⟩⟩
  rw [← hx, List.length_take]
  have := Nat.mul_le_mul_right size hn
  omega

section
variable {P : Program}

theorem run_copy_k (w : World) (dT sT ty elem : TypeId) (i : TypeInfo) (size : Nat) (hu : P.underlying dT = some (.slice elem)) (hi : P.info? elem = some i) (hsz : i.size = size)
    (g o dLen dCap : Nat) (a : Addr) (sLen sCap : Nat) (e : TypeId) (L cs : List Value) (hg : Row w g e L) (hn : cs.length = Nat.min sLen dLen * size)
    (hsrc : ∀ j v, cs[j]? = some v → w.cell? (a.add j) = some v) (hfit : o + cs.length ≤ L.length) (h1 : ∀ v ∈ cs, v.oneCell' = true) :
    (Builtin.copy_ #[dT, sT] ty #[.slice (some ⟨g, o, none⟩) dLen dCap, .slice (some a) sLen sCap]).run P w =
      .ok (goInt (Nat.min sLen dLen)) (w.setRow g (splice L o cs).toArray) := by
  have hl := run_loadCells_list (P := P) w a cs hsrc
  have hst := run_storeCells_at P g o e cs 0 L.toArray w hg (by simpa using hfit) h1
  subst hsz
  simp [Builtin.copy_, run_underlying hu, Builtin.lenOf, Builtin.firstCells, sizeOf, typeInfo, hi, ← hn, hl, hst, splice]

theorem run_copy_k_nil (w : World) (dT sT ty elem : TypeId) (i : TypeInfo) (hu : P.underlying dT = some (.slice elem)) (hi : P.info? elem = some i)
    (d : Option Addr) (dLen dCap : Nat) (s : Option Addr) (sLen sCap : Nat) (hn : Nat.min sLen dLen = 0) :
    (Builtin.copy_ #[dT, sT] ty #[.slice d dLen dCap, .slice s sLen sCap]).run P w = .ok (goInt 0) w := by
  have hn' : min sLen dLen = 0 := hn
  cases d <;> cases s <;> simp [Builtin.copy_, run_underlying hu, Builtin.lenOf, Builtin.firstCells, sizeOf, typeInfo, hi, hn, hn', storeCells, loadCells, loadCellsFrom]

theorem zeroCells_one {z : Value} (h1 : ∀ v ∈ z.cells, v.oneCell' = true) (hz : 0 < z.cells.size) (n : Nat) : ∀ v ∈ (Builtin.zeroCells z.cells n).toList, v.oneCell' = true := by
  intro v hv
  simp only [Builtin.zeroCells, Array.toList_map, List.mem_map] at hv
  obtain ⟨j, _, rfl⟩ := hv
  have : j % z.cells.size < z.cells.size := Nat.mod_lt _ hz
  rw [getElem!_pos z.cells _ this]
  exact h1 _ (Array.getElem_mem _)

theorem run_clear_k (w : World) (dT ty elem : TypeId) (i : TypeInfo) (z : Value) (size : Nat) (hu : P.underlying dT = some (.slice elem)) (hi : P.info? elem = some i) (hz : i.zero = some z) (hzs : z.cells.size = size) (hpos : 0 < size)
    (h1 : ∀ v ∈ z.cells, v.oneCell' = true) (g o n c : Nat) (e : TypeId) (L : List Value) (hg : Row w g e L) (hfit : o + n * size ≤ L.length) :
    ∃ zs : List Value, zs.length = n * size ∧ (Builtin.clear_ #[dT] ty #[.slice (some ⟨g, o, none⟩) n c]).run P w = .ok (.tuple #[]) (w.setRow g (splice L o zs).toArray) := by
  have hzl : (Builtin.zeroCells z.cells n).toList.length = n * size := by simp [size_zeroCells, hzs]
  have hst := run_storeCells_at P g o e (Builtin.zeroCells z.cells n).toList 0 L.toArray w hg (by simp only [Array.length_toList] at hzl; simp [hzl]; omega) (zeroCells_one h1 (by omega) n)
  refine ⟨_, hzl, ?_⟩
  cases n with
  | zero =>
    have h0 : (Builtin.zeroCells z.cells 0).toList = [] := List.eq_nil_of_length_eq_zero (by simpa using hzl)
    rw [h0]
    have : splice L o ([] : List Value) = L := by simp [splice]
    rw [this, setRow_self w g L.toArray e (0, 0) hg]
    simp [Builtin.clear_, run_underlying hu]
  | succ n =>
    simp only [Array.length_toList] at hzl
    simp only [Nat.add_zero] at hst
    simp [Builtin.clear_, run_underlying hu, zeroValue, typeInfo, hi, hz, hst, splice]

/-! ### As steps of the walk -/
variable {w : World} {ops : Array Oper} {rest : List Oper} {o : Oper} {a : Act} {Q : Exit → Act → World → Prop}

theorem wpList_value {v : Value} {w' : World} (hgd : o.guard = none) (hr : (execOp a.eval o).run P w = .ok (.value v) w') (h : wpList P ops Q rest (a.put o.dst v) w') : wpList P ops Q (o :: rest) a w := by
  refine wpList_plain hgd fun K hK => ?_
  unfold Oper.wp
  rw [hr]
  exact hK _ _ h
theorem exec_copy (d s : Operand) (t t' : TypeId) (ho : o.op = .call { callee := .builtin .copy, args := #[d, s], argTypes := #[t, t'] }) {v : Value} {w' : World}
    (hr : (Builtin.copy_ #[t, t'] o.type #[a.eval d, a.eval s]).run P w = .ok v w') : (execOp a.eval o).run P w = .ok (.value v) w' := by
  simp [execOp, ho, resolve, invoke, builtin, hr]
theorem exec_clear (d : Operand) (t : TypeId) (ho : o.op = .call { callee := .builtin .clear, args := #[d], argTypes := #[t] }) {v : Value} {w' : World}
    (hr : (Builtin.clear_ #[t] o.type #[a.eval d]).run P w = .ok v w') : (execOp a.eval o).run P w = .ok (.value v) w' := by
  simp [execOp, ho, resolve, invoke, builtin, hr]
theorem exec_append (d s : Operand) (t t' : TypeId) (ho : o.op = .call { callee := .builtin .append, args := #[d, s], argTypes := #[t, t'] }) {v : Value} {w' : World}
    (hr : (Builtin.append_ #[t, t'] o.type #[a.eval d, a.eval s]).run P w = .ok v w') : (execOp a.eval o).run P w = .ok (.value v) w' := by
  simp [execOp, ho, resolve, invoke, builtin, hr]

/-- copy into a row: behind it the row is a splice, all other blocks are as they were -/
theorem wpList_copy_k (hgd : o.guard = none) (d s : Operand) (dT sT : TypeId) (ho : o.op = .call { callee := .builtin .copy, args := #[d, s], argTypes := #[dT, sT] })
    (elem : TypeId) (i : TypeInfo) (size : Nat) (hu : P.underlying dT = some (.slice elem)) (hi : P.info? elem = some i) (hsz : i.size = size)
    (dp sp : Option Addr) (dLen dCap sLen sCap : Nat) (hd : a.eval d = .slice dp dLen dCap) (hs : a.eval s = .slice sp sLen sCap)
    (g off : Nat) (e : TypeId) (L cs : List Value) (hg : Row w g e L) (hn : cs.length = Nat.min sLen dLen * size)
    (hpos : 0 < Nat.min sLen dLen → dp = some ⟨g, off, none⟩ ∧ ∃ ad, sp = some ad ∧ ∀ j v, cs[j]? = some v → w.cell? (ad.add j) = some v)
    (hfit : off + cs.length ≤ L.length) (h1 : ∀ v ∈ cs, v.oneCell' = true)
    (h : ∀ w', Row w' g e (splice L off cs) → Ext (· = g) w w' → wpList P ops Q rest (a.put o.dst (.int .i64 (Nat.min sLen dLen : Nat))) w') :
    wpList P ops Q (o :: rest) a w := by
  by_cases h0 : Nat.min sLen dLen = 0
  · have hc : cs = [] := List.eq_nil_of_length_eq_zero (by rw [hn, h0, Nat.zero_mul])
    subst hc
    refine wpList_value hgd (exec_copy d s dT sT ho (by rw [hd, hs]; exact run_copy_k_nil w dT sT o.type elem i hu hi dp dLen dCap sp sLen sCap h0)) ?_
    have h2 := h w (by simpa [splice] using hg) (Ext.refl _ _)
    rw [h0] at h2
    exact h2
  · obtain ⟨rfl, ad, rfl, hsrc⟩ := hpos (by omega)
    refine wpList_value hgd (exec_copy d s dT sT ho (by rw [hd, hs]; exact run_copy_k w dT sT o.type elem i size hu hi hsz g off dLen dCap ad sLen sCap e L cs hg hn hsrc hfit h1)) ?_
    exact h _ (row_put hg _) (ext_setRow _ _ _)

theorem wpList_clear_k (hgd : o.guard = none) (d : Operand) (dT : TypeId) (ho : o.op = .call { callee := .builtin .clear, args := #[d], argTypes := #[dT] })
    (elem : TypeId) (i : TypeInfo) (z : Value) (size : Nat) (hu : P.underlying dT = some (.slice elem)) (hi : P.info? elem = some i) (hz : i.zero = some z) (hzs : z.cells.size = size) (hpos : 0 < size)
    (h1 : ∀ v ∈ z.cells, v.oneCell' = true) (g off n c : Nat) (hd : a.eval d = .slice (some ⟨g, off, none⟩) n c) (e : TypeId) (L : List Value) (hg : Row w g e L) (hfit : off + n * size ≤ L.length)
    (h : ∀ w' zs, zs.length = n * size → Row w' g e (splice L off zs) → Ext (· = g) w w' → wpList P ops Q rest (a.put o.dst (.tuple #[])) w') : wpList P ops Q (o :: rest) a w := by
  obtain ⟨zs, hl, hr⟩ := run_clear_k (P := P) w dT o.type elem i z size hu hi hz hzs hpos h1 g off n c e L hg hfit
  exact wpList_value hgd (exec_clear d dT ho (by rw [hd]; exact hr)) (h _ zs hl (row_put hg _) (ext_setRow _ _ _))

/-- append where there is room -/
theorem wpList_append_room (hgd : o.guard = none) (d s : Operand) (t : TypeId) (ho : o.op = .call { callee := .builtin .append, args := #[d, s], argTypes := #[t, t] })
    (e : TypeId) (i : TypeInfo) (size : Nat) (ht : P.underlying t = some (.slice e)) (hi : P.info? e = some i) (hsz : i.size = size)
    (g n cap : Nat) (sp : Option Addr) (m c : Nat) (hd : a.eval d = .slice (some ⟨g, 0, none⟩) n cap) (hs : a.eval s = .slice sp m c)
    (L news : List Value) (hg : Row w g e L) (hl : news.length = m * size) (hnews : 0 < m → ∃ ad, sp = some ad ∧ ∀ j v, news[j]? = some v → w.cell? (ad.add j) = some v) (h1 : ∀ v ∈ news, v.oneCell' = true)
    (hroom : n + m ≤ cap) (hfit : n * size + news.length ≤ L.length)
    (h : ∀ w', Row w' g e (splice L (n * size) news) → Ext (· = g) w w' → wpList P ops Q rest (a.put o.dst (.slice (some ⟨g, 0, none⟩) (n + m) cap)) w') : wpList P ops Q (o :: rest) a w := by
  subst hsz
  by_cases h0 : m = 0
  · subst h0
    have hc : news = [] := List.eq_nil_of_length_eq_zero (by rw [hl, Nat.zero_mul])
    subst hc
    have hrun : (Builtin.append_ #[t, t] o.type #[.slice (some ⟨g, 0, none⟩) n cap, .slice sp 0 c]).run P w = .ok (.slice (some ⟨g, 0, none⟩) n cap) w := by
      have hn : n ≤ cap := by omega
      cases sp <;> simp [Builtin.append_, run_underlying ht, sizeOf, typeInfo, hi, Builtin.lenOf, Builtin.firstCells, loadCells, loadCellsFrom, storeCells, hn]
    refine wpList_value hgd (exec_append d s t t ho (by rw [hd, hs]; exact hrun)) ?_
    exact h w (by simpa [splice] using hg) (Ext.refl _ _)
  · obtain ⟨ad, rfl, hsrc⟩ := hnews (by omega)
    have hr := run_append_room (P := P) w t o.type e i ht hi g n cap L.toArray hg ad m c news hl hsrc h1 hroom (by simpa using hfit)
    refine wpList_value hgd (exec_append d s t t ho (by rw [hd, hs]; exact hr)) ?_
    exact h _ (by simpa [splice] using row_put hg (splice L (n * i.size) news)) (ext_setRow _ _ _)

/-- append(s[:n], make([]T, k)...) where there is no room: a new row -/
theorem wpList_append_zeros (hgd : o.guard = none) (d s : Operand) (t tn : TypeId) (ho : o.op = .call { callee := .builtin .append, args := #[d, s], argTypes := #[t, tn] })
    (e : TypeId) (i : TypeInfo) (z : Value) (kq kn : IntKind) (size bytes : Nat) (ht : P.underlying t = some (.slice e)) (htn : P.underlying tn = some (.int kn)) (hi : P.info? e = some i) (hz : i.zero = some z)
    (hsz : i.size = size) (hby : i.bytes = bytes) (hzs : z.cells.size = size) (hpos : 0 < size)
    (g n cap k : Nat) (hd : a.eval d = .slice (some ⟨g, 0, none⟩) n cap) (hs : a.eval s = .int kq k) (L : List Value) (hg : Row w g e L) (hfit : n * size ≤ L.length)
    (h0 : 0 < k) (hroom : cap < n + k) (hmax : n + k ≤ maxLen) (hbytes : (n + k) * bytes ≤ 140737488355328)
    (h : ∀ w' L' cap', Row w' w.heap.size e L' → L'.take (n * size) = L.take (n * size) → L'.length = cap' * size → n + k ≤ cap' → cap' ≤ maxLen → Below w.heap.size w w' →
      wpList P ops Q rest (a.put o.dst (.slice (some ⟨w.heap.size, 0, none⟩) (n + k) cap')) w') : wpList P ops Q (o :: rest) a w := by
  have hm : n + k ≤ 9223372036854775807 := by simp only [maxLen] at hmax; omega
  have holds : ∀ j v, (L.take (n * size))[j]? = some v → w.drew.cell? ((⟨g, 0, none⟩ : Addr).add j) = some v := by
    intro j v hv
    have : L[j]? = some v := by
      rw [List.getElem?_take] at hv
      split at hv
      · exact hv
      · cases hv
    rw [Addr.add_lit, Nat.zero_add]
    show w.cell? _ = _
    rw [hg.cell]; exact this
  have hlen : (L.take (n * size)).length = n * size := by rw [List.length_take]; omega
  have hf := run_firstCells_some (P := P) w.drew size n ⟨g, 0, none⟩ n cap (L.take (n * size)) hlen holds
  have hkb : k * i.bytes ≤ 281474976710656 := by
    rw [hby]
    have := Nat.mul_le_mul_right bytes (show k ≤ n + k by omega)
    omega
  have hr := Lib.run_append_grow_zeros (P := P) w t tn o.type e i z kq kn ht htn hi hz (some ⟨g, 0, none⟩) n cap (L.take (n * size)) (by rw [hsz]; exact hf) k h0 (by omega) hroom (by omega) hkb (by rw [hby]; exact growslice_fits (by omega) hbytes)
  refine wpList_value hgd (exec_append d s t tn ho (by rw [hd, hs]; exact hr)) ?_
  have hge := grownCap_ge w (n + k) cap e
  have hcm := grownCap_le_maxLen w (n + k) cap e hmax
  have hb : Below w.heap.size w (w.drew.alloc (.cells ((L.take (n * size)).toArray ++ Builtin.zeroCells z.cells k ++ Builtin.zeroCells z.cells (grownCap w (n + k) cap e - (n + k))) e)) := (Below.refl _ w).drew.alloc (by simp) _
  refine h _ ((L.take (n * size)) ++ ((Builtin.zeroCells z.cells k).toList ++ (Builtin.zeroCells z.cells (grownCap w (n + k) cap e - (n + k))).toList)) _ ?_ ?_ ?_ hge hcm hb
  · have := row_new w.drew ((L.take (n * size)) ++ ((Builtin.zeroCells z.cells k).toList ++ (Builtin.zeroCells z.cells (grownCap w (n + k) cap e - (n + k))).toList)) e
    have e1 : (L.take (n * size) ++ ((Builtin.zeroCells z.cells k).toList ++ (Builtin.zeroCells z.cells (grownCap w (n + k) cap e - (n + k))).toList)).toArray = (L.take (n * size)).toArray ++ Builtin.zeroCells z.cells k ++ Builtin.zeroCells z.cells (grownCap w (n + k) cap e - (n + k)) := by
      apply Array.ext'; simp
    rw [e1] at this
    exact this
  · rw [List.take_append_of_le_length (by omega), List.take_of_length_le (by omega)]
  · simp only [List.length_append, hlen, Array.length_toList, size_zeroCells, hzs, ← Nat.add_mul]
    congr 1
    omega

/-- append(nil, make([]T, n)...) -/
theorem wpList_append_nil_zeros (hgd : o.guard = none) (d s : Operand) (t tn : TypeId) (ho : o.op = .call { callee := .builtin .append, args := #[d, s], argTypes := #[t, tn] })
    (e : TypeId) (i : TypeInfo) (z : Value) (kq kn : IntKind) (size bytes : Nat) (ht : P.underlying t = some (.slice e)) (htn : P.underlying tn = some (.int kn)) (hi : P.info? e = some i) (hz : i.zero = some z)
    (hsz : i.size = size) (hby : i.bytes = bytes) (hzs : z.cells.size = size) (hpos : 0 < size)
    (n : Nat) (hd : a.eval d = .slice none 0 0) (hs : a.eval s = .int kq n) (h0 : 0 < n) (hmax : n ≤ maxLen) (hbytes : n * bytes ≤ 140737488355328)
    (h : ∀ w' L' cap', Row w' w.heap.size e L' → L'.length = cap' * size → n ≤ cap' → cap' ≤ maxLen → Below w.heap.size w w' →
      wpList P ops Q rest (a.put o.dst (.slice (some ⟨w.heap.size, 0, none⟩) n cap')) w') : wpList P ops Q (o :: rest) a w := by
  have hm : n ≤ 9223372036854775807 := by simp only [maxLen] at hmax; omega
  have hr := Lib.run_append_nil_zeros (P := P) w t tn o.type e i z kq kn ht htn hi hz n h0 (by omega) (by omega) (by rw [hby]; omega)
  refine wpList_value hgd (exec_append d s t tn ho (by rw [hd, hs]; exact hr)) ?_
  have hge := grownCap_ge w n 0 e
  have hcm := grownCap_le_maxLen w n 0 e hmax
  refine h _ ((Builtin.zeroCells z.cells n ++ Builtin.zeroCells z.cells (grownCap w n 0 e - n)).toList) _ ?_ ?_ hge hcm ((Below.refl _ w).drew.alloc (by simp) _)
  · have := row_new w.drew (Builtin.zeroCells z.cells n ++ Builtin.zeroCells z.cells (grownCap w n 0 e - n)).toList e
    rw [Array.toArray_toList] at this
    exact this
  · simp only [Array.toList_append, List.length_append, Array.length_toList, size_zeroCells, hzs, ← Nat.add_mul]
    congr 1
    omega
end
end Go.Hp
namespace Go.Hp
open Go.RowKit Go.RG
variable {P : Program} {w : World}
theorem wpList_append_own2 {ops : Array Oper} {rest : List Oper} {o : Oper} {a : Act} {Q : Exit → Act → World → Prop} (hgd : o.guard = none) (s x : Operand) (t : TypeId)
    (ho : o.op = .call { callee := .builtin .append, args := #[s, x], argTypes := #[t, t] })
    (base : Nat) (e : TypeId) (i : TypeInfo) (z : Value) (size bytes : Nat) (ht : P.underlying t = some (.slice e)) (hi : P.info? e = some i) (hz : i.zero = some z)
    (hsize : i.size = size) (hby : i.bytes = bytes) (hzs : z.cells.size = size) (hsz : 0 < size)
    (g n cap : Nat) (xs : List Value) (hs : a.eval s = .slice (some ⟨g, 0, none⟩) n cap) (hown : w.ownsRow base e size (.slice (some ⟨g, 0, none⟩) n cap) n xs)
    (ad : Addr) (m c : Nat) (news : List Value) (hx : a.eval x = .slice (some ad) m c) (hl : news.length = m * size) (hnews : ∀ j u, news[j]? = some u → w.cell? (ad.add j) = some u) (h1 : ∀ u ∈ news, u.oneCell' = true)
    (h63 : n + m ≤ maxLen) (hbytes : (n + m) * bytes ≤ 140737488355328) (hbase : base ≤ w.heap.size)
    (h : ∀ v' w', w'.ownsRow base e size v' (n + m) (xs ++ news) → w.grownBy w' (some g) → (∀ k, v'.ownBlock = some k → k = g ∨ w.heap.size ≤ k) → wpList P ops Q rest (a.put o.dst v') w') : wpList P ops Q (o :: rest) a w := by
  obtain ⟨v', w', hr, q1, q2, -⟩ := run_append_own (P := P) w base t o.type e i z size bytes ht hi hz hsize hby hzs hsz _ n xs hown ad m c news hl hnews h1 h63 hbytes hbase
  refine wpList_value hgd (exec_append s x t t ho (by rw [hs, hx]; exact hr)) (h v' w' q1 q2 ?_)
  have hsmall : n + m ≤ 9223372036854775807 := by simp only [maxLen] at h63; omega
  subst hsize hby
  intro k hk
  obtain ⟨L, hL, hLl, hLt, hnc, hcm⟩ := owns_row hown
  by_cases hroom : n + m ≤ cap
  · have hr2 := run_append_room (P := P) w t o.type e i ht hi g n cap L.toArray hL ad m c news hl hnews h1 hroom (by rw [List.size_toArray, hl, hLl, ← Nat.add_mul]; exact Nat.mul_le_mul_right _ hroom)
    rw [hr2] at hr
    injection hr with hv _
    subst hv
    exact .inl (Option.some.inj hk).symm
  · have hr2 := run_append_grow (P := P) w t o.type e i z ht hi hz ⟨g, 0, none⟩ n cap xs hown.1 (hown.cells (g := g) rfl) ad m c news hl hnews (by omega) (by omega) (growslice_fits (by omega) hbytes)
    rw [hr2] at hr
    injection hr with hv _
    subst hv
    have hk : w.heap.size = k := Option.some.inj hk
    exact .inr (by omega)
end Go.Hp
namespace Go.Proofs.YtbjofbhhnmehgaaGreatDoor.TT
open Go.RowKit Go.RG Go.Hp Go.Proofs.YtbjofbhhnmehgaaGreatDoor

theorem fol : Tryz.prog.follows .mixedOrders = true := by kernel_rfl
theorem und_bytes : Tryz.prog.underlying 52 = some (.slice 5) := by kernel_rfl
theorem info_byte : (Tryz.prog.info? 5).map (fun i => (i.zero, i.size, i.bytes)) = some (some (.int .u8 0), 1, 1) := by kernel_rfl

/-- the cells that a slice shows -/
def Src (w : World) (v : Value) (xs : List Value) : Prop :=
  (∃ g o c, v = .slice (some ⟨g, o, none⟩) xs.length c ∧ xs.length ≤ c ∧ ∀ j u, xs[j]? = some u → w.cell? ⟨g, o + j, none⟩ = some u) ∨ (v = .slice none 0 0 ∧ xs = [])
theorem Src.below {w w' : World} {v : Value} {xs : List Value} (h : Src w v xs) (hb : Below w.heap.size w w') : Src w' v xs := by
  rcases h with ⟨g, o, c, rfl, hc, h⟩ | h
  · exact .inl ⟨g, o, c, rfl, hc, fun j u hu => below_cell hb (h j u hu)⟩
  · exact .inr h
theorem Src.shape {w : World} {v : Value} {xs : List Value} (h : Src w v xs) : ∃ a c, v = .slice a xs.length c ∧ xs.length ≤ c := by
  rcases h with ⟨g, o, c, rfl, hc, -⟩ | ⟨rfl, rfl⟩
  · exact ⟨_, _, rfl, hc⟩
  · exact ⟨_, _, rfl, Nat.le_refl _⟩
theorem Src.of_owns {w : World} {B ty : Nat} {v : Value} {n : Nat} {xs : List Value} (h : w.ownsRow B ty 1 v n xs) : Src w v xs := by
  have hl := owns_length h
  rw [Nat.mul_one] at hl
  rcases h.2 with ⟨rfl, rfl⟩ | ⟨g, cap, cur, rfl, -, -, hr, -⟩
  · exact .inr ⟨rfl, List.eq_nil_of_length_eq_zero hl⟩
  · exact .inl ⟨g, 0, cap, by rw [hl], by rw [hl]; exact hr, fun j u hu => by have := h.cells (g := g) rfl j u hu; rwa [Addr.add_lit, Nat.zero_add, ← Nat.zero_add j] at this⟩
/-- bytes, as the machine holds them -/
def u8s (bs : List Int) : List Value := bs.map fun b => .int .u8 b
theorem u8s_length (bs : List Int) : (u8s bs).length = bs.length := by simp [u8s]
theorem u8s_append (a b : List Int) : u8s (a ++ b) = u8s a ++ u8s b := by simp [u8s]
theorem u8s_one (bs : List Int) : ∀ u ∈ u8s bs, u.oneCell' = true := by
  intro u hu
  obtain ⟨b, -, rfl⟩ := List.mem_map.1 hu
  rfl
theorem u8s_get {bs : List Int} {i : Nat} {b : Int} (h : bs[i]? = some b) : (u8s bs)[i]? = some (.int .u8 b) := by simp [u8s, h]
theorem src_heap {w : World} {b c : Nat} {cs : List Value} {ty : TypeId} (h : w.heap[b]? = some (.cells cs.toArray ty (0, 0))) (hc : cs.length ≤ c) : Src w (.slice (some ⟨b, 0, none⟩) cs.length c) cs :=
  .inl ⟨b, 0, c, rfl, hc, fun j u hu => by rw [Nat.zero_add]; simpa [World.cell?, h] using hu⟩
end Go.Proofs.YtbjofbhhnmehgaaGreatDoor.TT
namespace Go.Proofs.YtbjofbhhnmehgaaGreatDoor.TT
open Go.RowKit Go.RG Go.Hp Go.Proofs.YtbjofbhhnmehgaaGreatDoor



theorem und_int' : Tryz.prog.underlying 3 = some (.int .i64) := by kernel_rfl
set_option maxRecDepth 100000 in
theorem grow_nil (n : Nat) (hn : n ≤ 1099511627776) (w : World) :
    Calls Tryz.prog 142 #[.slice none 0 0, .int .i64 n] w fun e w' => ∃ v, e = .returned v ∧ w'.ownsRow w.heap.size 5 1 v 0 [] ∧ Below w.heap.size w w' := by
  rcases Nat.eq_zero_or_pos n with h0 | h0
  · subst h0
    go_enter Tryz.func142, Tryz.ntmps142
    go_wp2_with fail
    go_ret
    exact ⟨_, rfl, World.ownsRow_nil _ _ _ _, Below.refl _ _⟩
  · obtain ⟨i0, hi, hz0, hz1, hz2⟩ := info_parts info_byte
    have hn1 : (0 : Int) < (n : Int) := by omega
    have c1 : n ≤ maxLen := by unfold maxLen; omega
    have c2 : n * 1 ≤ 140737488355328 := by omega
    go_enter Tryz.func142, Tryz.ntmps142
    go_wp2_with (at_builtin; go_loud (refine wpList_append_nil_zeros rfl (.tmp 20) (.tmp 21) 52 3 rfl 5 i0 (.int .u8 0) .i64 .i64 1 1 und_bytes und_int' hi hz0 hz1 hz2 rfl (by decide) n rfl rfl h0 c1 c2 ?_; intro w1 L1 cap1 hr1 hl1 hc1 hm1 hb1; have hm2 : cap1 ≤ 9223372036854775807 := (by simp only [maxLen] at hm1; omega); have HR1 := Lib.hid hr1; clear hr1))
    go_ret
    exact ⟨_, rfl, owns_of_row HR1.out hl1 (Nat.zero_le _) hm1 (by simp) (Nat.le_refl _), hb1⟩

/-- one more slice is appended -/
theorem own_append_src {w : World} {ops : Array Oper} {rest : List Oper} {o : Oper} {a : Act} {Q : Exit → Act → World → Prop} (hgd : o.guard = none) (s x : Operand)
    (ho : o.op = .call { callee := .builtin .append, args := #[s, x], argTypes := #[52, 52] })
    (base n : Nat) (v u : Value) (xs ys : List Value) (hs : a.eval s = v) (hown : w.ownsRow base 5 1 v n xs) (hx : a.eval x = u) (hy : Src w u ys) (h1 : ∀ u ∈ ys, u.oneCell' = true)
    (hb : n + ys.length ≤ 549755813888) (hbase : base ≤ w.heap.size)
    (h : ∀ v' w', w'.ownsRow base 5 1 v' (n + ys.length) (xs ++ ys) → Below base w w' → wpList Tryz.prog ops Q rest (a.put o.dst v') w') : wpList Tryz.prog ops Q (o :: rest) a w := by
  obtain ⟨i0, hi, hz0, hz1, hz2⟩ := info_parts info_byte
  have c1 : n + ys.length ≤ maxLen := by unfold maxLen; omega
  have c2 : (n + ys.length) * 1 ≤ 140737488355328 := by omega
  rcases hy with ⟨g, o, c, rfl, -, hy⟩ | ⟨rfl, rfl⟩
  · exact wpList_append_own w hgd s x 52 ho base 5 i0 (.int .u8 0) 1 1 und_bytes hi hz0 hz1 hz2 rfl (by decide) v n xs hs hown ⟨g, o, none⟩ ys.length c ys hx (by simp) (fun j u hu => by rw [Addr.add_lit]; exact hy j u hu) h1 c1 c2 hbase fun v' w' h2 h3 _ =>
      h v' w' h2 ((Below.refl _ w).mono hbase |>.grown h3 hbase (fun k hk => (hown.lt k hk).1))
  · exact wpList_append_own_none hgd s x 52 ho base 5 i0 1 und_bytes hi v n xs hs hown hx (h v w (by simpa using hown) ((Below.refl _ w).mono hbase))

set_option maxRecDepth 100000 in
theorem concat_two (gv cv : Nat) (va vb : Value) (xs ys : List Value) (w : World) (h0 : w.cell? ⟨gv, 0, none⟩ = some va) (h1 : w.cell? ⟨gv, 1, none⟩ = some vb) (hx : Src w va xs) (hy : Src w vb ys)
    (h1x : ∀ v ∈ xs, v.oneCell' = true) (h1y : ∀ v ∈ ys, v.oneCell' = true) (hn : xs.length + ys.length ≤ 549755813888) :
    Calls Tryz.prog 129 #[.slice (some ⟨gv, 0, none⟩) 2 cv] w fun e w' => ∃ v, e = .returned v ∧ w'.ownsRow w.heap.size 5 1 v (xs.length + ys.length) (xs ++ ys) ∧ Below w.heap.size w w' := by
  have Hx := Lib.hid hx; clear hx
  have Hy := Lib.hid hy; clear hy
  have H1x := Lib.hid h1x; clear h1x
  have H1y := Lib.hid h1y; clear h1y
  obtain ⟨aa, ca, rfl, -⟩ := Hx.out.shape
  obtain ⟨ab, cb, rfl, -⟩ := Hy.out.shape
  generalize hna : xs.length = na at *
  generalize hnb : ys.length = nb at *
  have Hna := Lib.hid hna; clear hna
  have Hnb := Lib.hid hnb; clear hnb
  have G := Lib.hid (grow_nil (na + nb) (by omega))
  go_enter Tryz.func129, Tryz.ntmps129
  go_wp2_with fail
  refine wp_loop_rounds 3 ?_
  rw [rounds_succ]
  go_wp2_with fail
  rw [rounds_succ]
  go_wp2_with fail
  rw [rounds_succ]
  go_wp2_with fail
  rw [show (na : Int) + (nb : Int) = ((na + nb : Nat) : Int) by omega]
  refine (G.out w).mono ?_
  rintro e w1 ⟨v1, rfl, hown, hb1⟩
  have k0 := below_cell hb1 h0
  have k1 := below_cell hb1 h1
  have Hown := Lib.hid hown; clear hown
  have hs1 := hb1.size
  go_wp2_with fail
  refine wp_loop_rounds 3 ?_
  rw [rounds_succ]
  go_wp2_with (at_builtin; go_loud (refine own_append_src rfl _ _ rfl w.heap.size 0 _ _ [] xs rfl Hown.out rfl (Hx.out.below hb1) H1x.out (by rw [Hna.out]; omega) hs1 ?_; intro v2 w2 hown2 hg2; have Hg2 := Lib.hid hg2; have Hown2 := Lib.hid hown2; clear hown2 hg2))
  have hb2 : Below w.heap.size w w2 := hb1.trans Hg2.out
  have hs2 := hb2.size
  have m0 := below_cell hb2 h0
  have m1 := below_cell hb2 h1
  rw [rounds_succ]
  go_wp2_with (at_builtin; go_loud (refine own_append_src rfl _ _ rfl w.heap.size _ _ _ _ ys rfl Hown2.out rfl (Hy.out.below hb2) H1y.out (by rw [Hna.out, Hnb.out]; omega) hs2 ?_; intro v3 w3 hown3 hg3; have Hg3 := Lib.hid hg3; have Hown3 := Lib.hid hown3; clear hown3 hg3))
  rw [rounds_succ]
  go_wp2_with fail
  go_ret
  refine ⟨v3, rfl, ?_, hb2.trans Hg3.out⟩
  have := Hown3.out
  rw [Hna.out, Hnb.out] at this
  simpa using this
end Go.Proofs.YtbjofbhhnmehgaaGreatDoor.TT
namespace Go.Proofs.YtbjofbhhnmehgaaGreatDoor.TT
open Go.RowKit Go.RG Go.Hp Go.Proofs.YtbjofbhhnmehgaaGreatDoor

/-- the digits to the base 128 that stand ahead of the last one: the highest first, 128 added to each -/
def digitsHi (n : Nat) : List Int := if h : n = 0 then [] else digitsHi (n / 128) ++ [(n : Int) % 128 + 128]
termination_by n
decreasing_by omega
/-- a number as bytes -/
def sdnv (n : Nat) : List Int := digitsHi (n / 128) ++ [(n : Int) % 128]
theorem digitsHi_zero : digitsHi 0 = [] := by unfold digitsHi; rfl
theorem digitsHi_pos {n : Nat} (h : 0 < n) : digitsHi n = digitsHi (n / 128) ++ [(n : Int) % 128 + 128] := by
  conv => lhs; unfold digitsHi
  rw [dif_neg (by omega)]
theorem digitsHi_length (n k : Nat) (h : n < 128 ^ k) : (digitsHi n).length ≤ k := by
  induction k generalizing n with
  | zero =>
    obtain rfl : n = 0 := by simp at h; omega
    rw [digitsHi_zero]; simp
  | succ k ih =>
    rcases Nat.eq_zero_or_pos n with h0 | h0
    · subst h0; rw [digitsHi_zero]; simp
    · rw [digitsHi_pos h0, List.length_append, List.length_singleton]
      have := ih (n / 128) (by rw [Nat.pow_succ] at h; exact Nat.div_lt_of_lt_mul (by omega))
      omega
theorem sdnv_length (n : Nat) (h : n < 18446744073709551616) : (sdnv n).length ≤ 10 := by
  unfold sdnv
  rw [List.length_append, List.length_singleton]
  have := digitsHi_length (n / 128) 9 (by omega)
  omega
theorem and127 (m : Nat) (h : m < 18446744073709551616) : bits .and .u64 (m : Int) 127 = (m : Int) % 128 :=
  bits_mask .u64 64 (by decide) wraps_u64 7 (by decide) (m : Int) (by omega) (by omega)
theorem or128 (m : Nat) : bits .or .u8 ((m : Int) % 128) 128 = (m : Int) % 128 + 128 :=
  bits_join_low .u8 8 (by decide) wraps_u8 7 ((m : Int) % 128) 128 (by omega) (by omega) (by omega) (by decide) (by decide) (by decide)
/-- the digits stay within ten -/
theorem digits_bound {m n k : Nat} (hn : n < 18446744073709551616) (hm : 0 < m) (h : m * 128 ^ k ≤ n / 128) : k ≤ 8 := by
  rcases Nat.lt_or_ge 8 k with h1 | h1
  · have h2 : 128 ^ 9 ≤ 128 ^ k := Nat.pow_le_pow_right (by decide) h1
    have h3 : 1 * 128 ^ k ≤ m * 128 ^ k := Nat.mul_le_mul_right _ hm
    have h4 : (128 : Nat) ^ 9 = 9223372036854775808 := by decide
    omega
  · exact h1
theorem digits_step {m n k : Nat} (h : m * 128 ^ k ≤ n / 128) : m / 128 * 128 ^ (k + 1) ≤ n / 128 := by
  rw [Nat.pow_succ, Nat.mul_comm (128 ^ k) 128, ← Nat.mul_assoc]
  exact Nat.le_trans (Nat.mul_le_mul_right _ (Nat.div_mul_le_self m 128)) h
end Go.Proofs.YtbjofbhhnmehgaaGreatDoor.TT
namespace Go.Proofs.YtbjofbhhnmehgaaGreatDoor.TT
open Go.RowKit Go.RG Go.Hp Go.Proofs.YtbjofbhhnmehgaaGreatDoor



/-- the room for digits, where those from q on are laid -/
def DigRow (w : World) (b q : Nat) (D : List Int) : Prop := w.heap[b]? = some (.cells (List.replicate q (Value.int .u8 0) ++ u8s D).toArray 183 (0, 0))
theorem DigRow.put {w : World} {b q : Nat} {D : List Int} (h : DigRow w b (q + 1) D) (x : Int) : DigRow (w.setCell ⟨b, q, none⟩ (.int .u8 x)) b q (x :: D) := by
  unfold DigRow at h ⊢
  rw [setCell_eq_setRow w b q _ 183 (0, 0) _ h]
  have := setRow_heap w b _ ((List.replicate (q + 1) (Value.int .u8 0) ++ u8s D).toArray.setIfInBounds q (.int .u8 x)) 183 (0, 0) h
  rw [this]
  congr 2
  rw [List.setIfInBounds_toArray, List.replicate_succ', List.append_assoc, List.set_append_right _ _ (by simp)]
  simp [u8s]
theorem DigRow.cell {w : World} {b q : Nat} {D : List Int} (h : DigRow w b q D) (i : Nat) (hi : i < q + D.length) : ∃ u, w.cell? ⟨b, i, none⟩ = some u := by
  unfold DigRow at h
  have hl : i < (List.replicate q (Value.int .u8 0) ++ u8s D).length := by simp [u8s]; omega
  exact ⟨(List.replicate q (Value.int .u8 0) ++ u8s D)[i], by simp only [World.cell?, h]; simp [List.getElem?_eq_getElem hl]⟩
theorem DigRow.frozen {w : World} {b q : Nat} {D : List Int} (h : DigRow w b q D) (i : Nat) : w.frozen? ⟨b, i, none⟩ = false := by unfold DigRow at h; simp [World.frozen?, h]
theorem DigRow.src {w : World} {b q : Nat} {D : List Int} (h : DigRow w b q D) (c : Nat) (hc : D.length ≤ c) : Src w (.slice (some ⟨b, q, none⟩) D.length c) (u8s D) := by
  unfold DigRow at h
  refine .inl ⟨b, q, c, by rw [u8s_length], by rw [u8s_length]; exact hc, fun j u hu => ?_⟩
  have e : (List.replicate q (Value.int .u8 0) ++ u8s D)[q + j]? = some u := by
    rw [List.getElem?_append_right (by simp)]
    simpa using hu
  simp only [World.cell?, h]
  simpa using e

theorem arr_und : Tryz.prog.underlying 183 = some (.array (Tryz.prog.arrayLen 183) (Tryz.prog.elem 183)) := by kernel_rfl
theorem arr_len : Tryz.prog.arrayLen 183 = 10 := by kernel_rfl
theorem arr_size (w : World) : (sizeOf (Tryz.prog.elem 183)).run Tryz.prog w = .ok 1 w := by kernel_rfl
theorem arr_slice (w : World) (b q : Nat) (hq : q ≤ 9) : Sem.run Tryz.prog (Instr.sliceAt 183 (.pointer (some ⟨b, 0, none⟩)) (some (.int .i64 (q : Int))) none none) w = .ok (.slice (some ⟨b, q, none⟩) (10 - q) (10 - q)) w := by
  refine (run_sliceAt_array_l w 183 ⟨b, 0, none⟩ arr_und .i64 (q : Int) (by omega) (by rw [arr_len]; omega)).trans ?_
  rw [arr_size, arr_len]
  have h1 : ¬ (10 = q) := by omega
  simp [slicedAt, h1, Addr.add_lit, Result.andThen]

set_option maxHeartbeats 1000000 in
set_option maxRecDepth 100000 in
theorem appendNumber_any (v : Value) (xs : List Value) (n : Nat) (hn : n < 18446744073709551616) (w : World) (hx : Src w v xs) (h1 : ∀ u ∈ xs, u.oneCell' = true) (hl : xs.length ≤ 274877906944) :
    Calls Tryz.prog 103 #[v, .int .u64 n] w fun e w' => ∃ u, e = .returned u ∧ w'.ownsRow w.heap.size 5 1 u (xs.length + (sdnv n).length) (xs ++ u8s (sdnv n)) ∧ Below w.heap.size w w' := by
  obtain ⟨ax, cx, rfl, hcx⟩ := hx.shape
  have Hx := Lib.hid hx; clear hx
  have H1 := Lib.hid h1; clear h1
  have hA := and127 n hn
  go_enter Tryz.func103, Tryz.ntmps103
  go_wp2_with fail
  have hB0 := below_box w (.cells #[.int .u8 0, .int .u8 0, .int .u8 0, .int .u8 0, .int .u8 0, .int .u8 0, .int .u8 0, .int .u8 0, .int .u8 0, .int .u8 ((n : Int) % 128)] 183)
  have hD0 : DigRow (w.alloc (.cells #[.int .u8 0, .int .u8 0, .int .u8 0, .int .u8 0, .int .u8 0, .int .u8 0, .int .u8 0, .int .u8 0, .int .u8 0, .int .u8 ((n : Int) % 128)] 183)) w.heap.size 9 [(n : Int) % 128] := World.alloc_heap_new w _
  generalize w.alloc (.cells #[.int .u8 0, .int .u8 0, .int .u8 0, .int .u8 0, .int .u8 0, .int .u8 0, .int .u8 0, .int .u8 0, .int .u8 0, .int .u8 ((n : Int) % 128)] 183) = w0 at hB0 hD0 ⊢
  go_loopw [1, 6] (fun vn vat wr => ∃ (m q : Nat) (D : List Int), vn = .int .u64 m ∧ vat = .int .i64 q ∧ q + D.length = 10 ∧ 0 < D.length ∧ digitsHi m ++ D = sdnv n ∧ m * 128 ^ (D.length - 1) ≤ n / 128 ∧ DigRow wr w.heap.size q D ∧ Below w.heap.size w wr)
    (fun vn _ _ => (intOf vn).toNat)
  case atStart => exact ⟨n / 128, 9, [(n : Int) % 128], by simp, rfl, rfl, by simp, rfl, by simp, hD0, hB0⟩
  case round =>
    obtain ⟨m, q, D, rfl, rfl, hq, hD, hs, hm, hR, hB⟩ := hrel
    clear hD0 hB0 hA
    have Hs := Lib.hid hs; clear hs
    have Hm := Lib.hid hm; clear hm
    by_cases h0 : 0 < m
    · have h0' : (0 : Int) < (m : Int) := by omega
      have hk := digits_bound hn h0 Hm.out
      obtain ⟨p, rfl⟩ : ∃ p, q = p + 1 := ⟨q - 1, by omega⟩
      have ep : (((p + 1 : Nat) : Int) - 1) = (p : Int) := by omega
      obtain ⟨u0, c0⟩ := hR.cell p (by omega)
      have f0 := hR.frozen p
      have hmb : m < 18446744073709551616 := by
        have h1 := Hm.out
        have h2 : m ≤ m * 128 ^ (D.length - 1) := Nat.le_mul_of_pos_right _ (Nat.pow_pos (by decide))
        omega
      have hA := and127 m hmb
      have hO := or128 m
      go_wp2_with fail
      refine ⟨⟨m / 128, p, ((m : Int) % 128 + 128) :: D, by simp, rfl, by simp; omega, by simp, ?_, ?_, hR.put _, hB.setCell (p := ⟨w.heap.size, p, none⟩) (Nat.le_refl _) _⟩, ?_⟩
      · rw [← Hs.out, digitsHi_pos h0, List.append_assoc]; rfl
      · obtain ⟨k, hk'⟩ : ∃ k, D.length = k + 1 := ⟨D.length - 1, by omega⟩
        have h1 := Hm.out
        rw [hk'] at h1
        have h2 := digits_step h1
        rw [List.length_cons, hk']
        exact h2
      · show ((m : Int) / 128).toNat < ((m : Int)).toNat
        omega
    · obtain rfl : m = 0 := by omega
      have hs := Hs.out
      rw [digitsHi_zero, List.nil_append] at hs
      subst hs
      have HR := Lib.hid hR; clear hR
      have Hq := Lib.hid hq
      have hq1 : q ≤ 9 := by omega
      clear hq
      have hsl := fun w1 => arr_slice w1 w.heap.size q hq1
      go_wp2_with fail
      have hB2 := below_box wr (.cells #[.slice ax xs.length cx, .slice (some ⟨w.heap.size, q, none⟩) (10 - q) (10 - q)] 52)
      have g2 := World.alloc_heap_new wr (.cells #[.slice ax xs.length cx, .slice (some ⟨w.heap.size, q, none⟩) (10 - q) (10 - q)] 52)
      generalize wr.alloc (.cells #[.slice ax xs.length cx, .slice (some ⟨w.heap.size, q, none⟩) (10 - q) (10 - q)] 52) = w2 at hB2 g2 ⊢
      have c0 : w2.cell? ⟨wr.heap.size, 0, none⟩ = some (.slice ax xs.length cx) := by simp [World.cell?, g2]
      have c1 : w2.cell? ⟨wr.heap.size, 1, none⟩ = some (.slice (some ⟨w.heap.size, q, none⟩) (10 - q) (10 - q)) := by simp [World.cell?, g2]
      have hW2 := hB.trans (hB2.mono hB.size)
      have hsrc : Src w2 (.slice (some ⟨w.heap.size, q, none⟩) (10 - q) (10 - q)) (u8s (sdnv n)) := by
        have := (HR.out.src (10 - q) (by have := Hq.out; omega)).below hB2
        rwa [show (sdnv n).length = 10 - q by have := Hq.out; omega] at this
      refine (concat_two _ _ _ _ xs (u8s (sdnv n)) w2 c0 c1 (Hx.out.below hW2) hsrc H1.out (u8s_one _) ?_).mono ?_
      · rw [u8s_length]; have := Hq.out; omega
      rintro e w3 ⟨u, rfl, hown, hB3⟩
      clear c0 c1 g2
      have Hown := Lib.hid hown; clear hown
      go_wp2_with fail
      go_ret
      have hown := Hown.out
      rw [u8s_length] at hown
      exact ⟨_, rfl, owns_base hown (fun k hk => Nat.le_trans hW2.size (hown.lt k hk).1), hW2.trans (hB3.mono hW2.size)⟩

/-- a text as octet writes it: its length, and itself -/
def lenText (bs : List Value) : List Value := u8s (sdnv bs.length) ++ bs
theorem lenText_one {bs : List Value} (h : ∀ u ∈ bs, u.oneCell' = true) : ∀ u ∈ lenText bs, u.oneCell' = true := fun u hu => (List.mem_append.1 hu).elim (u8s_one _ u) (h u)
theorem appendBytes_any (v y : Value) (xs ys : List Value) (w : World) (hx : Src w v xs) (hy : Src w y ys) (h1 : ∀ u ∈ xs, u.oneCell' = true) (h2 : ∀ u ∈ ys, u.oneCell' = true) (hl : xs.length ≤ 274877906944) (hm : ys.length ≤ 137438953472) :
    Calls Tryz.prog 66 #[v, y] w fun e w' => ∃ u, e = .returned u ∧ w'.ownsRow w.heap.size 5 1 u (xs ++ lenText ys).length (xs ++ lenText ys) ∧ Below w.heap.size w w' := by
  obtain ⟨ay, cy, rfl, -⟩ := hy.shape
  have Hx := Lib.hid hx; clear hx
  have Hy := Lib.hid hy; clear hy
  have H1 := Lib.hid h1; clear h1
  have H2 := Lib.hid h2; clear h2
  have hA := appendNumber_any v xs ys.length (by omega) w Hx.out H1.out hl
  have HA := Lib.hid hA; clear hA
  go_enter Tryz.func66, Tryz.ntmps66
  go_wp2_with fail
  refine HA.out.mono ?_
  rintro e w1 ⟨u, rfl, hown, hB⟩
  have hsl := sdnv_length ys.length (by omega)
  have Hown := Lib.hid hown; clear hown
  have hs := hB.size
  go_wp2_with (at_builtin; go_loud (refine own_append_src rfl _ _ rfl w.heap.size _ _ _ _ ys rfl Hown.out rfl (Hy.out.below hB) H2.out (by omega) hs ?_; intro v2 w2 hown2 hg2; have Hg2 := Lib.hid hg2; have Hown2 := Lib.hid hown2; clear hown2 hg2))
  go_ret
  refine ⟨_, rfl, ?_, hB.trans Hg2.out⟩
  have := Hown2.out
  unfold lenText
  rw [List.append_assoc] at this
  rwa [show (xs ++ (u8s (sdnv ys.length) ++ ys)).length = xs.length + (sdnv ys.length).length + ys.length by simp [u8s_length]; omega]
end Go.Proofs.YtbjofbhhnmehgaaGreatDoor.TT
namespace Go.Proofs.YtbjofbhhnmehgaaGreatDoor.TT
open Go.RowKit Go.RG Go.Hp Go.Proofs.YtbjofbhhnmehgaaGreatDoor



def crcTab : List Int := [0, 498536548, 997073096, 651767980, 1994146192, 1802195444, 1303535960, 1342533948, 3988292384, 4027552580, 3604390888, 3412177804, 2607071920, 2262029012, 2685067896, 3183342108]
/-- the package-level table -/
def Tab (w : World) : Prop := ∀ j : Nat, j < 16 → w.cell? ⟨9, j, none⟩ = some (.int .u32 (crcTab.getD j 0))
theorem Tab.below {w w' : World} (h : Tab w) (hb : Below w.heap.size w w') : Tab w' := fun j hj => below_cell hb (h j hj)
def crcHalf (c : Int) : Int := bits .xor .u32 (crcTab.getD (c % 16).toNat 0) (c / 16)
def crcByte (c x : Int) : Int := crcHalf (crcHalf (bits .xor .u32 c x))
def crc (bs : List Int) : Int := bits .xor .u32 4294967295 (bs.foldl crcByte 4294967295)
theorem and15 (c : Int) (h0 : 0 ≤ c) (h : c < 4294967296) : bits .and .u32 c 15 = c % 16 :=
  bits_mask .u32 32 (by decide) wraps_u32 4 (by decide) c h0 h
theorem bits_range (op : BinOp) (a b : Int) : 0 ≤ bits op .u32 a b ∧ bits op .u32 a b < 4294967296 := by
  have hw : ∀ n : Int, IntKind.u32.wrap n = n % 4294967296 := fun n => by simp [IntKind.wrap, IntKind.bits, IntKind.signed]
  unfold bits
  rw [hw]
  exact ⟨Int.emod_nonneg _ (by decide), Int.emod_lt_of_pos _ (by decide)⟩
set_option maxHeartbeats 1000000 in
theorem crc_any (v : Value) (bs : List Int) (w : World) (hx : Src w v (u8s bs)) (hT : Tab w) (hl : bs.length ≤ 1099511627776) (hb : ∀ b ∈ bs, 0 ≤ b ∧ b < 256) :
    Calls Tryz.prog 138 #[v] w fun e w' => e = .returned (.int .u32 (crc bs)) ∧ Below w.heap.size w w' := by
  obtain ⟨ax, cx, rfl, -⟩ := hx.shape
  obtain ⟨n, hn⟩ : ∃ n, bs.length = n := ⟨_, rfl⟩
  have hn2 : (u8s bs).length = n := by rw [u8s_length, hn]
  rw [hn2] at hx ⊢
  rw [hn] at hl
  have Hn := Lib.hid hn; clear hn hn2
  have Hx := Lib.hid hx; clear hx
  have HT := Lib.hid hT; clear hT
  have Hb := Lib.hid hb; clear hb
  go_enter Tryz.func138, Tryz.ntmps138
  go_wp2_with fail
  go_loopw [3, 8] (fun vc vi wr => ∃ (i : Nat) (c : Int), vi = .int .i64 i ∧ i ≤ n ∧ vc = .int .u32 c ∧ c = (bs.take i).foldl crcByte 4294967295 ∧ 0 ≤ c ∧ c < 4294967296 ∧ Below w.heap.size w wr)
    (fun _ vi _ => n - (intOf vi).toNat)
  case atStart => exact ⟨0, _, rfl, by omega, rfl, rfl, by decide, by decide, Below.refl _ _⟩
  case round =>
    obtain ⟨i, c, rfl, hi, rfl, hc, h0, h1, hB⟩ := hrel
    have Hc := Lib.hid hc; clear hc
    by_cases hlt : i < n
    · have hii : (i : Int) < (n : Int) := by omega
      have hlt' : i < bs.length := by rw [Hn.out]; exact hlt
      rcases Hx.out with ⟨g, o, c', e1, -, hr⟩ | ⟨e1, e2⟩
      · injection e1 with e1 _ e3
        subst e1 e3
        have hx0 := below_cell hB (hr i _ (u8s_get (List.getElem?_eq_getElem hlt')))
        have hxb := Hb.out _ (List.getElem_mem hlt')
        obtain ⟨x, hx⟩ : ∃ x, bs[i] = x := ⟨_, rfl⟩
        rw [hx] at hx0 hxb
        have Hx1 := Lib.hid hx; clear hx hr
        obtain ⟨y, hy⟩ : ∃ y, bits .xor .u32 c x = y := ⟨_, rfl⟩
        have hy1 := bits_range .xor c x
        rw [hy] at hy1
        have hA1 := and15 y hy1.1 hy1.2
        obtain ⟨t1, ht1⟩ : ∃ t1, crcTab.getD (y % 16).toNat 0 = t1 := ⟨_, rfl⟩
        have hT1 := below_cell hB (HT.out (y % 16).toNat (by omega))
        rw [ht1] at hT1
        obtain ⟨z, hz⟩ : ∃ z, bits .xor .u32 t1 (y / 16) = z := ⟨_, rfl⟩
        have hz1 := bits_range .xor t1 (y / 16)
        rw [hz] at hz1
        have hA2 := and15 z hz1.1 hz1.2
        obtain ⟨t2, ht2⟩ : ∃ t2, crcTab.getD (z % 16).toNat 0 = t2 := ⟨_, rfl⟩
        have hT2 := below_cell hB (HT.out (z % 16).toNat (by omega))
        rw [ht2] at hT2
        obtain ⟨c2, hc2⟩ : ∃ c2, bits .xor .u32 t2 (z / 16) = c2 := ⟨_, rfl⟩
        have hc3 := bits_range .xor t2 (z / 16)
        rw [hc2] at hc3
        have hstep : crcByte c x = c2 := by
          unfold crcByte crcHalf
          rw [hy, ht1, hz, ht2, hc2]
        have Hstep := Lib.hid hstep; clear hstep
        have Ht1 := Lib.hid ht1; clear ht1
        have Ht2 := Lib.hid ht2; clear ht2
        go_wp2_with fail
        refine ⟨⟨i + 1, c2, by simp, by omega, rfl, ?_, hc3.1, hc3.2, hB⟩, ?_⟩
        · rw [List.take_add_one, List.getElem?_eq_getElem hlt', Hx1.out, List.foldl_append, ← Hc.out]
          exact Hstep.out.symm
        · show n - (((i : Int) + 1).toNat) < n - ((i : Int).toNat)
          omega
      · have h2 := congrArg List.length e2
        rw [u8s_length, List.length_nil] at h2
        omega
    · obtain rfl : i = n := by omega
      have hfin : bits .xor .u32 IntKind.u32.max c = crc bs := by
        unfold crc
        rw [show IntKind.u32.max = 4294967295 by decide]
        rw [Hc.out, List.take_of_length_le (by rw [Hn.out]; exact Nat.le_refl _)]
      have Hfin := Lib.hid hfin; clear hfin
      go_wp2_with fail
      go_ret
      exact ⟨by rw [← Hfin.out]; rfl, hB⟩

/-- two new blocks -/
theorem allocs2 (w : World) (o1 o2 : Obj) : Below w.heap.size w ((w.alloc o1).alloc o2) ∧ ((w.alloc o1).alloc o2).heap[w.heap.size]? = some o1 ∧ ((w.alloc o1).alloc o2).heap[w.heap.size + 1]? = some o2 := by
  have h1 : (w.alloc o1).heap.size = w.heap.size + 1 := by simp
  have h2 := World.alloc_heap_new (w.alloc o1) o2
  rw [h1] at h2
  exact ⟨((Below.refl _ w).alloc (Nat.le_refl _) _).alloc (by simp) _, below_heap ((Below.refl _ _).alloc (Nat.le_refl _) _) (World.alloc_heap_new w o1), h2⟩
/-- the four bytes behind a sealed text -/
def sealOf (bs : List Int) : List Int := [crc bs % 256, crc bs / 256 % 256, crc bs / 65536 % 256, crc bs / 16777216]
theorem crc_range (bs : List Int) : 0 ≤ crc bs ∧ crc bs < 4294967296 := bits_range .xor _ _
theorem seal_any (v : Value) (bs : List Int) (w : World) (hx : Src w v (u8s bs)) (hT : Tab w) (hl : bs.length ≤ 274877906944) (hb : ∀ b ∈ bs, 0 ≤ b ∧ b < 256) :
    Calls Tryz.prog 118 #[v] w fun e w' => ∃ u, e = .returned u ∧ w'.ownsRow w.heap.size 5 1 u (bs.length + 4) (u8s (bs ++ sealOf bs)) ∧ Below w.heap.size w w' := by
  obtain ⟨ax, cx, rfl, -⟩ := hx.shape
  have Hx := Lib.hid hx; clear hx
  have HC := Lib.hid (crc_any _ bs w Hx.out hT (by omega) hb)
  have hcr := crc_range bs
  have Hb := Lib.hid hb; clear hb
  go_enter Tryz.func118, Tryz.ntmps118
  go_wp2_with fail
  refine HC.out.mono ?_
  rintro e w1 ⟨rfl, hB⟩
  go_wp2_with fail
  have hb2 := allocs2 w1 (.cells #[.int .u8 (crc bs % 256), .int .u8 (crc bs / 256 % 256), .int .u8 (crc bs / 65536 % 256), .int .u8 (crc bs / 16777216)] 5) (.cells #[.slice ax (u8s bs).length cx, .slice (some ⟨w1.heap.size, 0, none⟩) 4 4] 52)
  generalize (w1.alloc (.cells #[.int .u8 (crc bs % 256), .int .u8 (crc bs / 256 % 256), .int .u8 (crc bs / 65536 % 256), .int .u8 (crc bs / 16777216)] 5)).alloc (.cells #[.slice ax (u8s bs).length cx, .slice (some ⟨w1.heap.size, 0, none⟩) 4 4] 52) = w2 at hb2 ⊢
  obtain ⟨hb2, g0, g1⟩ := hb2
  have c0 : w2.cell? ⟨w1.heap.size + 1, 0, none⟩ = some (.slice ax (u8s bs).length cx) := by simp [World.cell?, g1]
  have c1 : w2.cell? ⟨w1.heap.size + 1, 1, none⟩ = some (.slice (some ⟨w1.heap.size, 0, none⟩) 4 4) := by simp [World.cell?, g1]
  have hW2 := hB.trans (hb2.mono hB.size)
  have hsrc : Src w2 (.slice (some ⟨w1.heap.size, 0, none⟩) 4 4) (u8s (sealOf bs)) := src_heap (cs := u8s (sealOf bs)) g0 (by simp [u8s, sealOf])
  refine (concat_two _ _ _ _ (u8s bs) (u8s (sealOf bs)) w2 c0 c1 (Hx.out.below hW2) hsrc (u8s_one _) (u8s_one _) ?_).mono ?_
  · rw [u8s_length, u8s_length]; simp [sealOf]; omega
  rintro e w3 ⟨u, rfl, hown, hB3⟩
  clear c0 c1 g0 g1
  have Hown := Lib.hid hown; clear hown
  go_wp2_with fail
  go_ret
  have hown := Hown.out
  rw [u8s_length, u8s_length, ← u8s_append] at hown
  exact ⟨_, rfl, owns_base hown (fun k hk => Nat.le_trans hW2.size (hown.lt k hk).1), hW2.trans (hB3.mono hW2.size)⟩
end Go.Proofs.YtbjofbhhnmehgaaGreatDoor.TT
namespace Go.Proofs.YtbjofbhhnmehgaaGreatDoor.TT
open Go.RowKit Go.RG Go.Hp Go.Proofs.YtbjofbhhnmehgaaGreatDoor



set_option maxRecDepth 100000 in
theorem clone_any (v : Value) (xs : List Value) (w : World) (hx : Src w v xs) (h1 : ∀ u ∈ xs, u.oneCell' = true) (hn : xs.length ≤ 549755813888) :
    Calls Tryz.prog 105 #[v] w fun e w' => ∃ u, e = .returned u ∧ w'.ownsRow w.heap.size 5 1 u xs.length xs ∧ Below w.heap.size w w' := by
  rcases hx with ⟨g, o, c, rfl, hc, hr⟩ | ⟨rfl, rfl⟩
  · have he := fun w => Lib.run_eql_slice_nil (P := Tryz.prog) w 52 5 (some ⟨g, o, none⟩) xs.length c 0 0 und_bytes
    have hB0 := below_box w (.cells #[] 5)
    have Hx := Lib.hid (show Src w (.slice (some ⟨g, o, none⟩) xs.length c) xs from .inl ⟨g, o, c, rfl, hc, hr⟩)
    have H1 := Lib.hid h1
    have hs : w.heap.size ≤ (w.alloc (.cells #[] 5)).heap.size := by simp
    clear hr h1
    go_enter Tryz.func105, Tryz.ntmps105
    go_wp2_with (at_builtin; go_loud (refine own_append_src rfl _ _ rfl w.heap.size 0 _ _ [] xs rfl (World.ownsRow_made w #[] 0 (Nat.le_refl _) (Nat.zero_le _) rfl) rfl (Hx.out.below hB0) H1.out (by omega) hs ?_; intro v2 w2 hown2 hg2; have Hg2 := Lib.hid hg2; have Hown2 := Lib.hid hown2; clear hown2 hg2))
    go_ret
    exact ⟨_, rfl, by simpa using Hown2.out, hB0.trans Hg2.out⟩
  · have he := fun w => Lib.run_eql_slice_nil (P := Tryz.prog) w 52 5 none 0 0 0 0 und_bytes
    go_enter Tryz.func105, Tryz.ntmps105
    go_wp2_with fail
    go_ret
    exact ⟨_, rfl, World.ownsRow_nil _ _ _ _, Below.refl _ _⟩

theorem equal_any (v y : Value) (xs ys : List Int) (w : World) (hx : Src w v (u8s xs)) (hy : Src w y (u8s ys)) (hl : xs.length ≤ 1099511627776) :
    Calls Tryz.prog 99 #[v, y] w fun e w' => e = .returned (.bool (decide (xs = ys))) ∧ Below w.heap.size w w' := by
  obtain ⟨ax, cx, rfl, -⟩ := hx.shape
  obtain ⟨ay, cy, rfl, -⟩ := hy.shape
  obtain ⟨n, hn⟩ : ∃ n, xs.length = n := ⟨_, rfl⟩
  obtain ⟨m, hm⟩ : ∃ m, ys.length = m := ⟨_, rfl⟩
  rw [u8s_length, hn] at hx ⊢
  rw [u8s_length, hm] at hy ⊢
  rw [hn] at hl
  have Hn := Lib.hid hn; clear hn
  have Hm := Lib.hid hm; clear hm
  have Hx := Lib.hid hx; clear hx
  have Hy := Lib.hid hy; clear hy
  by_cases hnm : n = m
  · subst hnm
    go_enter Tryz.func99, Tryz.ntmps99
    go_wp2_with fail
    go_loopw [13] (fun vi wr => ∃ i : Nat, vi = .int .i64 i ∧ i ≤ n ∧ xs.take i = ys.take i ∧ Below w.heap.size w wr) (fun vi _ => n - (intOf vi).toNat)
    case atStart => exact ⟨0, rfl, by omega, rfl, Below.refl _ _⟩
    case round =>
      obtain ⟨i, rfl, hi, ht, hB⟩ := hrel
      have Ht := Lib.hid ht; clear ht
      by_cases hlt : i < n
      · have hii : (i : Int) < (n : Int) := by omega
        have hlx : i < xs.length := by rw [Hn.out]; exact hlt
        have hly : i < ys.length := by rw [Hm.out]; exact hlt
        rcases Hx.out with ⟨g, o, c', e1, -, hr⟩ | ⟨e1, e2⟩
        · rcases Hy.out with ⟨g', o', c'', e1', -, hr'⟩ | ⟨e1', e2'⟩
          · injection e1 with e1 _ e3
            injection e1' with e1' _ e3'
            subst e1 e3 e1' e3'
            have z0 := below_cell hB (hr i _ (u8s_get (List.getElem?_eq_getElem hlx)))
            have z1 := below_cell hB (hr' i _ (u8s_get (List.getElem?_eq_getElem hly)))
            obtain ⟨a, ha⟩ : ∃ a, xs[i] = a := ⟨_, rfl⟩
            obtain ⟨b, hb⟩ : ∃ b, ys[i] = b := ⟨_, rfl⟩
            rw [ha] at z0
            rw [hb] at z1
            have Ha := Lib.hid ha; have Hb := Lib.hid hb
            clear ha hb hr hr'
            go_wp2_with fail
            refine wp_region_rg (fun _ => none) fol (by kernel_rfl) (fun W hW hh => ?_)
            clear hh
            have q0 : ∀ w1, Below W.heap.size W w1 → w1.cell? ⟨g, o + i, none⟩ = some (.int .u8 a) := fun w1 h => below_cell (below_trans hW h) z0
            have q1 : ∀ w1, Below W.heap.size W w1 → w1.cell? ⟨g', o' + i, none⟩ = some (.int .u8 b) := fun w1 h => below_cell (below_trans hW h) z1
            repeat ((first | refine lex_move _ (by first | exact Or.inl rfl | exact Or.inr rfl) rfl rfl ?_ | (refine lex_float ?_ rfl rfl (fun w1 hb1 hf1 => ?_) ?_; rotate_left; (go_simp; (try simp (disch := omega) only [IntWalk.i64_quo, IntWalk.rem_in, IntWalk.i64_in, IntWalk.u64_in, IntWalk.u32_in, IntWalk.u8_in, IntWalk.toNatUp, IntWalk.iteOmega]); (try go_simp); rfl)) | refine lex_skip rfl ?_); simp only [Act.put, Act.eval, Array.getD_eq_getD_getElem?, List.getElem?_toArray, List.getElem?_cons_zero, List.getElem?_cons_succ, Option.getD_some, List.setIfInBounds_toArray, List.set_cons_succ, List.set_cons_zero])
            refine lex_nil ?_
            clear q0 q1
            have hBW := hB.trans (hW.mono hB.size)
            by_cases hab : a = b
            · have hab' : (a != b) = false := by simp [hab]
              have Hab := Lib.hid hab; clear hab
              go_wp2_with fail
              refine ⟨⟨i + 1, by simp, by omega, ?_, hBW⟩, ?_⟩
              · rw [List.take_add_one, List.take_add_one, Ht.out, List.getElem?_eq_getElem hlx, List.getElem?_eq_getElem hly, Ha.out, Hb.out, Hab.out]
              · show n - (((i : Int) + 1).toNat) < n - ((i : Int).toNat)
                omega
            · have hab' : (a != b) = true := by simp [hab]
              have hne : decide (xs = ys) = false := by
                rw [decide_eq_false_iff_not]
                rintro rfl
                exact hab (Ha.out.symm.trans Hb.out)
              have Hne := Lib.hid hne; clear hne
              go_wp2_with fail
              go_ret
              rw [Hne.out]
              exact ⟨rfl, hBW⟩
          · have := congrArg List.length e2'
            rw [u8s_length, List.length_nil] at this
            omega
        · have := congrArg List.length e2
          rw [u8s_length, List.length_nil] at this
          omega
      · obtain rfl : i = n := by omega
        have heq : decide (xs = ys) = true := by
          rw [decide_eq_true_iff]
          have := Ht.out
          rwa [List.take_of_length_le (by rw [Hn.out]; exact Nat.le_refl _), List.take_of_length_le (by rw [Hm.out]; exact Nat.le_refl _)] at this
        have Heq := Lib.hid heq; clear heq
        go_wp2_with fail
        go_ret
        rw [Heq.out]
        exact ⟨rfl, hB⟩
  · have hnm' : ((n : Int) != (m : Int)) = true := by simp; omega
    have hne : decide (xs = ys) = false := by
      rw [decide_eq_false_iff_not]
      rintro rfl
      exact hnm (Hn.out.symm.trans Hm.out)
    have Hne := Lib.hid hne; clear hne
    go_enter Tryz.func99, Tryz.ntmps99
    go_wp2_with fail
    go_ret
    rw [Hne.out]
    exact ⟨rfl, Below.refl _ _⟩

/-- what was sealed, if anything was -/
def unsealed (bs : List Int) : Option (List Int) := if 4 ≤ bs.length ∧ sealOf (bs.take (bs.length - 4)) = bs.drop (bs.length - 4) then some (bs.take (bs.length - 4)) else none
theorem src_take {w : World} {g o c n m : Nat} {xs : List Value} (h : Src w (.slice (some ⟨g, o, none⟩) n c) xs) (hm : m ≤ xs.length) (c' : Nat) (hc' : m ≤ c') : Src w (.slice (some ⟨g, o, none⟩) m c') (xs.take m) := by
  rcases h with ⟨g', o', c1, e, -, hr⟩ | ⟨e, -⟩
  · injection e with e _ _
    injection e with e
    injection e with e1 e2
    subst e1 e2
    refine .inl ⟨g, o, c', by rw [List.length_take, Nat.min_eq_left hm], by rw [List.length_take, Nat.min_eq_left hm]; exact hc', fun j u hu => hr j u ?_⟩
    rw [List.getElem?_take] at hu
    split at hu
    · exact hu
    · cases hu
  · injection e with e
    cases e
theorem src_drop {w : World} {g o c n m : Nat} {xs : List Value} (h : Src w (.slice (some ⟨g, o, none⟩) n c) xs) (hm : m ≤ xs.length) (c' : Nat) (hc' : xs.length - m ≤ c') : Src w (.slice (some ⟨g, o + m, none⟩) (xs.length - m) c') (xs.drop m) := by
  rcases h with ⟨g', o', c1, e, -, hr⟩ | ⟨e, -⟩
  · injection e with e _ _
    injection e with e
    injection e with e1 e2
    subst e1 e2
    refine .inl ⟨g, o + m, c', by rw [List.length_drop], by rw [List.length_drop]; exact hc', fun j u hu => ?_⟩
    rw [List.getElem?_drop] at hu
    rw [Nat.add_assoc]
    exact hr _ u hu
  · injection e with e
    cases e
theorem u8s_take (bs : List Int) (n : Nat) : u8s (bs.take n) = (u8s bs).take n := by simp [u8s, List.map_take]
theorem u8s_drop (bs : List Int) (n : Nat) : u8s (bs.drop n) = (u8s bs).drop n := by simp [u8s, List.map_drop]
/-- what Unseal leaves -/
def UnsealPost (r : Option (List Int)) (B : Nat) (e : Ending) (w' : World) : Prop := match r with
  | some ts => ∃ u, e = .returned (.tuple #[u, .int .i64 0]) ∧ w'.ownsRow B 5 1 u ts.length (u8s ts)
  | none => ∃ k, k ≠ 0 ∧ e = .returned (.tuple #[.slice none 0 0, .int .i64 k])
set_option maxHeartbeats 1000000 in
set_option maxRecDepth 100000 in
theorem unseal_any (v : Value) (bs : List Int) (w : World) (hx : Src w v (u8s bs)) (hT : Tab w) (hl : bs.length ≤ 274877906944) (hb : ∀ b ∈ bs, 0 ≤ b ∧ b < 256) :
    Calls Tryz.prog 156 #[v] w fun e w' => UnsealPost (unsealed bs) w.heap.size e w' ∧ Below w.heap.size w w' := by
  obtain ⟨n, hn⟩ : ∃ n, bs.length = n := ⟨_, rfl⟩
  by_cases h4 : 4 ≤ n
  · obtain ⟨k, rfl⟩ : ∃ k, n = k + 4 := ⟨n - 4, by omega⟩
    rcases hx with ⟨g, o, c, rfl, hc, hr⟩ | ⟨-, e2⟩
    · rw [u8s_length, hn]
      have Hx := Lib.hid (show Src w (.slice (some ⟨g, o, none⟩) (k + 4) c) (u8s bs) from .inl ⟨g, o, c, by rw [u8s_length, hn], hc, hr⟩)
      rw [u8s_length, hn] at hc
      have ek : (((k + 4 : Nat) : Int) - 4) = (k : Int) := by omega
      have hlb : k + 4 ≤ 274877906944 := by omega
      have Hn := Lib.hid hn; clear hn
      clear hr
      go_enter Tryz.func156, Tryz.ntmps156
      obtain ⟨ts, hts⟩ : ∃ ts, bs.take k = ts := ⟨_, rfl⟩
      have hb1 : ∀ b ∈ ts, 0 ≤ b ∧ b < 256 := fun b h => hb b (List.mem_of_mem_take (by rw [hts]; exact h))
      have hlt : ts.length = k := by rw [← hts, List.length_take, Hn.out]; omega
      have hun : unsealed bs = if sealOf ts = bs.drop k then some ts else none := by
        unfold unsealed
        rw [Hn.out, show k + 4 - 4 = k by omega, hts]
        simp [show 4 ≤ k + 4 by omega]
      have Hun := Lib.hid hun; clear hun
      have HS := Lib.hid (fun w1 (h : Below w.heap.size w w1) => seal_any (.slice (some ⟨g, o, none⟩) k c) ts w1 (by
        have := (src_take Hx.out (by rw [u8s_length, Hn.out]; omega) c (show k ≤ c by omega)).below h
        rwa [← u8s_take, hts] at this) (hT.below h) (by omega) hb1)
      have Hlt := Lib.hid hlt
      have Hts := Lib.hid hts
      clear hb hb1 hlt hts
      go_wp2_with fail
      refine wp_region_rg_tail 9 (fun i => if i = 3 then some (fun v w' => ∃ (g' : Nat) (c' : Nat), v = .slice (some ⟨g', 0, none⟩) (k + 4) c' ∧ k + 4 ≤ c' ∧ Src w' v (u8s (ts ++ sealOf ts))) else none) fol (by kernel_rfl) (fun W3 hW3 hh => ?_)
      clear hh
      simp only [List.take_succ_cons, List.take_zero, List.drop_succ_cons, List.drop_zero]
      repeat ((first | refine lex_move _ (by first | exact Or.inl rfl | exact Or.inr rfl) rfl rfl ?_ | (refine lex_float ?_ rfl rfl (fun w1 hb1 hf1 => ?_) ?_; rotate_left; (go_simp; (try simp (disch := omega) only [IntWalk.i64_quo, IntWalk.rem_in, IntWalk.i64_in, IntWalk.u64_in, IntWalk.u32_in, IntWalk.u8_in, IntWalk.toNatUp, IntWalk.iteOmega]); (try go_simp); rfl)) | refine lex_skip rfl ?_); simp only [Act.put, Act.eval, Array.getD_eq_getD_getElem?, List.getElem?_toArray, List.getElem?_cons_zero, List.getElem?_cons_succ, Option.getD_some, List.setIfInBounds_toArray, List.set_cons_succ, List.set_cons_zero])
      refine lex_make _ rfl (by exact fun _ _ _ ⟨g', c', h1, h2, h3⟩ hb => ⟨g', c', h1, h2, h3.below hb⟩) rfl (fun w1 hb1 hf1 => ?_) ?_
      · have hb1' := hb1
        (unfold makes; go_simp; simp only [makesUpon])
        refine (HS.out w1 (below_trans hW3 hb1')).mono ?_
        rintro e w' ⟨u, rfl, hown, hbb⟩
        rw [Hlt.out] at hown
        obtain ⟨g', c', rfl, -, -, hc1, -⟩ := owns_parts hown (by omega)
        exact ⟨_, rfl, hbb, g', c', rfl, hc1, Src.of_owns hown⟩
      rintro v9 W4 hB9 ⟨g', c', rfl, hc1, hsrc⟩
      simp only [Act.put, Act.eval, Array.getD_eq_getD_getElem?, List.getElem?_toArray, List.getElem?_cons_zero, List.getElem?_cons_succ, Option.getD_some, List.setIfInBounds_toArray, List.set_cons_succ, List.set_cons_zero]
      repeat ((first | refine lex_move _ (by first | exact Or.inl rfl | exact Or.inr rfl) rfl rfl ?_ | (refine lex_float ?_ rfl rfl (fun w1 hb1 hf1 => ?_) ?_; rotate_left; (go_simp; (try simp (disch := omega) only [IntWalk.i64_quo, IntWalk.rem_in, IntWalk.i64_in, IntWalk.u64_in, IntWalk.u32_in, IntWalk.u8_in, IntWalk.toNatUp, IntWalk.iteOmega]); (try go_simp); rfl)) | refine lex_skip rfl ?_); simp only [Act.put, Act.eval, Array.getD_eq_getD_getElem?, List.getElem?_toArray, List.getElem?_cons_zero, List.getElem?_cons_succ, Option.getD_some, List.setIfInBounds_toArray, List.set_cons_succ, List.set_cons_zero])
      refine lex_nil ?_
      have hW4 := below_trans hW3 hB9
      have hs1 : Src W4 (.slice (some ⟨g', k, none⟩) 4 (c' - k)) (u8s (sealOf ts)) := by
        have h1 := src_drop hsrc (m := k) (by rw [u8s_length, List.length_append, Hlt.out]; omega) (c' - k) (by rw [u8s_length, List.length_append, Hlt.out]; simp [sealOf]; omega)
        rw [← u8s_drop, List.drop_left' Hlt.out, u8s_length, List.length_append, Hlt.out, Nat.zero_add, Nat.add_sub_cancel_left] at h1
        exact h1
      have hs2 : Src W4 (.slice (some ⟨g, o + k, none⟩) 4 (c - k)) (u8s (bs.drop k)) := by
        have h1 := src_drop (Hx.out.below hW4) (m := k) (by rw [u8s_length, Hn.out]; omega) (c - k) (by rw [u8s_length, Hn.out]; omega)
        rw [← u8s_drop, u8s_length, Hn.out, Nat.add_sub_cancel_left] at h1
        exact h1
      have HE := Lib.hid (equal_any _ _ (sealOf ts) (bs.drop k) W4 hs1 hs2 (by simp [sealOf]))
      clear hs1 hs2 hsrc
      go_wp2_with fail
      refine HE.out.mono ?_
      rintro e W5 ⟨rfl, hB5⟩
      have hW5 := hW4.trans (hB5.mono hW4.size)
      by_cases heq : sealOf ts = bs.drop k
      · rw [decide_eq_true heq]
        rw [if_pos heq] at Hun
        have Hun := Lib.hid Hun.out
        have HC := Lib.hid (clone_any (.slice (some ⟨g, o, none⟩) k c) (u8s ts) W5 (by
          have := (src_take Hx.out (by rw [u8s_length, Hn.out]; omega) c (show k ≤ c by omega)).below hW5
          rwa [← u8s_take, Hts.out] at this) (u8s_one _) (by rw [u8s_length, Hlt.out]; omega))
        clear heq
        go_wp2_with fail
        refine HC.out.mono ?_
        rintro e W6 ⟨u, rfl, hown, hB6⟩
        have Hown := Lib.hid hown; clear hown
        go_wp2_with fail
        go_ret2
        rw [Hun.out]
        have hown := Hown.out
        rw [u8s_length] at hown
        exact ⟨⟨u, rfl, owns_base hown (fun i hi => Nat.le_trans hW5.size (hown.lt i hi).1)⟩, hW5.trans (hB6.mono hW5.size)⟩
      · rw [decide_eq_false heq]
        rw [if_neg heq] at Hun
        have Hun := Lib.hid Hun.out
        clear heq
        go_wp2_with fail
        go_ret2
        rw [Hun.out]
        exact ⟨⟨13, by decide, rfl⟩, hW5⟩
    · have := congrArg List.length e2
      rw [u8s_length, List.length_nil] at this
      omega
  · obtain ⟨ax, cx, rfl, -⟩ := hx.shape
    rw [u8s_length, hn]
    have hun : unsealed bs = none := by
      unfold unsealed
      rw [if_neg (by rw [hn]; omega)]
    have Hun := Lib.hid hun; clear hun
    have h4' : ((n : Int) - 4) < 0 := by omega
    have hnl : n ≤ 274877906944 := by omega
    clear hx hn
    go_enter Tryz.func156, Tryz.ntmps156
    go_wp2_with fail
    go_ret2
    rw [Hun.out]
    exact ⟨⟨10, by decide, rfl⟩, Below.refl _ _⟩
end Go.Proofs.YtbjofbhhnmehgaaGreatDoor.TT
namespace Go.Proofs.YtbjofbhhnmehgaaGreatDoor.TT
open Go.RowKit Go.RG Go.Hp Go.Proofs.YtbjofbhhnmehgaaGreatDoor


theorem sdnv_spec (n : Nat) : ∃ m, (sdnv n).length = m + 1 ∧ n < 128 ^ (m + 1) ∧ (m = 0 ∨ 128 ^ m ≤ n) ∧ (sdnv n)[m]? = some ((n : Int) % 128) ∧ ∀ i, i < m → (sdnv n)[i]? = some (((n / 128 ^ (m - i) : Nat) : Int) % 128 + 128) := by
  induction n using Nat.strongRecOn with
  | _ n ih =>
    rcases Nat.lt_or_ge n 128 with h | h
    · have e : sdnv n = [(n : Int) % 128] := by
        unfold sdnv
        rw [show n / 128 = 0 by omega, digitsHi_zero]
        rfl
      exact ⟨0, by rw [e]; rfl, by simpa using h, .inl rfl, by rw [e]; rfl, fun i hi => absurd hi (Nat.not_lt_zero _)⟩
    · obtain ⟨m, h1, h2, h3, h4, h5⟩ := ih (n / 128) (by omega)
      have e : ∃ d, sdnv (n / 128) = d ++ [((n / 128 : Nat) : Int) % 128] ∧ sdnv n = d ++ [((n / 128 : Nat) : Int) % 128 + 128] ++ [(n : Int) % 128] := by
        refine ⟨digitsHi (n / 128 / 128), rfl, ?_⟩
        conv => lhs; unfold sdnv
        rw [digitsHi_pos (by omega)]
      obtain ⟨d, e1, e2⟩ := e
      have hd : d.length = m := by rw [e1] at h1; simpa using h1
      refine ⟨m + 1, by rw [e2]; simp [hd], ?_, .inr ?_, ?_, fun i hi => ?_⟩
      · rw [Nat.pow_succ]
        omega
      · rcases h3 with rfl | h3
        · simpa using h
        · rw [Nat.pow_succ]
          omega
      · rw [e2, List.getElem?_append_right (by simp [hd])]
        simp [hd]
      · rw [e2, List.getElem?_append_left (by simp [hd]; omega)]
        rcases Nat.lt_or_ge i m with him | him
        · rw [List.getElem?_append_left (by omega)]
          have := h5 i him
          rw [e1, List.getElem?_append_left (by omega)] at this
          rw [this, Nat.div_div_eq_div_mul, show m + 1 - i = (m - i) + 1 by omega, Nat.pow_succ, Nat.mul_comm]
        · obtain rfl : i = m := by omega
          rw [List.getElem?_append_right (by omega), hd]
          simp [show i + 1 - i = 1 by omega]
theorem and127b (x : Int) (h : 0 ≤ x ∧ x < 256) : bits .and .u8 x 127 = x % 128 :=
  bits_mask .u8 8 (by decide) wraps_u8 7 (by decide) x (by omega) (by omega)
theorem or7 (a : Nat) (x : Int) (h : 0 ≤ x ∧ x < 128) (ha : a < 144115188075855872) : bits .or .u64 ((a : Int) * 128) x = (a : Int) * 128 + x :=
  bits_join .u64 64 (by decide) wraps_u64 7 ((a : Int) * 128) x (by omega) (by omega) (by omega) (by omega) (by omega) (by omega)
/-- the number that the first digits make -/
def accN (n m i : Nat) : Nat := if i = 0 then 0 else n / 128 ^ (m + 1 - i)
set_option maxHeartbeats 2000000 in
set_option maxRecDepth 100000 in
theorem number_any (v : Value) (n : Nat) (hn : n < 18446744073709551616) (bs : List Int) (hp : sdnv n <+: bs) (w : World) (hv : Src w v (u8s bs)) (hl : bs.length ≤ 1099511627776) :
    Calls Tryz.prog 141 #[v] w fun e w' => e = .returned (.tuple #[.int .u64 n, .int .i64 (sdnv n).length, .int .i64 0]) ∧ Below w.heap.size w w' := by
  obtain ⟨m, hm1, hm2, hm3, hm4, hm5⟩ := sdnv_spec n
  have hm9 : m ≤ 9 := by have := sdnv_length n hn; omega
  have hlen := hp.length_le
  rw [hm1] at hlen
  have hget : ∀ i, i ≤ m → bs[i]? = (sdnv n)[i]? := fun i hi => by
    obtain ⟨r, rfl⟩ := hp
    rw [List.getElem?_append_left (by omega)]
  obtain ⟨k, hk⟩ : ∃ k, bs.length = k := ⟨_, rfl⟩
  obtain ⟨g, o, c, rfl, hc, hr⟩ : ∃ g o c, v = .slice (some ⟨g, o, none⟩) k c ∧ k ≤ c ∧ ∀ j u, (u8s bs)[j]? = some u → w.cell? ⟨g, o + j, none⟩ = some u := by
    rcases hv with ⟨g, o, c, rfl, hc, hr⟩ | ⟨-, h2⟩
    · rw [u8s_length, hk] at hc ⊢
      exact ⟨g, o, c, rfl, hc, hr⟩
    · have := congrArg List.length h2
      rw [u8s_length] at this
      simp at this
      subst this
      simp at hlen
  rw [hk] at hlen hl
  have hcell : ∀ i, i < m → w.cell? ⟨g, o + i, none⟩ = some (.int .u8 (((n / 128 ^ (m - i) : Nat) : Int) % 128 + 128)) := fun i hi => hr i _ (u8s_get (by rw [hget i (by omega)]; exact hm5 i hi))
  have hlast : w.cell? ⟨g, o + m, none⟩ = some (.int .u8 ((n : Int) % 128)) := hr m _ (u8s_get (by rw [hget m (Nat.le_refl _)]; exact hm4))
  have HC := Lib.hid (And.intro hcell hlast)
  have Hp := Lib.hid (And.intro hm1 (And.intro hm2 hm3))
  clear hr hcell hlast hget hm1 hm2 hm3 hm4 hm5 hp hk
  go_enter Tryz.func141, Tryz.ntmps141
  go_wp2_with fail
  go_step3
  go_wp2_with fail
  go_loopw [5, 10] (fun va vi wr => ∃ i : Nat, vi = .int .i64 i ∧ i ≤ m ∧ va = .int .u64 (accN n m i) ∧ Below w.heap.size w wr) (fun _ vi _ => 20 - (intOf vi).toNat)
  case atStart => exact ⟨0, rfl, Nat.zero_le _, rfl, Below.refl _ _⟩
  case round =>
    obtain ⟨i, rfl, hi, rfl, hB⟩ := hrel
    have hik : (i : Int) < (k : Int) := by omega
    have hi10 : ((i : Int) == 10) = false := by rw [beq_eq_false_iff_ne]; omega
    have hac : accN n m i < 144115188075855872 := by
      unfold accN
      split
      · decide
      · refine Nat.lt_of_le_of_lt (Nat.div_le_div_left (c := 128) ?_ (by decide)) (by omega)
        rw [show m + 1 - i = (m - i) + 1 by omega, Nat.pow_succ]
        have : 0 < 128 ^ (m - i) := Nat.pow_pos (by decide)
        omega
    obtain ⟨a, ha⟩ : ∃ a, accN n m i = a := ⟨_, rfl⟩
    rw [ha] at hac ⊢
    have hsh : (a : Int) / 144115188075855872 = 0 := by omega
    rcases Nat.lt_or_ge i m with him | him
    · have hcell := below_cell hB (HC.out.1 i him)
      obtain ⟨q, hq⟩ : ∃ q, n / 128 ^ (m - i) = q := ⟨_, rfl⟩
      rw [hq] at hcell
      obtain ⟨x, hx⟩ : ∃ x : Int, (q : Int) % 128 + 128 = x := ⟨_, rfl⟩
      rw [hx] at hcell
      have hx0 : 128 ≤ x ∧ x < 256 := by omega
      have hA := and127b x (by omega)
      have hxm : x % 128 = (q : Int) % 128 := by omega
      rw [hxm] at hA
      have hO := or7 a ((q : Int) % 128) (by omega) hac
      have hx1 : ¬ x < 128 := by omega
      clear hx hxm
      have hnext : accN n m (i + 1) = q := by
        unfold accN
        rw [if_neg (by omega), show m + 1 - (i + 1) = m - i by omega, hq]
      have haq : (a : Int) * 128 + (q : Int) % 128 = (q : Int) := by
        have e1 : a = if i = 0 then 0 else n / 128 ^ (m + 1 - i) := ha.symm
        by_cases hi0 : i = 0
        · rw [if_pos hi0] at e1
          subst hi0
          have h2 := Hp.out.2.1
          rw [Nat.pow_succ] at h2
          have h3 : n / 128 ^ m < 128 := Nat.div_lt_of_lt_mul (by rw [Nat.mul_comm]; rw [Nat.mul_comm] at h2; omega)
          rw [Nat.sub_zero] at hq
          omega
        · rw [if_neg hi0, show m + 1 - i = (m - i) + 1 by omega, Nat.pow_succ, ← Nat.div_div_eq_div_mul, hq] at e1
          omega
      have HN := Lib.hid (And.intro hnext haq)
      clear hq hnext haq ha
      by_cases hi0 : (0 : Int) < (i : Int)
      · go_wp2_with fail
        refine ⟨⟨i + 1, by simp, by omega, by rw [HN.out.1, HN.out.2], hB⟩, ?_⟩
        show 20 - ((i : Int) + 1).toNat < 20 - (i : Int).toNat
        omega
      · go_wp2_with fail
        refine ⟨⟨i + 1, by simp, by omega, by rw [HN.out.1, HN.out.2], hB⟩, ?_⟩
        show 20 - ((i : Int) + 1).toNat < 20 - (i : Int).toNat
        omega
    · obtain rfl : i = m := by omega
      have hcell := below_cell hB HC.out.2
      obtain ⟨x, hx⟩ : ∃ x : Int, (n : Int) % 128 = x := ⟨_, rfl⟩
      rw [hx] at hcell
      have hx0 : 0 ≤ x ∧ x < 128 := by omega
      have hA := and127b x (by omega)
      have hxm : x % 128 = x := by omega
      rw [hxm] at hA
      have hO := or7 a x hx0 hac
      have hx1 : x < 128 := hx0.2
      have haq : (a : Int) * 128 + x = (n : Int) := by
        have e1 : a = if i = 0 then 0 else n / 128 ^ (i + 1 - i) := ha.symm
        rcases Nat.eq_zero_or_pos i with hi0 | hi0
        · subst hi0
          rw [if_pos rfl] at e1
          have h2 := Hp.out.2.1
          simp at h2
          omega
        · rw [if_neg (by omega), show i + 1 - i = 1 by omega, Nat.pow_one] at e1
          omega
      obtain ⟨y, hy, hyc⟩ : ∃ y : Int, (y == 128) = false ∧ wr.cell? ⟨g, o, none⟩ = some (.int .u8 y) := by
        rcases Nat.eq_zero_or_pos i with hi0 | hi0
        · subst hi0
          exact ⟨x, by rw [beq_eq_false_iff_ne]; omega, hcell⟩
        · have h3 := below_cell hB (HC.out.1 0 hi0)
          rw [Nat.sub_zero] at h3
          have h4 : 128 ^ i ≤ n := Hp.out.2.2.resolve_left (by omega)
          have h5 := Hp.out.2.1
          have h6 : 0 < 128 ^ i := Nat.pow_pos (by decide)
          have h7 : 1 ≤ n / 128 ^ i := (Nat.le_div_iff_mul_le h6).2 (by omega)
          have h8 : n / 128 ^ i < 128 := Nat.div_lt_of_lt_mul (by rw [Nat.pow_succ] at h5; exact h5)
          exact ⟨_, by rw [beq_eq_false_iff_ne]; omega, h3⟩
      have HN := Lib.hid haq
      have hxw := IntWalk.u64_in x (by omega)
      clear hx hxm haq ha hx0
      by_cases hi0 : (0 : Int) < (i : Int)
      · go_wp2_with fail
        refine ⟨rfl, .tuple #[.int .u64 ((a : Int) * 128 + x), .int .i64 ((i : Int) + 1), .int .i64 0], by simp [results, Tryz.f141, go_sem], ?_, hB⟩
        rw [HN.out, Hp.out.1]
        rfl
      · go_wp2_with fail
        refine ⟨rfl, .tuple #[.int .u64 ((a : Int) * 128 + x), .int .i64 ((i : Int) + 1), .int .i64 0], by simp [results, Tryz.f141, go_sem], ?_, hB⟩
        rw [HN.out, Hp.out.1]
        rfl
end Go.Proofs.YtbjofbhhnmehgaaGreatDoor.TT
namespace Go.Proofs.YtbjofbhhnmehgaaGreatDoor.TT
open Go.RowKit Go.RG Go.Hp Go.Proofs.YtbjofbhhnmehgaaGreatDoor



/-- a map's elements, as they stand -/
def asIs (v : Value) : Option (DataW Value × List MemPlace) := some (.held v, [])
/-- a map from numbers to slices: which numbers it has, and what it gives for each -/
structure CacheAt (w : World) (bm : Nat) (ks : List Int) (V : Int → Value) : Prop where
  some' : ∃ D, w.ownsMap Tryz.prog 3 asIs bm ks.length D ∧ Maps.size D = ks.length ∧ ks.Nodup ∧ (∀ i : Int, (Lit.int .i64 i).wf = true → D.atKey (.int .i64 i) (.held (.slice none 0 0)) = .held (V i) ∧ Maps.has D (.int .i64 i) = decide (i ∈ ks)) ∧ ∀ i, i ∉ ks → V i = .slice none 0 0
theorem CacheAt.keep {w w' : World} {bm : Nat} {ks : List Int} {V : Int → Value} (h : CacheAt w bm ks V) (hb : w'.heap[bm]? = w.heap[bm]?) : CacheAt w' bm ks V := by
  obtain ⟨D, ⟨es, clock, h1, h2⟩, h3⟩ := h.some'
  exact ⟨D, ⟨es, clock, hb.trans h1, h2⟩, h3⟩
theorem CacheAt.lt {w : World} {bm : Nat} {ks : List Int} {V : Int → Value} (h : CacheAt w bm ks V) : bm < w.heap.size := by
  obtain ⟨D, h1, -⟩ := h.some'
  exact h1.lt

/-- what a disk is -/
structure Dsk where
  dur : List (List Int)
  torn : List Bool
  ks : List Int
  cache : Int → List (List Int)
  off : Bool
  fuse : Int
/-- sectors, one behind the other -/
def flat (l : List (List Int)) : List Value := u8s l.flatten
/-- a disk's blocks -/
structure Bks where
  d : Nat
  g : Nat
  t : Nat
  m : Nat
  V : Int → Value
/-- the disk's head -/
def HeadAt (w : World) (b : Bks) (x : Dsk) : Prop := w.heap[b.d]? = some (.cells #[.slice (some ⟨b.g, 0, none⟩) x.dur.length x.dur.length, .slice (some ⟨b.t, 0, none⟩) x.dur.length x.dur.length, .map (some b.m), .bool x.off, .int .i64 x.fuse] 84 (0, 0))
structure DskAt (w : World) (b : Bks) (x : Dsk) : Prop where
  head : HeadAt w b x
  durs : Row w b.g 124 (flat x.dur)
  torns : Row w b.t 4 (x.torn.map Value.bool)
  map : CacheAt w b.m x.ks b.V
  rows : ∀ i, i ∈ x.ks → 0 < (x.cache i).length ∧ w.ownsRow 0 124 128 (b.V i) (x.cache i).length (flat (x.cache i))
  none' : ∀ i, i ∉ x.ks → x.cache i = []
  len : x.torn.length = x.dur.length
  pos : 0 < x.dur.length
  lim : x.dur.length ≤ 65536
  in' : ∀ i ∈ x.ks, 0 ≤ i ∧ i < (x.dur.length : Int)
  s128 : ∀ s ∈ x.dur, s.length = 128
  c128 : ∀ i, ∀ s ∈ x.cache i, s.length = 128
  ne1 : b.d ≠ b.g ∧ b.d ≠ b.t ∧ b.d ≠ b.m ∧ b.g ≠ b.t ∧ b.g ≠ b.m ∧ b.t ≠ b.m
  ne2 : ∀ i k, (b.V i).ownBlock = some k → k ≠ b.d ∧ k ≠ b.g ∧ k ≠ b.t ∧ k ≠ b.m
  ne3 : ∀ i j k, i ≠ j → (b.V i).ownBlock = some k → (b.V j).ownBlock ≠ some k
/-- the blocks of a disk -/
def Bks.all (b : Bks) (k : Nat) : Prop := k = b.d ∨ k = b.g ∨ k = b.t ∨ k = b.m ∨ ∃ i, (b.V i).ownBlock = some k
theorem HeadAt.cells {w : World} {b : Bks} {x : Dsk} (h : HeadAt w b x) : w.cell? ⟨b.d, 0, none⟩ = some (.slice (some ⟨b.g, 0, none⟩) x.dur.length x.dur.length) ∧ w.cell? ⟨b.d, 1, none⟩ = some (.slice (some ⟨b.t, 0, none⟩) x.dur.length x.dur.length) ∧ w.cell? ⟨b.d, 2, none⟩ = some (.map (some b.m)) ∧
    w.cell? ⟨b.d, 3, none⟩ = some (.bool x.off) ∧ w.cell? ⟨b.d, 4, none⟩ = some (.int .i64 x.fuse) ∧ ∀ j, w.frozen? ⟨b.d, j, none⟩ = false := by
  unfold HeadAt at h
  simp [World.cell?, World.frozen?, h]
theorem DskAt.keep {w w' : World} {b : Bks} {x : Dsk} (h : DskAt w b x) (hk : ∀ k, b.all k → w'.heap[k]? = w.heap[k]?) : DskAt w' b x where
  head := by unfold HeadAt; rw [hk _ (.inl rfl)]; exact h.head
  durs := by unfold Row; rw [hk _ (.inr (.inl rfl))]; exact h.durs
  torns := by unfold Row; rw [hk _ (.inr (.inr (.inl rfl)))]; exact h.torns
  map := h.map.keep (hk _ (.inr (.inr (.inr (.inl rfl)))))
  rows := fun i hi => ⟨(h.rows i hi).1, owns_of_block (h.rows i hi).2 fun k e => hk k (.inr (.inr (.inr (.inr ⟨i, e⟩))))⟩
  none' := h.none'
  len := h.len
  pos := h.pos
  lim := h.lim
  in' := h.in'
  s128 := h.s128
  c128 := h.c128
  ne1 := h.ne1
  ne2 := h.ne2
  ne3 := h.ne3
theorem DskAt.lt {w : World} {b : Bks} {x : Dsk} (h : DskAt w b x) : ∀ k, b.all k → k < w.heap.size := by
  rintro k (rfl | rfl | rfl | rfl | ⟨i, e⟩)
  · exact block_lt_of_heap h.head
  · exact h.durs.lt
  · exact h.torns.lt
  · exact h.map.lt
  · by_cases hi : i ∈ x.ks
    · exact owns_lt (h.rows i hi).2 e
    · obtain ⟨D, -, -, -, -, h0⟩ := h.map.some'
      rw [h0 i hi] at e
      cases e
theorem DskAt.below {w w' : World} {b : Bks} {x : Dsk} (h : DskAt w b x) (hb : Below w.heap.size w w') : DskAt w' b x := h.keep fun k hk => hb.block k (h.lt k hk)

theorem und_cache : Tryz.prog.underlying 82 = some (.map 3 80) := by kernel_rfl
set_option maxRecDepth 100000 in
theorem made_any (b : Bks) (x : Dsk) (w : World) (h : HeadAt w b x) : Calls Tryz.prog 72 #[.pointer (some ⟨b.d, 0, none⟩)] w fun e w' => e = .returned (.bool true) ∧ w = w' := by
  obtain ⟨-, -, c2, -⟩ := h.cells
  have hn := fun w => run_neq_map_nil (P := Tryz.prog) w 82 _ _ (some b.m) und_cache
  go_enter Tryz.func72, Tryz.ntmps72
  go_wp2_with fail
  go_ret
  exact ⟨rfl, rfl⟩
set_option maxRecDepth 100000 in
theorem sectors_any (b : Bks) (x : Dsk) (w : World) (h : HeadAt w b x) : Calls Tryz.prog 75 #[.pointer (some ⟨b.d, 0, none⟩)] w fun e w' => e = .returned (.int .i64 x.dur.length) ∧ w = w' := by
  obtain ⟨c0, -⟩ := h.cells
  go_enter Tryz.func75, Tryz.ntmps75
  go_wp2_with fail
  refine (made_any b x w h).mono ?_
  rintro e w' ⟨rfl, rfl⟩
  go_wp2_with fail
  go_ret
  exact ⟨rfl, rfl⟩
/-- is this one of the disk's sectors? -/
def onDisk (x : Dsk) (i : Int) : Bool := decide (0 ≤ i) && decide (i < (x.dur.length : Int))
set_option maxRecDepth 100000 in
theorem has_any (b : Bks) (x : Dsk) (i : Int) (w : World) (h : HeadAt w b x) : Calls Tryz.prog 113 #[.pointer (some ⟨b.d, 0, none⟩), .int .i64 i] w fun e w' => e = .returned (.bool (onDisk x i)) ∧ w = w' := by
  obtain ⟨c0, -⟩ := h.cells
  go_enter Tryz.func113, Tryz.ntmps113
  go_wp2_with fail
  refine (made_any b x w h).mono ?_
  rintro e w' ⟨rfl, rfl⟩
  by_cases h0 : 0 ≤ i
  · by_cases h1 : i < (x.dur.length : Int)
    · have hr : onDisk x i = true := by simp [onDisk, h0, h1]
      have Hr := Lib.hid hr; clear hr
      go_wp2_with fail
      go_ret
      exact ⟨by rw [Hr.out]; simp [h0, h1], rfl⟩
    · have hr : onDisk x i = false := by simp [onDisk, h1]
      have Hr := Lib.hid hr; clear hr
      go_wp2_with fail
      go_ret
      exact ⟨by rw [Hr.out]; simp [h0, h1], rfl⟩
  · have hr : onDisk x i = false := by simp [onDisk, h0]
    have Hr := Lib.hid hr; clear hr
    go_wp2_with fail
    go_ret
    exact ⟨by rw [Hr.out]; simp [h0], rfl⟩
set_option maxRecDepth 100000 in
theorem down_any (b : Bks) (x : Dsk) (w : World) (h : HeadAt w b x) : Calls Tryz.prog 41 #[.pointer (some ⟨b.d, 0, none⟩)] w fun e w' => e = .returned (.bool x.off) ∧ w = w' := by
  obtain ⟨-, -, -, c3, -⟩ := h.cells
  go_enter Tryz.func41, Tryz.ntmps41
  go_wp2_with fail
  refine (made_any b x w h).mono ?_
  rintro e w' ⟨rfl, rfl⟩
  go_wp2_with fail
  go_ret
  exact ⟨rfl, rfl⟩
end Go.Proofs.YtbjofbhhnmehgaaGreatDoor.TT
namespace Go.Proofs.YtbjofbhhnmehgaaGreatDoor.TT
open Go.RowKit Go.RG Go.Hp Go.Proofs.YtbjofbhhnmehgaaGreatDoor



/-- does the operation come ahead of the power's failing; and the disk behind it -/
def goesB (x : Dsk) : Bool := !x.off && decide (x.fuse ≠ 0)
def goesD (x : Dsk) : Dsk := if x.off then x else if x.fuse = 0 then { x with off := true, fuse := -1 } else if 0 < x.fuse then { x with fuse := x.fuse - 1 } else x
theorem DskAt.headed {w w' : World} {b : Bks} {x : Dsk} (h : DskAt w b x) (hX : Ext (· = b.d) w w') (off : Bool) (fuse : Int) (hh : HeadAt w' b { x with off := off, fuse := fuse }) : DskAt w' b { x with off := off, fuse := fuse } := by
  have hk : ∀ k, b.all k → k ≠ b.d → w'.heap[k]? = w.heap[k]? := fun k hk hn => hX.block k (h.lt k hk) hn
  exact { head := hh, durs := by unfold Row; rw [hk _ (.inr (.inl rfl)) (Ne.symm h.ne1.1)]; exact h.durs, torns := by unfold Row; rw [hk _ (.inr (.inr (.inl rfl))) (Ne.symm h.ne1.2.1)]; exact h.torns,
          map := h.map.keep (hk _ (.inr (.inr (.inr (.inl rfl)))) (Ne.symm h.ne1.2.2.1)), rows := fun i hi => ⟨(h.rows i hi).1, owns_of_block (h.rows i hi).2 fun k e => hk k (.inr (.inr (.inr (.inr ⟨i, e⟩)))) (h.ne2 i k e).1⟩,
          none' := h.none', len := h.len, pos := h.pos, lim := h.lim, in' := h.in', s128 := h.s128, c128 := h.c128, ne1 := h.ne1, ne2 := h.ne2, ne3 := h.ne3 }
theorem heap_set {W : World} {b i : Nat} {cs : Array Value} {T : TypeId} (u : Value) (h : W.heap[b]? = some (.cells cs T (0, 0))) : (W.setCell ⟨b, i, none⟩ u).heap[b]? = some (.cells (cs.setIfInBounds i u) T (0, 0)) := by
  rw [setCell_eq_setRow W b i cs T (0, 0) u h]; exact setRow_heap W b _ _ T (0, 0) h
theorem HeadAt.off {w : World} {b : Bks} {x : Dsk} (h : HeadAt w b x) (o : Bool) : HeadAt (w.setCell ⟨b.d, 3, none⟩ (.bool o)) b { x with off := o } := by
  have := heap_set (i := 3) (.bool o) h
  simpa [HeadAt] using this
theorem HeadAt.fuse {w : World} {b : Bks} {x : Dsk} (h : HeadAt w b x) (f : Int) : HeadAt (w.setCell ⟨b.d, 4, none⟩ (.int .i64 f)) b { x with fuse := f } := by
  have := heap_set (i := 4) (.int .i64 f) h
  simpa [HeadAt] using this
set_option maxRecDepth 100000 in
theorem goes_any (b : Bks) (x : Dsk) (w : World) (h : HeadAt w b x) (hf : x.fuse ≤ 9223372036854775807 ∧ -1 ≤ x.fuse) : Calls Tryz.prog 114 #[.pointer (some ⟨b.d, 0, none⟩)] w fun e w' => e = .returned (.bool (goesB x)) ∧ HeadAt w' b (goesD x) ∧ Ext (· = b.d) w w' := by
  obtain ⟨-, -, -, c3, c4, f0⟩ := h.cells
  have H := Lib.hid h; clear h
  obtain ⟨fz, hfz⟩ : ∃ fz, x.fuse = fz := ⟨_, rfl⟩
  rw [hfz] at c4 hf
  cases ho : x.off
  · rw [ho] at c3
    by_cases h0 : fz = 0
    · have e1 : goesB x = false := by simp [goesB, hfz, h0]
      have e2 : goesD x = { x with off := true, fuse := -1 } := by simp [goesD, ho, hfz, h0]
      have HE := Lib.hid (And.intro e1 e2)
      clear e1 e2 ho hfz
      subst h0
      go_enter Tryz.func114, Tryz.ntmps114
      go_wp2_with fail
      go_ret
      rw [HE.out.1, HE.out.2]
      exact ⟨rfl, (H.out.off true).fuse (-1), (Ext.setCell (S := (· = b.d)) (p := ⟨b.d, 3, none⟩) rfl _).trans (Ext.setCell (S := (· = b.d)) (p := ⟨b.d, 4, none⟩) rfl _) fun _ _ h => h⟩
    · by_cases h1 : 0 < fz
      · have e1 : goesB x = true := by simp [goesB, ho, hfz, h0]
        have e2 : goesD x = { x with fuse := fz - 1 } := by simp [goesD, ho, hfz, h0, h1]
        have HE := Lib.hid (And.intro e1 e2)
        have h0' : (fz == 0) = false := by rw [beq_eq_false_iff_ne]; exact h0
        clear e1 e2 ho hfz
        go_enter Tryz.func114, Tryz.ntmps114
        go_wp2_with fail
        go_ret
        rw [HE.out.1, HE.out.2]
        exact ⟨rfl, H.out.fuse _, Ext.setCell (S := (· = b.d)) (p := ⟨b.d, 4, none⟩) rfl _⟩
      · have e1 : goesB x = true := by simp [goesB, ho, hfz, h0]
        have e2 : goesD x = x := by simp [goesD, ho, hfz, h0, h1]
        have HE := Lib.hid (And.intro e1 e2)
        have h0' : (fz == 0) = false := by rw [beq_eq_false_iff_ne]; exact h0
        clear e1 e2 ho hfz
        go_enter Tryz.func114, Tryz.ntmps114
        go_wp2_with fail
        go_ret
        rw [HE.out.1, HE.out.2]
        exact ⟨rfl, H.out, Ext.refl _ _⟩
  · rw [ho] at c3
    have e1 : goesB x = false := by simp [goesB, ho]
    have e2 : goesD x = x := by simp [goesD, ho]
    have HE := Lib.hid (And.intro e1 e2)
    clear e1 e2 ho hfz
    go_enter Tryz.func114, Tryz.ntmps114
    go_wp2_with fail
    go_ret
    rw [HE.out.1, HE.out.2]
    exact ⟨rfl, H.out, Ext.refl _ _⟩

/-- a disk of zeros -/
def zeroDsk (n : Nat) : Dsk := { dur := List.replicate n (List.replicate 128 0), torn := List.replicate n false, ks := [], cache := fun _ => [], off := false, fuse := -1 }
theorem und_sectors : Tryz.prog.underlying 80 = some (.slice 124) := by kernel_rfl
theorem und_bools : Tryz.prog.underlying 81 = some (.slice 4) := by kernel_rfl
theorem info_sector : (Tryz.prog.info? 124).map (fun i => (i.zero.map Value.cells, i.size, i.bytes)) = some (some ((List.replicate 128 (Value.int .u8 0)).toArray), 128, 128) := by kernel_rfl
theorem info_bool : (Tryz.prog.info? 4).map (fun i => (i.zero, i.size, i.bytes)) = some (some (.bool false), 1, 1) := by kernel_rfl
theorem flat_rep (n m : Nat) : flat (List.replicate n (List.replicate m 0)) = List.replicate (n * m) (Value.int .u8 0) := by
  simp [flat, u8s, List.flatten_replicate_replicate, List.map_replicate]
theorem made_rep (n m : Nat) (hm : 0 < m) (a : Value) : madeCells (List.replicate m a).toArray (n * m) = (List.replicate (n * m) a).toArray := by
  apply Array.ext
  · simp [size_madeCells]
  · intro i h1 h2
    have h3 : i % m < m := Nat.mod_lt _ hm
    simp [madeCells, h3]
theorem flat_zero (n : Nat) : flat (zeroDsk n).dur = List.replicate (n * 128) (Value.int .u8 0) := flat_rep n 128
theorem made_zero (n : Nat) (z : Array Value) (hz : z = (List.replicate 128 (Value.int .u8 0)).toArray) : madeCells z (n * 128) = (flat (zeroDsk n).dur).toArray := by
  rw [flat_zero, hz]
  exact made_rep n 128 (by decide) _
set_option maxRecDepth 100000 in
theorem make_sectors (n : Nat) (hn : n ≤ 65536) (w : World) : Sem.run Tryz.prog (Instr.makeSlice 80 (.int .i64 n) (.int .i64 n)) w = .ok (.slice (some ⟨w.heap.size, 0, none⟩) n n) (w.alloc (.cells (flat (zeroDsk n).dur).toArray 124)) := by
  have hi := info_sector
  cases hi0 : Tryz.prog.info? 124 with
  | none => rw [hi0] at hi; cases hi
  | some i0 =>
    rw [hi0] at hi
    simp only [Option.map_some, Option.some.injEq, Prod.mk.injEq] at hi
    obtain ⟨hz, hs, hb⟩ := hi
    cases hz0 : i0.zero with
    | none => rw [hz0] at hz; cases hz
    | some z =>
      rw [hz0] at hz
      injection hz with hz
      have := run_make (P := Tryz.prog) w 80 124 i0 z und_sectors hi0 hz0 .i64 .i64 (n : Int) (n : Int) (by omega) (by omega) (by rw [hb]; omega) (by omega)
      rw [this, hs]
      simp only [Int.toNat_natCast]
      rw [made_zero n _ hz]
set_option maxRecDepth 100000 in
theorem make_bools (n : Nat) (hn : n ≤ 65536) (w : World) : Sem.run Tryz.prog (Instr.makeSlice 81 (.int .i64 n) (.int .i64 n)) w = .ok (.slice (some ⟨w.heap.size, 0, none⟩) n n) (w.alloc (.cells (((zeroDsk n).torn.map Value.bool)).toArray 4)) := by
  obtain ⟨i0, hi, hz0, hz1, hz2⟩ := info_parts info_bool
  have := run_make (P := Tryz.prog) w 81 4 i0 (.bool false) und_bools hi hz0 .i64 .i64 (n : Int) (n : Int) (by omega) (by omega) (by rw [hz2]; omega) (by omega)
  rw [this, hz1]
  simp only [Int.toNat_natCast, Nat.mul_one]
  congr 3
  apply Array.ext'
  have h2 := toList_madeCells_one (.bool false) n
  simpa [zeroDsk, Value.cells] using h2

theorem cache_new {w : World} {bm : Nat} (h : w.heap[bm]? = some (.map #[] 0)) : CacheAt w bm [] (fun _ => .slice none 0 0) := by
  obtain ⟨es, clock, hb, F, hs, hD⟩ := World.ownsMap_made w Tryz.prog 3 asIs
  rw [World.alloc_heap_new] at hb
  injection hb with hb
  injection hb with e1 e2
  subst e1 e2
  exact ⟨⟨.map [], ⟨#[], 0, h, F, Nat.le_refl _, rfl⟩, rfl, List.nodup_nil, fun i _ => ⟨rfl, by simp [Maps.has]⟩, fun i _ => rfl⟩⟩

set_option maxHeartbeats 1000000 in
set_option maxRecDepth 100000 in
theorem blank_any (n : Nat) (h1 : 1 ≤ n) (hn : n ≤ 65536) (w : World) : Calls Tryz.prog 42 #[.int .i64 n] w fun e w' => ∃ b : Bks, e = .returned (.pointer (some ⟨b.d, 0, none⟩)) ∧ DskAt w' b (zeroDsk n) ∧ (∀ k, b.all k → w.heap.size ≤ k) ∧ Below w.heap.size w w' := by
  have hmm := @run_makeMap Tryz.prog
  have hms := make_sectors n hn
  have hmb := make_bools n hn
  go_enter Tryz.func42, Tryz.ntmps42
  go_wp2_with fail
  refine wp_region_rg_tail 5 (fun i => if i = 1 then some (fun v w' => ∃ g : Nat, v = .slice (some ⟨g, 0, none⟩) n n ∧ w.heap.size ≤ g ∧ Row w' g 124 (flat (zeroDsk n).dur)) else if i = 3 then some (fun v w' => ∃ g : Nat, v = .slice (some ⟨g, 0, none⟩) n n ∧ w.heap.size ≤ g ∧ Row w' g 4 ((zeroDsk n).torn.map Value.bool)) else if i = 4 then some (fun v w' => ∃ g : Nat, v = .map (some g) ∧ w.heap.size ≤ g ∧ w'.heap[g]? = some (.map #[] 0)) else none) fol (by kernel_rfl) (fun W hW hh => ?_)
  clear hh
  simp only [List.take_succ_cons, List.take_zero, List.drop_succ_cons, List.drop_zero]
  repeat ((first | refine lex_move _ (by first | exact Or.inl rfl | exact Or.inr rfl) rfl rfl ?_ | (refine lex_float ?_ rfl rfl (fun w1 hb1 hf1 => ?_) ?_; rotate_left; (go_simp; (try simp (disch := omega) only [IntWalk.i64_quo, IntWalk.rem_in, IntWalk.i64_in, IntWalk.u64_in, IntWalk.u32_in, IntWalk.u8_in, IntWalk.toNatUp, IntWalk.iteOmega]); (try go_simp); rfl)) | refine lex_skip rfl ?_); simp only [Act.put, Act.eval, Array.getD_eq_getD_getElem?, List.getElem?_toArray, List.getElem?_cons_zero, List.getElem?_cons_succ, Option.getD_some, List.setIfInBounds_toArray, List.set_cons_succ, List.set_cons_zero])
  refine lex_make _ rfl (by exact fun _ _ _ ⟨g, h1, h2, h3⟩ hb => ⟨g, h1, h2, h3.below hb⟩) rfl (fun w1 hb1 hf1 => ?_) ?_
  · have hb1' := hb1
    (unfold makes; go_simp; simp only [makesUpon])
    exact ⟨(Below.refl _ w1).alloc (Nat.le_refl _) _, _, rfl, Nat.le_trans hW.size hb1'.size, World.alloc_heap_new w1 _⟩
  rintro v1 W1 hB1 ⟨g1, rfl, hg1, hr1⟩
  simp only [Act.put, Act.eval, Array.getD_eq_getD_getElem?, List.getElem?_toArray, List.getElem?_cons_zero, List.getElem?_cons_succ, Option.getD_some, List.setIfInBounds_toArray, List.set_cons_succ, List.set_cons_zero]
  repeat ((first | refine lex_move _ (by first | exact Or.inl rfl | exact Or.inr rfl) rfl rfl ?_ | (refine lex_float ?_ rfl rfl (fun w1 hb1 hf1 => ?_) ?_; rotate_left; (go_simp; (try simp (disch := omega) only [IntWalk.i64_quo, IntWalk.rem_in, IntWalk.i64_in, IntWalk.u64_in, IntWalk.u32_in, IntWalk.u8_in, IntWalk.toNatUp, IntWalk.iteOmega]); (try go_simp); rfl)) | refine lex_skip rfl ?_); simp only [Act.put, Act.eval, Array.getD_eq_getD_getElem?, List.getElem?_toArray, List.getElem?_cons_zero, List.getElem?_cons_succ, Option.getD_some, List.setIfInBounds_toArray, List.set_cons_succ, List.set_cons_zero])
  refine lex_make _ rfl (by exact fun _ _ _ ⟨g, h1, h2, h3⟩ hb => ⟨g, h1, h2, h3.below hb⟩) rfl (fun w1 hb1 hf1 => ?_) ?_
  · have hb1' := hb1
    (unfold makes; go_simp; simp only [makesUpon])
    exact ⟨(Below.refl _ w1).alloc (Nat.le_refl _) _, _, rfl, Nat.le_trans hW.size hb1'.size, World.alloc_heap_new w1 _⟩
  rintro v2 W2 hB2 ⟨g2, rfl, hg2, hr2⟩
  simp only [Act.put, Act.eval, Array.getD_eq_getD_getElem?, List.getElem?_toArray, List.getElem?_cons_zero, List.getElem?_cons_succ, Option.getD_some, List.setIfInBounds_toArray, List.set_cons_succ, List.set_cons_zero]
  repeat ((first | refine lex_move _ (by first | exact Or.inl rfl | exact Or.inr rfl) rfl rfl ?_ | (refine lex_float ?_ rfl rfl (fun w1 hb1 hf1 => ?_) ?_; rotate_left; (go_simp; (try simp (disch := omega) only [IntWalk.i64_quo, IntWalk.rem_in, IntWalk.i64_in, IntWalk.u64_in, IntWalk.u32_in, IntWalk.u8_in, IntWalk.toNatUp, IntWalk.iteOmega]); (try go_simp); rfl)) | refine lex_skip rfl ?_); simp only [Act.put, Act.eval, Array.getD_eq_getD_getElem?, List.getElem?_toArray, List.getElem?_cons_zero, List.getElem?_cons_succ, Option.getD_some, List.setIfInBounds_toArray, List.set_cons_succ, List.set_cons_zero])
  refine lex_make _ rfl (by exact fun _ _ _ ⟨g, h1, h2, h3⟩ hb => ⟨g, h1, h2, below_heap hb h3⟩) rfl (fun w1 hb1 hf1 => ?_) ?_
  · have hb1' := hb1
    (unfold makes; go_simp; simp only [makesUpon])
    exact ⟨(Below.refl _ w1).alloc (Nat.le_refl _) _, _, rfl, Nat.le_trans hW.size hb1'.size, World.alloc_heap_new w1 _⟩
  rintro v3 W3 hB3 ⟨g3, rfl, hg3, hr3⟩
  simp only [Act.put, Act.eval, Array.getD_eq_getD_getElem?, List.getElem?_toArray, List.getElem?_cons_zero, List.getElem?_cons_succ, Option.getD_some, List.setIfInBounds_toArray, List.set_cons_succ, List.set_cons_zero]
  repeat ((first | refine lex_move _ (by first | exact Or.inl rfl | exact Or.inr rfl) rfl rfl ?_ | (refine lex_float ?_ rfl rfl (fun w1 hb1 hf1 => ?_) ?_; rotate_left; (go_simp; (try simp (disch := omega) only [IntWalk.i64_quo, IntWalk.rem_in, IntWalk.i64_in, IntWalk.u64_in, IntWalk.u32_in, IntWalk.u8_in, IntWalk.toNatUp, IntWalk.iteOmega]); (try go_simp); rfl)) | refine lex_skip rfl ?_); simp only [Act.put, Act.eval, Array.getD_eq_getD_getElem?, List.getElem?_toArray, List.getElem?_cons_zero, List.getElem?_cons_succ, Option.getD_some, List.setIfInBounds_toArray, List.set_cons_succ, List.set_cons_zero])
  refine lex_nil ?_
  have hr1 := (hr1.below hB2).below hB3
  have hr2 := hr2.below hB3
  have hW3 := below_trans hW (below_trans hB1 (below_trans hB2 hB3))
  go_wp2_with fail
  go_ret
  have hb4 := below_box W3 (.cells #[.slice (some ⟨g1, 0, none⟩) n n, .slice (some ⟨g2, 0, none⟩) n n, .map (some g3), .bool false, .int .i64 (-1)] 84)
  have gd := World.alloc_heap_new W3 (.cells #[.slice (some ⟨g1, 0, none⟩) n n, .slice (some ⟨g2, 0, none⟩) n n, .map (some g3), .bool false, .int .i64 (-1)] 84)
  have l1 := hr1.lt
  have l2 := hr2.lt
  have l3 := block_lt_of_heap hr3
  have n12 : g1 ≠ g2 := by
    rintro rfl
    have e := hr1.symm.trans hr2
    injection e with e
    injection e with _ e
    exact absurd e (by decide)
  have n13 : g1 ≠ g3 := by
    rintro rfl
    have e := hr1.symm.trans hr3
    injection e with e
    cases e
  have n23 : g2 ≠ g3 := by
    rintro rfl
    have e := hr2.symm.trans hr3
    injection e with e
    cases e
  refine ⟨⟨W3.heap.size, g1, g2, g3, fun _ => .slice none 0 0⟩, rfl, ?_, ?_, hW3.trans (hb4.mono hW3.size)⟩
  · refine { head := ?_, durs := hr1.below hb4, torns := hr2.below hb4, map := cache_new (below_heap hb4 hr3), rows := fun i hi => (by cases hi), none' := fun _ _ => rfl, len := by simp [zeroDsk], pos := by simp [zeroDsk]; omega, lim := by simp [zeroDsk]; omega,
             in' := fun i hi => (by cases hi), s128 := fun s hs => ?_, c128 := fun i s hs => (by cases hs), ne1 := ⟨by show W3.heap.size ≠ g1; omega, by show W3.heap.size ≠ g2; omega, by show W3.heap.size ≠ g3; omega, n12, n13, n23⟩, ne2 := fun i k e => (by cases e), ne3 := fun i j k _ e => (by cases e) }
    · show HeadAt _ _ _
      unfold HeadAt
      simpa [zeroDsk] using gd
    · rw [List.eq_of_mem_replicate (show s ∈ List.replicate n (List.replicate 128 0) from hs)]
      exact List.length_replicate
  · rintro k (rfl | rfl | rfl | rfl | ⟨i, e⟩)
    · exact hW3.size
    · exact hg1
    · exact hg2
    · exact hg3
    · cases e
theorem new_any (n : Nat) (h1 : 1 ≤ n) (hn : n ≤ 65536) (w : World) : Calls Tryz.prog 14 #[.int .i64 n] w fun e w' => ∃ b : Bks, e = .returned (.tuple #[.pointer (some ⟨b.d, 0, none⟩), .int .i64 0]) ∧ DskAt w' b (zeroDsk n) ∧ (∀ k, b.all k → w.heap.size ≤ k) ∧ Below w.heap.size w w' := by
  have HB := Lib.hid (blank_any n h1 hn w)
  have q1 : ¬ ((n : Int) < 1) := by omega
  have q2 : ¬ (65536 < (n : Int)) := by omega
  go_enter Tryz.func14, Tryz.ntmps14
  go_wp2_with fail
  refine HB.out.mono ?_
  rintro e w' ⟨b, rfl, h2, h3, h4⟩
  go_wp2_with fail
  go_ret2
  exact ⟨b, rfl, h2, h3, h4⟩
end Go.Proofs.YtbjofbhhnmehgaaGreatDoor.TT
namespace Go.Hp
open Go.RowKit Go.RG
section
variable {P : Program} {w : World} {ops : Array Oper} {rest : List Oper} {o : Oper} {a : Act} {Q : Exit → Act → World → Prop}

theorem run_isAgg_arr {t e : TypeId} {n : Nat} (ht : P.underlying t = some (.array n e)) (w : World) : (isAgg t).run P w = .ok true w := by
  unfold isAgg
  rw [Sem.run_bind, run_underlying ht w]
  rfl
theorem run_load_arr {t e : TypeId} {n : Nat} (ht : P.underlying t = some (.array n e)) (hz : ∀ w, (sizeOf t).run P w = .ok n w) (w : World) (ad : Addr) (cs : List Value) (hl : cs.length = n) (h : ∀ j u, cs[j]? = some u → w.cell? (ad.add j) = some u) :
    (Instr.loadAt t (.pointer (some ad))).run P w = .ok (.agg cs.toArray) w := by
  have h1 := run_loadCells_list (P := P) w ad cs h
  rw [hl] at h1
  simp only [Instr.loadAt, Instr.sureAddr, loadVar, Sem.run_bind, Sem.run_pure, Result.andThen_ok, run_isAgg_arr ht, hz, h1, if_true]
theorem exec_load (p : Operand) (t : TypeId) (ho : o.op = .load t p) {v : Value} {w' : World} (hr : (Instr.loadAt t (a.eval p)).run P w = .ok v w') : (execOp a.eval o).run P w = .ok (.value v) w' := by
  simp only [execOp, ho, Sem.run_bind, hr, Result.andThen_ok, Sem.run_pure]
/-- an array is read as a whole -/
theorem wpList_load_arr (hgd : o.guard = none) (p : Operand) (t e : TypeId) (n : Nat) (ho : o.op = .load t p) (ht : P.underlying t = some (.array n e)) (hz : ∀ w, (sizeOf t).run P w = .ok n w) (ad : Addr) (hp : a.eval p = .pointer (some ad))
    (cs : List Value) (hl : cs.length = n) (hc : ∀ j u, cs[j]? = some u → w.cell? (ad.add j) = some u) (h : wpList P ops Q rest (a.put o.dst (.agg cs.toArray)) w) : wpList P ops Q (o :: rest) a w :=
  wpList_value hgd (exec_load p t ho (by rw [hp]; exact run_load_arr ht hz w ad cs hl hc)) h
theorem wpList_unit {w' : World} (hgd : o.guard = none) (hd : o.dst = none) (hr : (execOp a.eval o).run P w = .ok .skip w') (h : wpList P ops Q rest a w') : wpList P ops Q (o :: rest) a w := by
  refine wpList_plain hgd fun K hK => ?_
  unfold Oper.wp
  rw [hr]
  refine hK _ _ ?_
  rw [hd]
  exact h
theorem exec_store (p x : Operand) (t : TypeId) (ho : o.op = .store t p x) {w' : World} (hr : (Instr.storeAt t (a.eval p) (a.eval x)).run P w = .ok () w') : (execOp a.eval o).run P w = .ok .skip w' := by
  simp only [execOp, ho, Sem.run_bind, hr, Result.andThen_ok, Sem.run_pure]
/-- some cells of a row, stored one behind the other -/
theorem run_storeCells_at (g off : Nat) (t : TypeId) : ∀ (vs : List Value) (i : Nat) (cur : List Value) (w : World), Row w g t cur → off + i + vs.length ≤ cur.length → (∀ v ∈ vs, v.oneCell' = true) →
    (storeCells ⟨g, off, none⟩ vs i).run P w = .ok () (w.setRow g (cur.take (off + i) ++ vs ++ cur.drop (off + i + vs.length)).toArray)
  | [], i, cur, w, hg, hl, _ => by
    have hs : w.setRow g cur.toArray = w := by
      have hv : w.heap[g]? = some (.cells cur.toArray t (0, 0)) := hg
      unfold World.setRow
      cases w with
      | mk heap tape drawn os output =>
        congr 1
        apply Array.ext_getElem?
        intro k
        rw [Array.getElem?_modify]
        split
        · rename_i hk
          subst hk
          have hv : heap[g]? = some (.cells cur.toArray t (0, 0)) := hv
          rw [hv]
          rfl
        · rfl
    simp only [storeCells, List.append_nil, List.length_nil, Nat.add_zero, List.take_append_drop, hs]
    rfl
  | v :: rest, i, cur, w, hg, hl, h1 => by
    have hlen : off + i < cur.length := by simp at hl; omega
    have hcell : w.cell? ⟨g, off + i, none⟩ = some cur[off + i] := by rw [Row.cell hg]; simp [hlen]
    have hfro := Row.frozen hg (off + i)
    have hst : (store ((⟨g, off, none⟩ : Addr).add i) v).run P w = .ok () (w.setRow g (cur.set (off + i) v).toArray) := by
      rw [Addr.add_lit, run_store P w _ v _ (h1 v (by simp)), hcell]
      simp [hfro, setCell_eq_setRow w g (off + i) cur.toArray t (0, 0) v hg]
    have ih := run_storeCells_at g off t rest (i + 1) (cur.set (off + i) v) (w.setRow g (cur.set (off + i) v).toArray) (row_put hg _) (by simp at hl ⊢; omega) (fun x hx => h1 x (by simp [hx]))
    simp only [storeCells, Sem.run_bind, hst, Result.andThen_ok, ih, setRow_setRow]
    congr 3
    rw [List.length_cons, show off + (i + 1) = off + i + 1 by omega, List.take_set, List.drop_set_of_lt (by omega), List.take_add_one, List.getElem?_eq_getElem hlen]
    simp only [Option.toList_some]
    rw [List.set_append_right _ _ (by rw [List.length_take]; exact Nat.min_le_left _ _)]
    simp [Nat.min_eq_left (Nat.le_of_lt hlen), show off + i + 1 + rest.length = off + i + (rest.length + 1) by omega]
theorem run_store_arr {t : TypeId} {n : Nat} (hz : ∀ w, (sizeOf t).run P w = .ok n w) (w : World) (g off : Nat) (ty : TypeId) (cur vs : List Value) (hg : Row w g ty cur) (hn : vs.length = n) (hl : off + n ≤ cur.length) (h1 : ∀ v ∈ vs, v.oneCell' = true) :
    (Instr.storeAt t (.pointer (some ⟨g, off, none⟩)) (.agg vs.toArray)).run P w = .ok () (w.setRow g (cur.take off ++ vs ++ cur.drop (off + n)).toArray) := by
  have h := run_storeCells_at (P := P) g off ty vs 0 cur w hg (by omega) h1
  simp only [Nat.add_zero] at h
  rw [hn] at h
  have hsz : (Value.agg vs.toArray).cells.size = n := by simp [Value.cells, hn]
  simp only [Instr.storeAt, Instr.sureAddr, storeVar, Sem.run_bind, Sem.run_pure, Result.andThen_ok, hz, hsz]
  simpa [Value.cells] using h
/-- an array is stored as a whole, into a row -/
theorem wpList_store_arr (hgd : o.guard = none) (hd : o.dst = none) (p x : Operand) (t : TypeId) (n : Nat) (ho : o.op = .store t p x) (hz : ∀ w, (sizeOf t).run P w = .ok n w) (g off : Nat) (hp : a.eval p = .pointer (some ⟨g, off, none⟩))
    (vs : List Value) (hx : a.eval x = .agg vs.toArray) (hn : vs.length = n) (ty : TypeId) (cur : List Value) (hg : Row w g ty cur) (hl : off + n ≤ cur.length) (h1 : ∀ v ∈ vs, v.oneCell' = true)
    (h : wpList P ops Q rest a (w.setRow g (cur.take off ++ vs ++ cur.drop (off + n)).toArray)) : wpList P ops Q (o :: rest) a w :=
  wpList_unit hgd hd (exec_store p x t ho (by rw [hp, hx]; exact run_store_arr hz w g off ty cur vs hg hn hl h1)) h
/-- .. over a whole block -/
theorem wpList_store_all (hgd : o.guard = none) (hd : o.dst = none) (p x : Operand) (t : TypeId) (n : Nat) (ho : o.op = .store t p x) (hz : ∀ w, (sizeOf t).run P w = .ok n w) (g : Nat) (hp : a.eval p = .pointer (some ⟨g, 0, none⟩))
    (vs : List Value) (hx : a.eval x = .agg vs.toArray) (hn : vs.length = n) (ty : TypeId) (cur : List Value) (hg : Row w g ty cur) (hl : cur.length = n) (h1 : ∀ v ∈ vs, v.oneCell' = true)
    (h : ∀ w', Ext (· = g) w w' → w'.heap.size = w.heap.size → Row w' g ty vs → wpList P ops Q rest a w') : wpList P ops Q (o :: rest) a w := by
  refine wpList_store_arr hgd hd p x t n ho hz g 0 hp vs hx hn ty cur hg (by omega) h1 ?_
  rw [List.take_zero, List.nil_append, Nat.zero_add, List.drop_eq_nil_of_le (by omega), List.append_nil]
  exact h _ (ext_setRow w g _) (by simp [World.setRow]) (row_put hg _)
/-- a new variable: a block of so many cells -/
theorem wpList_alloc_arr (hgd : o.guard = none) (t : TypeId) (ho : o.op = .alloc t) (z : Value) (hz : ∀ w, (zeroValue t).run P w = .ok z w)
    (h : ∀ w', Below w.heap.size w w' → w'.heap.size = w.heap.size + 1 → Row w' w.heap.size t z.cells.toList → wpList P ops Q rest (a.put o.dst (.pointer (some ⟨w.heap.size, 0, none⟩))) w') : wpList P ops Q (o :: rest) a w := by
  refine wpList_value (v := .pointer (some ⟨w.heap.size, 0, none⟩)) (w' := w.alloc (.cells z.cells t)) hgd ?_ (h _ ((Below.refl _ w).alloc (Nat.le_refl _) _) (by simp) (by unfold Row; rw [Array.toArray_toList]; exact World.alloc_heap_new w _))
  have e : (Instr.alloc t true (.tuple #[])).run P w = .ok (.pointer (some ⟨w.heap.size, 0, none⟩)) (w.alloc (.cells z.cells t)) := by
    simp only [Instr.alloc, Sem.run_bind, hz, Result.andThen_ok]
    rfl
  simp only [execOp, ho, Sem.run_bind, e, Result.andThen_ok, Sem.run_pure]
theorem exec_build (t : TypeId) (n : Nat) (ps : Array (Nat × Operand)) (ho : o.op = .buildSlice t n ps) {v : Value} {w' : World} (hr : (Instr.buildSlice t n (ps.map fun (i, x) => (i, a.eval x))).run P w = .ok v w') : (execOp a.eval o).run P w = .ok (.value v) w' := by
  simp only [execOp, ho, Sem.run_bind, hr, Result.andThen_ok, Sem.run_pure]
theorem exec_build_one (t : TypeId) (n : Nat) (x : Operand) (ho : o.op = .buildSlice t n #[(0, x)]) {v : Value} {w' : World} (hr : (Instr.buildSlice t n #[(0, a.eval x)]).run P w = .ok v w') : (execOp a.eval o).run P w = .ok (.value v) w' :=
  exec_build t n #[(0, x)] ho (by simpa using hr)
theorem exec_mapUpdate (t : TypeId) (m x y : Operand) (ho : o.op = .mapUpdate t m x y) {w' : World} (hr : (Instr.mapUpdate t (a.eval m) (a.eval x) (a.eval y)).run P w = .ok () w') : (execOp a.eval o).run P w = .ok .skip w' := by
  simp only [execOp, ho, Sem.run_bind, hr, Result.andThen_ok, Sem.run_pure]
theorem makes_of {R : Value → World → Prop} {v : Value} {w' : World} (hr : (execOp a.eval o).run P w = .ok (.value v) w') (h : R v w') : makes P o a w R := by
  unfold makes
  rw [hr]
  exact h
theorem makes_skip {R : Value → World → Prop} {w' : World} (hr : (execOp a.eval o).run P w = .ok .skip w') (h : R undef w') : makes P o a w R := by
  unfold makes
  rw [hr]
  exact h
theorem row_set {w : World} {g i : Nat} {e : TypeId} {L : List Value} (h : Row w g e L) (u : Value) : Row (w.setCell ⟨g, i, none⟩ u) g e (L.set i u) := by
  rw [setCell_eq_setRow w g i L.toArray e (0, 0) u h]
  have := row_put h (L.set i u)
  simpa using this
end
end Go.Hp
