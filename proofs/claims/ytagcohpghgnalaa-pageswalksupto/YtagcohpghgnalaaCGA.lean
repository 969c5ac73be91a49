/-
  A region whose order is drawn, walked once in the order of the text, where some of its operations make memory (rely and guarantee): every operation either yields one value in every world that has grown out of the region's first world, or makes a value that meets a predicate which growth keeps. Conditions: the program follows mixedOrders; the order's static checks.
-/
import Derived.StillTail
import Derived.Below
import Derived.WalkKit
import Derived.ProofKit
import Derived.Lib.Hide
import Derived.WalkSpells
import Derived.Laws.CopyRow
import Derived.Laws.CopyOwn
import Derived.Laws.AppendOwn
import Derived.Lib.AppendZerosOnto
set_option linter.unusedSimpArgs false
set_option linter.unusedVariables false
namespace Go.RG
open Go.RowKit

/-- what is known of a slot's value in a world -/
abbrev Spec := Value → World → Prop
abbrev Facts := Nat → Spec
def Facts.empty : Facts := fun _ _ _ => True
def Facts.set (Γ : Facts) (d : Option Tmp) (S : Spec) : Facts := fun t => if d = some t then S else Γ t
def Spec.any : Spec := fun _ _ => True
/-- growth keeps it -/
def Spec.stable (S : Spec) : Prop := ∀ v w w', S v w → Below w.heap.size w w' → S v w'
def Facts.stable (Γ : Facts) : Prop := ∀ t, Spec.stable (Γ t)
def Facts.ok (Γ : Facts) (a : Act) (w : World) : Prop := ∀ t, t < a.tmps.size → Γ t (a.tmps.getD t undef) w

theorem Spec.any_stable : Spec.stable Spec.any := fun _ _ _ _ _ => trivial
theorem Facts.empty_stable : Facts.stable Facts.empty := fun _ _ _ _ _ _ => trivial
theorem Facts.empty_ok (a : Act) (w : World) : Facts.empty.ok a w := fun _ _ => trivial
theorem Facts.set_stable {Γ : Facts} {d : Option Tmp} {S : Spec} (h : Γ.stable) (hS : Spec.stable S) : (Γ.set d S).stable := by
  intro t
  unfold Facts.set
  split
  · exact hS
  · exact h t
theorem Facts.ok_grow {Γ : Facts} {a : Act} {w w' : World} (h : Γ.ok a w) (hs : Γ.stable) (hb : Below w.heap.size w w') : Γ.ok a w' :=
  fun t ht => hs t _ _ _ (h t ht) hb
theorem Act.size_put (a : Act) (d : Option Tmp) (v : Value) : (a.put d v).tmps.size = a.tmps.size := by
  cases d <;> simp [Act.put]
theorem Act.getD_put_ne {a : Act} {d : Option Tmp} {v : Value} {t : Nat} (h : d ≠ some t) : (a.put d v).tmps.getD t undef = a.tmps.getD t undef := by
  cases d with
  | none => rfl
  | some d =>
    have : d ≠ t := fun e => h (by rw [e])
    simp [Act.put, Array.getElem?_setIfInBounds_ne this]
theorem Act.getD_put_eq {a : Act} {v : Value} {t : Nat} (h : t < a.tmps.size) : (a.put (some t) v).tmps.getD t undef = v := by
  simp [Act.put, h]
theorem Facts.ok_set {Γ : Facts} {a : Act} {w : World} {d : Option Tmp} {S : Spec} {v : Value} (h : Γ.ok a w) (hS : S v w) : (Γ.set d S).ok (a.put d v) w := by
  intro t ht
  rw [Act.size_put] at ht
  unfold Facts.set
  by_cases hd : d = some t
  · rw [if_pos hd]
    subst hd
    rw [Act.getD_put_eq ht]
    exact hS
  · rw [if_neg hd, Act.getD_put_ne hd]
    exact h t ht

section
variable (P : Program) (ops : Array Oper)

/-- what is known of the slots that an operation looks at -/
def facts (o : Oper) (Γ : Facts) (a : Act) (w : World) : Prop := ∀ t, t ∈ o.looksAt ops → t < a.tmps.size → Γ t (a.tmps.getD t undef) w

/-- what an operation comes to, where it makes a value -/
def makesUpon (R : Value → World → Prop) : Result Next → Prop
  | .ok (.value v) w' => R v w'
  | .ok .skip w' => R undef w'
  | .ok (.enter f args) w' => Calls P f args w' fun e w'' => ∃ v, e = .returned v ∧ R v w''
  | _ => False
def makes (o : Oper) (a : Act) (w : World) (R : Value → World → Prop) : Prop := makesUpon P R ((execOp a.eval o).run P w)

/-- one value, in every world grown out of 'base' -/
def YF (base : World) (Γ : Facts) (o : Oper) (a : Act) (v : Value) : Prop :=
  (Region.wanted o (yielded ops a.tmps) = true ∧ ∀ w, Below base.heap.size base w → facts ops o Γ a w → (execOp a.eval o).run P w = .ok (.value v) w) ∨
  (Region.wanted o (yielded ops a.tmps) = false ∧ v = undef)
/-- a value that meets S -/
def YM (base : World) (Γ : Facts) (o : Oper) (a : Act) (S : Spec) : Prop :=
  Region.wanted o (yielded ops a.tmps) = true ∧ Spec.stable S ∧
  ∀ w, Below base.heap.size base w → facts ops o Γ a w → makes P o a w fun v w' => Below w.heap.size w w' ∧ S v w'

variable (base : World) (sp : Nat → Option Spec)

def sStep (i : Nat) (o : Oper) (K : Facts → Act → World → Prop) (Γ : Facts) (a : Act) (w : World) : Prop :=
  ((sp i = none ∨ Region.wanted o (yielded ops a.tmps) = false) ∧ ∃ v, YF P ops base Γ o a v ∧ K (Γ.set o.dst Spec.any) (a.put o.dst v) w) ∨
  (∃ S, sp i = some S ∧ YM P ops base Γ o a S ∧ ∀ v w', Below w.heap.size w w' → S v w' → K (Γ.set o.dst S) (a.put o.dst v) w')

/-- whatever order is picked from here on, among the first n operations -/
def rgAny (md : Region.Mode) (n : Nat) (L : Array Bool → Act → World → Prop) : Nat → Array Bool → Facts → Act → World → Prop
  | 0, listed, _, a, w => L listed a w
  | f + 1, listed, Γ, a, w =>
    Region.ready md ops listed ≠ [] ∧ ∀ i ∈ Region.ready md ops listed, i < n ∧ ∃ o, ops[i]? = some o ∧
      sStep P ops base sp i o (rgAny md n L f (listed.setIfInBounds i true)) Γ a w

/-- the walk in the order of the text; k: the number of the first operation -/
def rgLex (Q : Act → World → Prop) : List Oper → Nat → Facts → Act → World → Prop
  | [], _, _, a, w => Q a w
  | o :: rest, k, Γ, a, w => sStep P ops base sp k o (rgLex Q rest (k + 1)) Γ a w
end

section
variable {P : Program} {ops : Array Oper} {base : World} {sp : Nat → Option Spec} {md : Region.Mode}

theorem below_trans {a b c : World} (h : Below a.heap.size a b) (k : Below b.heap.size b c) : Below a.heap.size a c := h.trans (k.mono h.size)

theorem sStep_mono {i : Nat} {o : Oper} {K K' : Facts → Act → World → Prop} {Γ : Facts} {a : Act} {w : World} (h : ∀ Γ a w, K Γ a w → K' Γ a w)
    (hh : sStep P ops base sp i o K Γ a w) : sStep P ops base sp i o K' Γ a w := by
  rcases hh with ⟨h0, v, h1, h2⟩ | ⟨S, h0, h1, h2⟩
  · exact .inl ⟨h0, v, h1, h _ _ _ h2⟩
  · exact .inr ⟨S, h0, h1, fun v w' hb hS => h _ _ _ (h2 v w' hb hS)⟩

theorem wp_of_makes {o : Oper} {a : Act} {w : World} {R : Value → World → Prop} {K : Act → World → Prop} {Q : Exit → Act → World → Prop}
    (h : makes P o a w R) (hK : ∀ v w', R v w' → K (a.put o.dst v) w') : o.wp P a w K Q := by
  unfold makes at h
  unfold Oper.wp
  generalize (execOp a.eval o).run P w = r at *
  cases r with
  | ok n w' =>
    cases n <;> simp only [makesUpon] at h <;> simp only [Oper.upon]
    case value v => exact hK _ _ h
    case skip => exact hK _ _ h
    case enter f args => exact h.mono fun e w'' ⟨v, he, hv⟩ => by subst he; exact hK _ _ hv
  | halt x w' => simp only [makesUpon] at h

theorem makes_exists {o : Oper} {a : Act} {w : World} {R : Value → World → Prop} (h : makes P o a w R) : ∃ v w', R v w' := by
  unfold makes at h
  generalize (execOp a.eval o).run P w = r at *
  cases r with
  | ok n w' =>
    cases n <;> simp only [makesUpon] at h
    case value v => exact ⟨_, _, h⟩
    case skip => exact ⟨_, _, h⟩
    case enter f args =>
      obtain ⟨e, w'', fr, ⟨v, _, hv⟩, _⟩ := h []
      exact ⟨v, w'', hv⟩
  | halt x w' => simp only [makesUpon] at h

theorem makes_congr {o : Oper} {a a' : Act} {w : World} {R : Value → World → Prop} (he : execOp a'.eval o = execOp a.eval o) (h : makes P o a w R) : makes P o a' w R := by
  unfold makes at *
  rw [he]
  exact h

/-- it is a wpAny -/
theorem wpAny_of_rg {n g : Nat} {L : Array Bool → Act → World → Prop} {Q : Exit → Act → World → Prop}
    (hL : ∀ listed a w, L listed a w → wpAny P md ops Q g listed a w) :
    ∀ (f : Nat) (listed : Array Bool) (Γ : Facts) (a : Act) (w : World), Below base.heap.size base w → Γ.ok a w → Γ.stable →
      rgAny P ops base sp md n L f listed Γ a w → wpAny P md ops Q (f + g) listed a w
  | 0, listed, Γ, a, w, _, _, _, h => by rw [Nat.zero_add]; exact hL _ _ _ h
  | f + 1, listed, Γ, a, w, hC, hok, hst, h => by
    rw [show f + 1 + g = (f + g) + 1 by omega]
    refine ⟨fun h0 => absurd h0 h.1, fun i hi => ?_⟩
    obtain ⟨_, o, ho, hs⟩ := h.2 i hi
    have hfacts : facts ops o Γ a w := fun t _ ht => hok t ht
    unfold wpOp
    simp only [ho]
    rcases hs with ⟨_, v, hy, hK⟩ | ⟨S, _, ⟨hw, hSs, hm⟩, hK⟩
    · have hgo := wpAny_of_rg hL f _ _ _ _ hC (Facts.ok_set (S := Spec.any) hok trivial) (Facts.set_stable hst Spec.any_stable) hK
      rcases hy with ⟨hw, hr⟩ | ⟨hw, rfl⟩
      · rw [if_pos hw]
        refine .inl ?_
        unfold Oper.wp
        rw [hr w hC hfacts]
        exact hgo
      · rw [if_neg (by simp [hw])]
        exact hgo
    · rw [if_pos hw]
      refine .inl (wp_of_makes (hm w hC hfacts) fun v w' ⟨hb, hS⟩ => ?_)
      exact wpAny_of_rg hL f _ _ _ _ (below_trans hC hb) (Facts.ok_set (Facts.ok_grow hok hst hb) hS) (Facts.set_stable hst hSs) (hK v w' hb hS)

theorem facts_put {oi oj : Oper} {Γ : Facts} {S : Spec} {a : Act} {v : Value} {w : World} (h : ∀ d, oi.dst = some d → d ∉ oj.looksAt ops) :
    facts ops oj (Γ.set oi.dst S) (a.put oi.dst v) w ↔ facts ops oj Γ a w := by
  unfold facts
  constructor
  · intro hf t ht hlt
    have hne : oi.dst ≠ some t := fun e => h t e ht
    have := hf t ht (by rw [Act.size_put]; exact hlt)
    rwa [Act.getD_put_ne hne, Facts.set, if_neg hne] at this
  · intro hf t ht hlt
    have hne : oi.dst ≠ some t := fun e => h t e ht
    rw [Act.size_put] at hlt
    have := hf t ht hlt
    rwa [Act.getD_put_ne hne, Facts.set, if_neg hne]

theorem YF_put {oi oj : Oper} {Γ : Facts} {S : Spec} {a : Act} {v u : Value} (hsj : ∀ cs b, oj.op ≠ .select cs b) (h : ∀ d, oi.dst = some d → d ∉ oj.looksAt ops) :
    YF P ops base (Γ.set oi.dst S) oj (a.put oi.dst v) u ↔ YF P ops base Γ oj a u := by
  unfold YF
  rw [wanted_put oj a oi.dst v h, execOp_put oj hsj a oi.dst v h]
  simp only [facts_put h]

theorem YM_put {oi oj : Oper} {Γ : Facts} {S T : Spec} {a : Act} {v : Value} (hsj : ∀ cs b, oj.op ≠ .select cs b) (h : ∀ d, oi.dst = some d → d ∉ oj.looksAt ops) :
    YM P ops base (Γ.set oi.dst S) oj (a.put oi.dst v) T ↔ YM P ops base Γ oj a T := by
  unfold YM makes
  rw [wanted_put oj a oi.dst v h, execOp_put oj hsj a oi.dst v h]
  simp only [facts_put h]

theorem Facts.set_comm {Γ : Facts} {d e : Option Tmp} {S T : Spec} (h : ∀ x, d = some x → e ≠ some x) : (Γ.set d S).set e T = (Γ.set e T).set d S := by
  funext t
  unfold Facts.set
  by_cases h1 : e = some t
  · have h2 : d ≠ some t := fun hd => h t hd h1
    rw [if_pos h1, if_neg h2, if_pos h1]
  · rw [if_neg h1, if_neg h1]

theorem YF_unique {o : Oper} {Γ Γ' : Facts} {a : Act} {v u : Value} {w : World} (hC : Below base.heap.size base w) (hf : facts ops o Γ a w) (hf' : facts ops o Γ' a w)
    (h : YF P ops base Γ o a v) (h' : YF P ops base Γ' o a u) : v = u := by
  rcases h with ⟨hw, h⟩ | ⟨hw, rfl⟩ <;> rcases h' with ⟨hw', h'⟩ | ⟨hw', rfl⟩
  · have e := (h w hC hf).symm.trans (h' w hC hf')
    injection e with e1 _
    injection e1
  · rw [hw] at hw'; cases hw'
  · rw [hw] at hw'; cases hw'
  · rfl

/-- an operation that may come up now may be taken first -/
theorem rg_first {n i : Nat} {oi : Oper} {L : Array Bool → Act → World → Prop} (hi : ops[i]? = some oi)
    (hsel : ∀ (j : Nat) (o : Oper) cs b, ops[j]? = some o → o.op ≠ .select cs b)
    (Inv : Array Bool → Prop) (hInv : ∀ listed j, Inv listed → j ∈ Region.ready md ops listed → j < n → Inv (listed.setIfInBounds j true))
    (hhead : ∀ listed, Inv listed → listed.getD i true = false → ∀ j ∈ Region.ready md ops listed, j < n)
    (hdone : ∀ listed a w, L listed a w → ∀ j ∈ Region.ready md ops listed, n ≤ j) :
    ∀ (f : Nat) (listed : Array Bool) (Γ : Facts) (a : Act) (w : World), Inv listed →
      (∀ j oj, ops[j]? = some oj → j ≠ i → listed.getD j true = false → (∀ e ∈ oj.after, Region.binds md e = true → e.on ≠ i) → oi.apart ops oj = true) →
      i ∈ Region.ready md ops listed → Below base.heap.size base w → Γ.ok a w → Γ.stable →
      sStep P ops base sp i oi (rgAny P ops base sp md n L f (listed.setIfInBounds i true)) Γ a w → rgAny P ops base sp md n L (f + 1) listed Γ a w := by
  intro f
  induction f with
  | zero =>
    intro listed Γ a w inv _ hr hC hok hst H
    have hun := (mem_ready.1 hr).1
    refine ⟨fun h => (by rw [h] at hr; cases hr), fun j hj => ?_⟩
    have hjn : j < n := hhead listed inv hun j hj
    refine ⟨hjn, ?_⟩
    by_cases hji : j = i
    · subst hji; exact ⟨oi, hi, H⟩
    · exfalso
      have hex : ∃ a w, L (listed.setIfInBounds i true) a w := by
        rcases H with ⟨_, v, _, hK⟩ | ⟨S, _, ⟨_, _, hm⟩, hK⟩
        · exact ⟨_, _, hK⟩
        · obtain ⟨v, w', hb, hS⟩ := makes_exists (hm w hC (fun t _ ht => hok t ht))
          exact ⟨_, _, hK v w' hb hS⟩
      obtain ⟨a', w', hL⟩ := hex
      have := hdone _ _ _ hL j (ready_mono hj hji)
      omega
  | succ f ih =>
    intro listed Γ a w inv hfree hr hC hok hst H
    have hun := (mem_ready.1 hr).1
    refine ⟨fun h => (by rw [h] at hr; cases hr), fun j hj => ?_⟩
    have hjn : j < n := hhead listed inv hun j hj
    refine ⟨hjn, ?_⟩
    by_cases hji : j = i
    · subst hji; exact ⟨oi, hi, H⟩
    obtain ⟨hjun, oj, hoj, hall⟩ := mem_ready.1 hj
    refine ⟨oj, hoj, ?_⟩
    have hnot : ∀ e ∈ oj.after, Region.binds md e = true → e.on ≠ i := fun e he hb heq => by
      have h1 := hall e he hb
      rw [heq, getD_both hun] at h1
      cases h1
    obtain ⟨ap1, ap2, ap3⟩ := Oper.apart_spec (hfree j oj hoj hji hjun hnot)
    have hsi := fun cs b => hsel i oi cs b hi
    have hsj := fun cs b => hsel j oj cs b hoj
    have hfree' : ∀ k ok, ops[k]? = some ok → k ≠ i → (listed.setIfInBounds j true).getD k true = false →
        (∀ e ∈ ok.after, Region.binds md e = true → e.on ≠ i) → oi.apart ops ok = true := fun k ok hk hki hun hno => by
      refine hfree k ok hk hki ?_ hno
      by_cases hjk : j = k
      · subst hjk; exact hjun
      · rw [getD_set_ne true hjk] at hun; exact hun
    have IH := fun Γ' a' w' => ih (listed.setIfInBounds j true) Γ' a' w' (hInv _ _ inv hj hjn) hfree' (ready_mono hr (Ne.symm hji))
    have hjr := ready_mono hj hji
    have hcomm : (listed.setIfInBounds j true).setIfInBounds i true = (listed.setIfInBounds i true).setIfInBounds j true := Array.setIfInBounds_comm _ _ hji
    -- what i's step leaves
    rcases H with ⟨hspi, v, hy, hK⟩ | ⟨S, hspi, hy, hK⟩
    · obtain ⟨oj', hoj', hj1⟩ := (hK.2 j hjr).2
      obtain rfl : oj' = oj := Option.some.inj (hoj'.symm.trans hoj)
      rcases hj1 with ⟨hspj, u, hyj, hKj⟩ | ⟨T, hspj, hyj, hKj⟩
      · refine .inl ⟨by rw [wanted_put oj' a oi.dst v ap1] at hspj; exact hspj, u, (YF_put hsj ap1).1 hyj, ?_⟩
        refine IH _ _ _ hC (Facts.ok_set (S := Spec.any) hok trivial) (Facts.set_stable hst Spec.any_stable) (.inl ⟨?_, v, ?_, ?_⟩)
        · rw [wanted_put oi a oj'.dst u ap3]; exact hspi
        · exact (YF_put hsi ap3).2 hy
        · rw [hcomm, ← Act.put_comm a v u ap2, ← Facts.set_comm ap2]; exact hKj
      · refine .inr ⟨T, hspj, (YM_put hsj ap1).1 hyj, fun u w' hb hT => ?_⟩
        refine IH _ _ _ (below_trans hC hb) (Facts.ok_set (Facts.ok_grow hok hst hb) hT) (Facts.set_stable hst hyj.2.1) (.inl ⟨?_, v, ?_, ?_⟩)
        · rw [wanted_put oi a oj'.dst u ap3]; exact hspi
        · exact (YF_put hsi ap3).2 hy
        · rw [hcomm, ← Act.put_comm a v u ap2, ← Facts.set_comm ap2]; exact hKj u w' hb hT
    · obtain ⟨vs, ws, hbs, hSs⟩ := makes_exists (hy.2.2 w hC (fun t _ ht => hok t ht))
      obtain ⟨oj', hoj', hj1⟩ := ((hK vs ws hbs hSs).2 j hjr).2
      obtain rfl : oj' = oj := Option.some.inj (hoj'.symm.trans hoj)
      rcases hj1 with ⟨hspj, u, hyj, hKj⟩ | ⟨T, hspj, hyj, hKj⟩
      · have hyj' := (YF_put hsj ap1).1 hyj
        have hspj' : sp j = none ∨ Region.wanted oj' (yielded ops a.tmps) = false := by rw [wanted_put oj' a oi.dst vs ap1] at hspj; exact hspj
        refine .inl ⟨hspj', u, hyj', ?_⟩
        refine IH _ _ _ hC (Facts.ok_set (S := Spec.any) hok trivial) (Facts.set_stable hst Spec.any_stable) (.inr ⟨S, hspi, (YM_put hsi ap3).2 hy, fun v w' hb hS => ?_⟩)
        rw [hcomm, ← Act.put_comm a v u ap2, ← Facts.set_comm ap2]
        obtain ⟨oj'', hoj'', hj2⟩ := ((hK v w' hb hS).2 j hjr).2
        obtain rfl : oj'' = oj' := Option.some.inj (hoj''.symm.trans hoj)
        rcases hj2 with ⟨_, u', hyj2, hKj2⟩ | ⟨T, hspT, hyj2, _⟩
        · have hyj2' := (YF_put hsj ap1).1 hyj2
          obtain rfl : u = u' := YF_unique hC (fun t _ ht => hok t ht) (fun t _ ht => hok t ht) hyj' hyj2'
          exact hKj2
        · exfalso
          have hw2 := ((YM_put (S := S) (v := v) hsj ap1).1 hyj2).1
          rcases hspj' with h | h
          · rw [h] at hspT; cases hspT
          · rw [h] at hw2; cases hw2
      · have hyj' := (YM_put hsj ap1).1 hyj
        refine .inr ⟨T, hspj, hyj', fun u w' hb hT => ?_⟩
        refine IH _ _ _ (below_trans hC hb) (Facts.ok_set (Facts.ok_grow hok hst hb) hT) (Facts.set_stable hst hyj'.2.1) (.inr ⟨S, hspi, (YM_put hsi ap3).2 hy, fun v w'' hb2 hS => ?_⟩)
        rw [hcomm, ← Act.put_comm a v u ap2, ← Facts.set_comm ap2]
        have hbb : Below w.heap.size w w'' := below_trans hb hb2
        obtain ⟨oj'', hoj'', hj2⟩ := ((hK v w'' hbb hS).2 j hjr).2
        obtain rfl : oj'' = oj' := Option.some.inj (hoj''.symm.trans hoj)
        rcases hj2 with ⟨hsp2, _, _, _⟩ | ⟨T', hspT, hyj2, hKj2⟩
        · exfalso
          rw [wanted_put oj'' a oi.dst v ap1] at hsp2
          have hw2 := hyj'.1
          rcases hsp2 with h | h
          · rw [h] at hspj; cases hspj
          · rw [h] at hw2; cases hw2
        · obtain rfl : T' = T := Option.some.inj (hspT.symm.trans hspj)
          exact hKj2 u w'' (Below.refl _ _) (hyj'.2.1 _ _ _ hT hb2)

/-- the order of the text serves every order: the first n operations -/
theorem rg_lex {n g : Nat} {Lq : Act → World → Prop} (hsel : Region.noSelect ops = true) (L : Array Bool → Act → World → Prop)
    (Inv : Array Bool → Prop) (hInv : ∀ listed j, Inv listed → j ∈ Region.ready md ops listed → j < n → Inv (listed.setIfInBounds j true))
    (hhead : ∀ i, i < n → ∀ listed, Inv listed → listed.getD i true = false → ∀ j ∈ Region.ready md ops listed, j < n)
    (hdone : ∀ listed a w, L listed a w → ∀ j ∈ Region.ready md ops listed, n ≤ j)
    (hend : ∀ listed a w, Region.seqB md ops g n listed = true → Lq a w → L listed a w) :
    ∀ (l : List Oper) (k : Nat) (listed : Array Bool) (Γ : Facts) (a : Act) (w : World), (∀ j, j < l.length → l[j]? = ops[k + j]?) → k + l.length = n → Inv listed →
    Region.lexHead md ops g l.length k listed = true → Below base.heap.size base w → Γ.ok a w → Γ.stable → rgLex P ops base sp Lq l k Γ a w →
    rgAny P ops base sp md n L l.length listed Γ a w
  | [], k, listed, Γ, a, w, _, hk, _, hB, _, _, _, h => by
    have : k = n := by simpa using hk
    subst this
    exact hend _ _ _ (by simpa [Region.lexHead] using hB) h
  | o :: l, k, listed, Γ, a, w, hl, hk, inv, hB, hC, hok, hst, h => by
    have h0 : ops[k]? = some o := by simpa using (hl 0 (by simp)).symm
    simp only [List.length_cons, Region.lexHead, Bool.and_eq_true] at hB
    obtain ⟨⟨hr, hf⟩, hB'⟩ := hB
    have hkn : k < n := by simp only [List.length_cons] at hk; omega
    have hr' : k ∈ Region.ready md ops listed := by simpa using hr
    have hgo := fun Γ' a' w' => rg_lex hsel L Inv hInv hhead hdone hend l (k + 1) (listed.setIfInBounds k true) Γ' a' w' (fun j hj => by have := hl (j + 1) (by simp; omega); simpa [Nat.add_assoc, Nat.add_comm 1 j] using this)
      (by simp only [List.length_cons] at hk; omega) (hInv _ _ inv hr' hkn) hB'
    refine rg_first h0 (Region.noSelect_spec hsel) Inv hInv (hhead k hkn) hdone l.length listed Γ a w inv (Region.free_spec h0 hf) hr' hC hok hst ?_
    have h' : sStep P ops base sp k o (rgLex P ops base sp Lq l (k + 1)) Γ a w := h
    rcases h' with ⟨h1, v, h2, h3⟩ | ⟨S, h1, h2, h3⟩
    · exact .inl ⟨h1, v, h2, hgo _ _ _ hC (Facts.ok_set (S := Spec.any) hok trivial) (Facts.set_stable hst Spec.any_stable) h3⟩
    · exact .inr ⟨S, h1, h2, fun v w' hb hS => hgo _ _ _ (below_trans hC hb) (Facts.ok_set (Facts.ok_grow hok hst hb) hS) (Facts.set_stable hst h2.2.1) (h3 v w' hb hS)⟩
end

section
variable {P : Program} {sp : Nat → Option Spec} {id : Nat} {Q : Exit → Act → World → Prop} {a : Act} {w : World} {l : List Oper}

/-- **A region that draws, the first n operations in any order, those behind them in the order that is forced.** -/
theorem wp_region_rg_tail (n : Nat) (sp : Nat → Option Spec) (hm : P.follows .mixedOrders = true) (hB : Region.lexTailB .any l.toArray n = true)
    (h : ∀ b, Below w.heap.size w b → b.heap = w.heap → rgLex P l.toArray b sp (fun a' w' => wpList P l.toArray Q (l.drop n) a' w') (l.take n) 0 Facts.empty a b) :
    (Code.region id l.toArray true).wp P Q a w := by
  simp only [Region.lexTailB, Bool.and_eq_true, decide_eq_true_eq] at hB
  obtain ⟨⟨⟨⟨hsel, hn⟩, hs⟩, hc⟩, hlex⟩ := hB
  have htl : (l.take n).length = n := by simp at hn; simp; omega
  have hdl : (l.drop n).length = l.toArray.size - n := by simp
  have inv0 : HeadInv .any l.toArray n (Array.replicate l.toArray.size false) :=
    ⟨by simp, fun j oj _ hl => (by rw [getD_replicate_false] at hl; cases hl), fun t _ ht => getD_in (by simpa using ht) (getD_replicate_false _ _)⟩
  have H := rg_lex (md := .any) (g := l.toArray.size - n) (Lq := fun a' w' => wpList P l.toArray Q (l.drop n) a' w') hsel
    (fun listed' a' w' => Region.seqB .any l.toArray (l.toArray.size - n) n listed' = true ∧ wpList P l.toArray Q (l.drop n) a' w')
    (HeadInv .any l.toArray n) (fun listed j inv hj hjn => inv.set hj hjn) (fun i hin listed inv hun j hj => by
      rcases Nat.lt_or_ge j n with h | h
      · exact h
      · exact absurd hj (tail_waits hs hc hn inv _ i rfl hin hun j h))
    (fun listed a w hL => seqB_ready hL.1) (fun _ _ _ h1 h2 => ⟨h1, h2⟩)
    (l.take n) 0 _ Facts.empty a { w with drawn := w.drawn + 1 } (fun j hj => by
      have hj' : j < n := by rw [htl] at hj; exact hj
      simp [hj']) (by simpa using htl) inv0 (by rw [htl]; exact hlex) (Below.refl _ _) (Facts.empty_ok _ _) Facts.empty_stable
    (h { w with drawn := w.drawn + 1 } ((Below.refl _ _).drew) rfl)
  refine wp_region_any hm ?_
  have := wpAny_of_rg (Q := Q) (g := l.toArray.size - n) (fun listed a' w' hL => by
    have := wpAny_of_seq (md := .any) (Q' := Q) (l.drop n) n listed a' w' (fun j => by simp [List.getElem?_drop]) (by rw [hdl]; exact hL.1) hL.2
    rwa [hdl] at this) _ _ _ _ _ (Below.refl _ _) (Facts.empty_ok _ _) Facts.empty_stable H
  rw [htl, show n + (l.toArray.size - n) = l.toArray.size by simp at hn; simp; omega] at this
  exact this

/-- the static check for a region without a tail -/
def lexAllB (ops : Array Oper) : Bool := Region.noSelect ops && Region.lexHead .any ops 0 ops.size 0 (Array.replicate ops.size false)

/-- **A region that draws, all its operations in any order.** -/
theorem wp_region_rg (sp : Nat → Option Spec) (hm : P.follows .mixedOrders = true) (hB : lexAllB l.toArray = true)
    (h : ∀ b, Below w.heap.size w b → b.heap = w.heap → rgLex P l.toArray b sp (fun a' w' => Q .normal a' w') l 0 Facts.empty a b) :
    (Code.region id l.toArray true).wp P Q a w := by
  simp only [lexAllB, Bool.and_eq_true] at hB
  obtain ⟨hsel, hlex⟩ := hB
  have hsz : l.toArray.size = l.length := by simp
  have H := rg_lex (md := .any) (n := l.length) (g := 0) (Lq := fun a' w' => Q .normal a' w') hsel
    (fun listed' a' w' => Region.ready .any l.toArray listed' = [] ∧ Q .normal a' w')
    (fun _ => True) (fun _ _ _ _ _ => trivial) (fun i _ listed _ _ j hj => by
      obtain ⟨_, o, ho, _⟩ := mem_ready.1 hj
      have := (Array.getElem?_eq_some_iff.1 ho).1
      simpa using this)
    (fun listed a w hL j hj => by rw [hL.1] at hj; cases hj) (fun listed a' w' h1 h2 => ⟨by simpa [Region.seqB] using h1, h2⟩)
    l 0 _ Facts.empty a { w with drawn := w.drawn + 1 } (fun j _ => by simp) (by simp) trivial (by rw [← hsz]; exact hlex) (Below.refl _ _) (Facts.empty_ok _ _) Facts.empty_stable
    (h { w with drawn := w.drawn + 1 } ((Below.refl _ _).drew) rfl)
  refine wp_region_any hm ?_
  have := wpAny_of_rg (Q := Q) (g := 0) (fun listed a' w' hL => ⟨hL.1, hL.2⟩) _ _ _ _ _ (Below.refl _ _) (Facts.empty_ok _ _) Facts.empty_stable H
  rw [hsz]
  simpa using this

/-! ### The steps of the walk -/
variable {ops : Array Oper} {b : World} {q : Act → World → Prop} {o : Oper} {rest : List Oper} {k : Nat} {Γ : Facts}

theorem lex_nil (h : q a w) : rgLex P ops b sp q [] k Γ a w := h
/-- one value in every world that has grown out of b -/
theorem lex_float (v : Value) (hs : sp k = none) (hw : Region.wanted o (yielded ops a.tmps) = true)
    (h : ∀ w1, Below b.heap.size b w1 → facts ops o Γ a w1 → (execOp a.eval o).run P w1 = .ok (.value v) w1)
    (hn : rgLex P ops b sp q rest (k + 1) (Γ.set o.dst Spec.any) (a.put o.dst v) w) : rgLex P ops b sp q (o :: rest) k Γ a w :=
  .inl ⟨.inl hs, v, .inl ⟨hw, h⟩, hn⟩
theorem lex_move (x : Operand) (ho : o.op = .move x ∨ o.op = .assign x) (hs : sp k = none) (hw : Region.wanted o (yielded ops a.tmps) = true)
    (hn : rgLex P ops b sp q rest (k + 1) (Γ.set o.dst Spec.any) (a.put o.dst (a.eval x)) w) : rgLex P ops b sp q (o :: rest) k Γ a w :=
  lex_float (a.eval x) hs hw (fun w1 _ _ => by rcases ho with h | h <;> simp [execOp, h]) hn
theorem lex_skip (hw : Region.wanted o (yielded ops a.tmps) = false)
    (hn : rgLex P ops b sp q rest (k + 1) (Γ.set o.dst Spec.any) (a.put o.dst undef) w) : rgLex P ops b sp q (o :: rest) k Γ a w :=
  .inl ⟨.inr hw, undef, .inr ⟨hw, rfl⟩, hn⟩
theorem lex_make (S : Spec) (hs : sp k = some S) (hst : Spec.stable S) (hw : Region.wanted o (yielded ops a.tmps) = true)
    (h : ∀ w1, Below b.heap.size b w1 → facts ops o Γ a w1 → makes P o a w1 fun v w' => Below w1.heap.size w1 w' ∧ S v w')
    (hn : ∀ v w', Below w.heap.size w w' → S v w' → rgLex P ops b sp q rest (k + 1) (Γ.set o.dst S) (a.put o.dst v) w') : rgLex P ops b sp q (o :: rest) k Γ a w :=
  .inr ⟨S, hs, ⟨hw, hst, h⟩, hn⟩
end
end Go.RG
namespace Go.Hp
open Go.RowKit Go.RG

/-- of the blocks that were there, those outside S are as they were -/
structure Ext (S : Nat → Prop) (w w' : World) : Prop where
  os : w'.os = w.os
  tape : w'.tape = w.tape
  output : w'.output = w.output
  size : w.heap.size ≤ w'.heap.size
  block : ∀ k, k < w.heap.size → ¬ S k → w'.heap[k]? = w.heap[k]?

theorem Ext.refl (S : Nat → Prop) (w : World) : Ext S w w := ⟨rfl, rfl, rfl, Nat.le_refl _, fun _ _ _ => rfl⟩
theorem Ext.of_below {S : Nat → Prop} {w w' : World} (h : Below w.heap.size w w') : Ext S w w' := ⟨h.os, h.tape, h.output, h.size, fun k hk _ => h.block k hk⟩
theorem Ext.of_belowAt {B : Nat} {S : Nat → Prop} {w w' : World} (h : Below B w w') (hS : ∀ k, B ≤ k → k < w.heap.size → S k) : Ext S w w' :=
  ⟨h.os, h.tape, h.output, h.size, fun k hk hn => h.block k (Nat.lt_of_not_le fun hb => hn (hS k hb hk))⟩
theorem Ext.to_below {w w' : World} {S : Nat → Prop} (h : Ext S w w') (hS : ∀ k, k < w.heap.size → ¬ S k) : Below w.heap.size w w' :=
  ⟨h.os, h.tape, h.output, h.size, fun k hk => h.block k hk (hS k hk)⟩
theorem Ext.to_belowAt {w w' : World} {S : Nat → Prop} {B : Nat} (h : Ext S w w') (hB : B ≤ w.heap.size) (hS : ∀ k, k < B → ¬ S k) : Below B w w' :=
  ⟨h.os, h.tape, h.output, h.size, fun k hk => h.block k (Nat.lt_of_lt_of_le hk hB) (hS k hk)⟩
theorem Ext.mono {S S' : Nat → Prop} {w w' : World} (h : Ext S w w') (hS : ∀ k, k < w.heap.size → S k → S' k) : Ext S' w w' :=
  ⟨h.os, h.tape, h.output, h.size, fun k hk hn => h.block k hk (fun hs => hn (hS k hk hs))⟩
theorem Ext.trans {S S' : Nat → Prop} {a b c : World} (h : Ext S a b) (k : Ext S' b c) (hS : ∀ k, k < a.heap.size → S' k → S k) : Ext S a c :=
  ⟨k.os.trans h.os, k.tape.trans h.tape, k.output.trans h.output, Nat.le_trans h.size k.size,
   fun i hi hn => (k.block i (Nat.lt_of_lt_of_le hi h.size) (fun hs => hn (hS i hi hs))).trans (h.block i hi hn)⟩
theorem Ext.grown {w w' : World} {row : Option Nat} {S : Nat → Prop} (hg : w.grownBy w' row) (hS : ∀ k, row = some k → k < w.heap.size → S k) : Ext S w w' :=
  ⟨hg.os, hg.tape, hg.output, hg.size, fun k hk hn => hg.block k hk (fun e => hn (hS k e.symm hk))⟩
theorem Ext.setCell {S : Nat → Prop} {w : World} {p : Addr} (hS : S p.block) (u : Value) : Ext S w (w.setCell p u) :=
  ⟨rfl, rfl, rfl, by simp [World.setCell], fun k _ hn => Below.heap_setCell _ _ _ _ (fun e => hn (e ▸ hS))⟩
theorem Ext.alloc {S : Nat → Prop} (w : World) (o : Obj) : Ext S w (w.alloc o) := Ext.of_below ((Below.refl _ w).alloc (Nat.le_refl _) _)
theorem Ext.drew {S : Nat → Prop} (w : World) : Ext S w w.drew := Ext.of_below ((Below.refl _ w).drew)
theorem Ext.cell {S : Nat → Prop} {w w' : World} (h : Ext S w w') {p : Addr} (hp : p.block < w.heap.size) (hn : ¬ S p.block) : w'.cell? p = w.cell? p :=
  World.cell?_of_block (w := w) (h.block p.block hp hn)
theorem Ext.cell_some {S : Nat → Prop} {w w' : World} (h : Ext S w w') {p : Addr} {v : Value} (hc : w.cell? p = some v) (hn : ¬ S p.block) : w'.cell? p = some v := by
  rw [h.cell (block_lt_of_cell hc) hn]; exact hc

theorem below_box (w : World) (o : Obj) : Below w.heap.size w (w.alloc o) := (Below.refl _ w).alloc (Nat.le_refl _) _
theorem below_drew (w : World) : Below w.heap.size w w.drew := (Below.refl _ w).drew
theorem below_cell {w w' : World} (h : Below w.heap.size w w') {p : Addr} {v : Value} (hc : w.cell? p = some v) : w'.cell? p = some v := by
  rw [h.cell (block_lt_of_cell hc)]; exact hc
theorem below_cell' {B w w' : World} (hB : Below B.heap.size B w) (h : Below w.heap.size w w') {p : Addr} {v : Value} (hc : B.cell? p = some v) : w'.cell? p = some v :=
  below_cell (below_trans hB h) hc
theorem block_lt_of_heap {w : World} {b : Nat} {o : Obj} (h : w.heap[b]? = some o) : b < w.heap.size := (Array.getElem?_eq_some_iff.1 h).1
theorem below_heap {w w' : World} (h : Below w.heap.size w w') {b : Nat} {o : Obj} (hc : w.heap[b]? = some o) : w'.heap[b]? = some o := by
  rw [h.block b (block_lt_of_heap hc)]; exact hc
theorem Ext.heap {S : Nat → Prop} {w w' : World} (h : Ext S w w') {b : Nat} {o : Obj} (hc : w.heap[b]? = some o) (hn : ¬ S b) : w'.heap[b]? = some o := by
  rw [h.block b (block_lt_of_heap hc) hn]; exact hc

/-! ### An owned row in a world that has grown -/
theorem owns_of_block {w w' : World} {base e size n : Nat} {v : Value} {xs : List Value} (h : w.ownsRow base e size v n xs) (hb : ∀ k, v.ownBlock = some k → w'.heap[k]? = w.heap[k]?) : w'.ownsRow base e size v n xs := by
  obtain ⟨h1, h2⟩ := h
  refine ⟨h1, ?_⟩
  rcases h2 with h2 | ⟨g, cap, cur, rfl, hg, hh, hr⟩
  · exact .inl h2
  · exact .inr ⟨g, cap, cur, rfl, hg, by rw [hb g rfl]; exact hh, hr⟩
theorem owns_lt {w : World} {base e size n : Nat} {v : Value} {xs : List Value} (h : w.ownsRow base e size v n xs) {k : Nat} (hk : v.ownBlock = some k) : k < w.heap.size := (h.lt k hk).2
theorem owns_below {w w' : World} {base e size n : Nat} {v : Value} {xs : List Value} (h : w.ownsRow base e size v n xs) (hb : Below w.heap.size w w') : w'.ownsRow base e size v n xs :=
  owns_of_block h fun _ hk => hb.block _ (owns_lt h hk)
theorem owns_ext {S : Nat → Prop} {w w' : World} {base e size n : Nat} {v : Value} {xs : List Value} (h : w.ownsRow base e size v n xs) (hb : Ext S w w') (hn : ∀ k, v.ownBlock = some k → ¬ S k) : w'.ownsRow base e size v n xs :=
  owns_of_block h fun _ hk => hb.block _ (owns_lt h hk) (hn _ hk)
theorem owns_base {w : World} {base base' e size n : Nat} {v : Value} {xs : List Value} (h : w.ownsRow base e size v n xs) (hb : ∀ k, v.ownBlock = some k → base' ≤ k) : w.ownsRow base' e size v n xs := by
  obtain ⟨h1, h2⟩ := h
  refine ⟨h1, ?_⟩
  rcases h2 with h2 | ⟨g, cap, cur, rfl, hg, hr⟩
  · exact .inl h2
  · exact .inr ⟨g, cap, cur, rfl, hb g rfl, hr⟩
/-- its parts, where it is not empty -/
theorem owns_parts {w : World} {base e size n : Nat} {v : Value} {xs : List Value} (h : w.ownsRow base e size v n xs) (hn : 0 < n) :
    ∃ g cap, v = .slice (some ⟨g, 0, none⟩) n cap ∧ base ≤ g ∧ g < w.heap.size ∧ n ≤ cap ∧ cap ≤ maxLen ∧ (∀ j, j < n * size → w.cell? ⟨g, j, none⟩ = xs[j]?) ∧ ∀ j, w.frozen? ⟨g, j, none⟩ = false := by
  have h0 := h
  obtain ⟨_, h2⟩ := h
  rcases h2 with ⟨rfl, rfl⟩ | ⟨g, cap, cur, rfl, hg, hh, hr, hm, _⟩
  · omega
  · exact ⟨g, cap, rfl, hg, block_lt_of_heap hh, hr, hm, fun j hj => h0.cellAt j hj, fun j => h0.frozenAt j⟩
/-- a slice's length and room, whatever it is -/
theorem owns_shape {w : World} {base e size n : Nat} {v : Value} {xs : List Value} (h : w.ownsRow base e size v n xs) : ∃ a cap, v = .slice a n cap ∧ n ≤ cap ∧ cap ≤ maxLen := by
  obtain ⟨_, h2⟩ := h
  rcases h2 with ⟨rfl, rfl⟩ | ⟨g, cap, cur, rfl, _, _, hr, hm, _⟩
  · exact ⟨none, 0, rfl, Nat.le_refl _, Nat.zero_le _⟩
  · exact ⟨_, cap, rfl, hr, hm⟩
theorem owns_length {w : World} {base e size n : Nat} {v : Value} {xs : List Value} (h : w.ownsRow base e size v n xs) : xs.length = n * size := h.1
end Go.Hp
namespace Go.Pg

/-- a stamp -/
structure St where
  t : Int
  s : Int
  deriving DecidableEq
def St.v (a : St) : Value := .agg #[.int .u64 a.t, .int .u64 a.s]
def St.lt (a b : St) : Bool := decide (a.t < b.t) || (decide (a.t = b.t) && decide (a.s < b.s))
def ord (a b : St) : Int := if a.lt b then -1 else if b.lt a then 1 else 0

theorem St.lt_iff {a b : St} : a.lt b = true ↔ a.t < b.t ∨ a.t = b.t ∧ a.s < b.s := by simp [St.lt]
theorem St.lt_irrefl (a : St) : a.lt a = false := by simp [St.lt]
theorem St.lt_trans {a b c : St} (h : a.lt b = true) (k : b.lt c = true) : a.lt c = true := by rw [St.lt_iff] at *; omega
theorem St.lt_asymm {a b : St} (h : a.lt b = true) : b.lt a = false := by
  cases k : b.lt a
  · rfl
  · rw [St.lt_iff] at *; omega
theorem St.eq_of {a b : St} (h : a.lt b = false) (k : b.lt a = false) : a = b := by
  have h1 : ¬ (a.t < b.t ∨ a.t = b.t ∧ a.s < b.s) := fun x => by rw [St.lt_iff.2 x] at h; cases h
  have h2 : ¬ (b.t < a.t ∨ b.t = a.t ∧ b.s < a.s) := fun x => by rw [St.lt_iff.2 x] at k; cases k
  obtain ⟨at', as'⟩ := a
  obtain ⟨bt, bs⟩ := b
  simp only [] at h1 h2
  have e1 : at' = bt := by omega
  have e2 : as' = bs := by omega
  rw [e1, e2]
theorem St.le_lt {a b c : St} (h : b.lt a = false) (k : b.lt c = true) : a.lt c = true := by
  cases e : a.lt b
  · rw [St.eq_of e h]; exact k
  · exact St.lt_trans e k
theorem St.lt_le {a b c : St} (h : a.lt b = true) (k : c.lt b = false) : a.lt c = true := by
  cases e : b.lt c
  · rw [← St.eq_of e k]; exact h
  · exact St.lt_trans h e
theorem ord_neg {a b : St} : ord a b < 0 ↔ a.lt b = true := by
  unfold ord
  cases h : a.lt b
  · cases k : b.lt a <;> simp
  · simp
theorem ord_zero {a b : St} : ord a b = 0 ↔ a = b := by
  unfold ord
  cases h : a.lt b
  · cases k : b.lt a
    · simp [St.eq_of h k]
    · simp only [Bool.false_eq_true, if_false, if_true]
      constructor
      · intro x; cases x
      · rintro rfl; rw [St.lt_irrefl] at k; cases k
  · simp only [if_true]
    constructor
    · intro x; cases x
    · rintro rfl; rw [St.lt_irrefl] at h; cases h

/-- the stamp at a place -/
def key (l : List St) (i : Nat) : St := l.getD i ⟨0, 0⟩
theorem key_of {l : List St} {i : Nat} (h : i < l.length) : key l i = l[i] := by simp [key, h]
/-! ### the search in a rising list of stamps -/
/-- how many of them stand rank of s -/
def rank (l : List St) (s : St) : Nat := (l.takeWhile (·.lt s)).length
def isIn (l : List St) (s : St) : Bool := l[rank l s]? == some s
def Rising (l : List St) : Prop := l.Pairwise fun a b => a.lt b = true

theorem rank_le (l : List St) (s : St) : rank l s ≤ l.length := (List.takeWhile_sublist _).length_le
theorem rank_cons (x : St) (l : List St) (s : St) : rank (x :: l) s = if x.lt s then rank l s + 1 else 0 := by
  unfold rank; rw [List.takeWhile_cons]; split <;> simp_all
theorem rank_lt {l : List St} {s : St} : ∀ {j : Nat}, j < rank l s → ∀ h : j < l.length, l[j].lt s = true := by
  induction l with
  | nil => intro j h h'; cases h'
  | cons x l ih =>
    intro j h h'
    rw [rank_cons] at h
    split at h
    · cases j with
      | zero => simpa
      | succ j => simpa using ih (by omega) (by simpa using h')
    · omega
theorem rank_ge {l : List St} {s : St} (hr : Rising l) : ∀ {j : Nat}, rank l s ≤ j → ∀ h : j < l.length, l[j].lt s = false := by
  induction l with
  | nil => intro j h h'; cases h'
  | cons x l ih =>
    intro j h h'
    have hr' := List.pairwise_cons.1 hr
    rw [rank_cons] at h
    split at h
    · cases j with
      | zero => omega
      | succ j => simpa using ih hr'.2 (by omega) (by simpa using h')
    · rename_i hx
      have hx' : x.lt s = false := by simpa using hx
      cases j with
      | zero => simpa
      | succ j =>
        have h1 := hr'.1 (l[j]'(by simpa using h')) (List.getElem_mem _)
        cases e : (l[j]'(by simpa using h')).lt s
        · simpa using e
        · rw [St.lt_trans h1 e] at hx'; cases hx'
theorem isIn_iff {l : List St} {s : St} : isIn l s = true ↔ rank l s < l.length ∧ key l (rank l s) = s := by
  unfold isIn
  rw [beq_iff_eq]
  constructor
  · intro h
    obtain ⟨h1, h2⟩ := List.getElem?_eq_some_iff.1 h
    exact ⟨h1, by rw [key_of h1]; exact h2⟩
  · rintro ⟨h1, h2⟩
    rw [List.getElem?_eq_getElem h1, ← key_of h1, h2]
/-- the place that parts a rising list is the only one -/
theorem rank_unique {l : List St} {s : St} (hr : Rising l) {i : Nat} (hi : i ≤ l.length) (k1 : ∀ j, j < i → (key l j).lt s = true)
    (k2 : ∀ j, i ≤ j → j < l.length → (key l j).lt s = false) : rank l s = i := by
  have h1 : ∀ j, j < i → ∀ h : j < l.length, l[j].lt s = true := fun j hj h => by rw [← key_of h]; exact k1 j hj
  have h2 : ∀ j, i ≤ j → ∀ h : j < l.length, l[j].lt s = false := fun j hj h => by rw [← key_of h]; exact k2 j hj h
  have hle := rank_le l s
  rcases Nat.lt_trichotomy (rank l s) i with h | h | h
  · have a := h1 _ h (by omega)
    have b := rank_ge hr (Nat.le_refl _) (s := s) (j := rank l s) (by omega)
    rw [a] at b; cases b
  · exact h
  · have a := h2 _ (Nat.le_refl _) (by omega)
    have b := rank_lt h (by omega)
    rw [a] at b; cases b
theorem rising_key {l : List St} (hr : Rising l) {i j : Nat} (h : i < j) (hj : j < l.length) : (key l i).lt (key l j) = true := by
  rw [key_of hj, key_of (Nat.lt_trans h hj)]
  exact List.pairwise_iff_getElem.1 hr i j _ _ h
theorem rising_lt {l : List St} (hr : Rising l) {i j : Nat} {s : St} (h : i < j) (hj : j < l.length) (k : (key l j).lt s = true) : (key l i).lt s = true :=
  St.lt_trans (rising_key hr h hj) k
theorem rising_ge {l : List St} (hr : Rising l) {i j : Nat} {s : St} (h : i < j) (hj : j < l.length) (k : (key l i).lt s = false) : (key l j).lt s = false := by
  cases e : (key l j).lt s
  · rfl
  · rw [rising_lt hr h hj e] at k; cases k
end Go.Pg
namespace Go.Hp
open Go.RowKit Go.RG

/-- block g is a row of these cells, none of them frozen -/
def Row (w : World) (g : Nat) (e : TypeId) (L : List Value) : Prop := w.heap[g]? = some (.cells L.toArray e (0, 0))

theorem Row.lt {w : World} {g : Nat} {e : TypeId} {L : List Value} (h : Row w g e L) : g < w.heap.size := block_lt_of_heap h
theorem Row.cell {w : World} {g : Nat} {e : TypeId} {L : List Value} (h : Row w g e L) (i : Nat) : w.cell? ⟨g, i, none⟩ = L[i]? := by
  unfold Row at h; simp [World.cell?, h]
theorem Row.frozen {w : World} {g : Nat} {e : TypeId} {L : List Value} (h : Row w g e L) (i : Nat) : w.frozen? ⟨g, i, none⟩ = false := by
  unfold Row at h; simp [World.frozen?, h]
theorem Row.below {w w' : World} {g : Nat} {e : TypeId} {L : List Value} (h : Row w g e L) (hb : Below w.heap.size w w') : Row w' g e L := below_heap hb h
theorem Row.ext {S : Nat → Prop} {w w' : World} {g : Nat} {e : TypeId} {L : List Value} (h : Row w g e L) (hb : Ext S w w') (hn : ¬ S g) : Row w' g e L := hb.heap h hn
theorem row_new (w : World) (L : List Value) (e : TypeId) : Row (w.alloc (.cells L.toArray e)) w.heap.size e L := heap_alloc_new w _
theorem row_put {w : World} {g : Nat} {e : TypeId} {L : List Value} (h : Row w g e L) (L' : List Value) : Row (w.setRow g L'.toArray) g e L' := setRow_heap w g L.toArray L'.toArray e (0, 0) h
theorem ext_setRow (w : World) (g : Nat) (cs : Array Value) : Ext (· = g) w (w.setRow g cs) :=
  ⟨rfl, rfl, rfl, by simp, fun k _ hn => setRow_other w g k cs hn⟩

/-- what is owned lies in a row -/
theorem owns_row {w : World} {base e size n g cap : Nat} {xs : List Value} (h : w.ownsRow base e size (.slice (some ⟨g, 0, none⟩) n cap) n xs) :
    ∃ L, Row w g e L ∧ L.length = cap * size ∧ L.take (n * size) = xs ∧ n ≤ cap ∧ cap ≤ maxLen := by
  obtain ⟨_, h2⟩ := h
  rcases h2 with ⟨h, _⟩ | ⟨g', cap', cur, hv, _, hh, hr, hm, hs, ht⟩
  · cases h
  · injection hv with h1 _ h3
    injection h1 with h1
    injection h1 with h1 _ _
    subst h1 h3
    exact ⟨cur.toList, by unfold Row; simpa using hh, by simpa using hs, ht, hr, hm⟩
theorem owns_of_row {w : World} {base e size n g cap : Nat} {L xs : List Value} (h : Row w g e L) (hl : L.length = cap * size) (hn : n ≤ cap) (hc : cap ≤ maxLen) (hx : L.take (n * size) = xs) (hb : base ≤ g) :
    w.ownsRow base e size (.slice (some ⟨g, 0, none⟩) n cap) n xs := by
  refine ⟨?_, .inr ⟨g, cap, L.toArray, rfl, hb, h, hn, hc, by simpa using hl, hx⟩⟩
  rw [← hx, List.length_take]
  have := Nat.mul_le_mul_right size hn
  omega

section
variable {P : Program}

theorem run_copy_k (w : World) (dT sT ty elem : TypeId) (i : TypeInfo) (size : Nat) (hu : P.underlying dT = some (.slice elem)) (hi : P.info? elem = some i) (hsz : i.size = size)
    (g o dLen dCap : Nat) (a : Addr) (sLen sCap : Nat) (e : TypeId) (L cs : List Value) (hg : Row w g e L) (hn : cs.length = Nat.min sLen dLen * size)
    (hsrc : ∀ j v, cs[j]? = some v → w.cell? (a.add j) = some v) (hfit : o + cs.length ≤ L.length) (h1 : ∀ v ∈ cs, v.oneCell' = true) :
    (Builtin.copy_ #[dT, sT] ty #[.slice (some ⟨g, o, none⟩) dLen dCap, .slice (some a) sLen sCap]).run P w =
      .ok (goInt (Nat.min sLen dLen)) (w.setRow g (splice L o cs).toArray) := by
  have hl := run_loadCells_list (P := P) w a cs hsrc
  have hst := run_storeCells_at P g o e cs 0 L.toArray w hg (by simpa using hfit) h1
  subst hsz
  simp [Builtin.copy_, run_underlying hu, Builtin.lenOf, Builtin.firstCells, sizeOf, typeInfo, hi, ← hn, hl, hst, splice]

theorem run_copy_k_nil (w : World) (dT sT ty elem : TypeId) (i : TypeInfo) (hu : P.underlying dT = some (.slice elem)) (hi : P.info? elem = some i)
    (d : Option Addr) (dLen dCap : Nat) (s : Option Addr) (sLen sCap : Nat) (hn : Nat.min sLen dLen = 0) :
    (Builtin.copy_ #[dT, sT] ty #[.slice d dLen dCap, .slice s sLen sCap]).run P w = .ok (goInt 0) w := by
  have hn' : min sLen dLen = 0 := hn
  cases d <;> cases s <;> simp [Builtin.copy_, run_underlying hu, Builtin.lenOf, Builtin.firstCells, sizeOf, typeInfo, hi, hn, hn', storeCells, loadCells, loadCellsFrom]

theorem zeroCells_one {z : Value} (h1 : ∀ v ∈ z.cells, v.oneCell' = true) (hz : 0 < z.cells.size) (n : Nat) : ∀ v ∈ (Builtin.zeroCells z.cells n).toList, v.oneCell' = true := by
  intro v hv
  simp only [Builtin.zeroCells, Array.toList_map, List.mem_map] at hv
  obtain ⟨j, _, rfl⟩ := hv
  have : j % z.cells.size < z.cells.size := Nat.mod_lt _ hz
  rw [getElem!_pos z.cells _ this]
  exact h1 _ (Array.getElem_mem _)

theorem run_clear_k (w : World) (dT ty elem : TypeId) (i : TypeInfo) (z : Value) (size : Nat) (hu : P.underlying dT = some (.slice elem)) (hi : P.info? elem = some i) (hz : i.zero = some z) (hzs : z.cells.size = size) (hpos : 0 < size)
    (h1 : ∀ v ∈ z.cells, v.oneCell' = true) (g o n c : Nat) (e : TypeId) (L : List Value) (hg : Row w g e L) (hfit : o + n * size ≤ L.length) :
    ∃ zs : List Value, zs.length = n * size ∧ (Builtin.clear_ #[dT] ty #[.slice (some ⟨g, o, none⟩) n c]).run P w = .ok (.tuple #[]) (w.setRow g (splice L o zs).toArray) := by
  have hzl : (Builtin.zeroCells z.cells n).toList.length = n * size := by simp [size_zeroCells, hzs]
  have hst := run_storeCells_at P g o e (Builtin.zeroCells z.cells n).toList 0 L.toArray w hg (by simp only [Array.length_toList] at hzl; simp [hzl]; omega) (zeroCells_one h1 (by omega) n)
  refine ⟨_, hzl, ?_⟩
  cases n with
  | zero =>
    have h0 : (Builtin.zeroCells z.cells 0).toList = [] := List.eq_nil_of_length_eq_zero (by simpa using hzl)
    rw [h0]
    have : splice L o ([] : List Value) = L := by simp [splice]
    rw [this, setRow_self w g L.toArray e (0, 0) hg]
    simp [Builtin.clear_, run_underlying hu]
  | succ n =>
    simp only [Array.length_toList] at hzl
    simp only [Nat.add_zero] at hst
    simp [Builtin.clear_, run_underlying hu, zeroValue, typeInfo, hi, hz, hst, splice]

/-! ### As steps of the walk -/
variable {w : World} {ops : Array Oper} {rest : List Oper} {o : Oper} {a : Act} {Q : Exit → Act → World → Prop}

theorem wpList_value {v : Value} {w' : World} (hgd : o.guard = none) (hr : (execOp a.eval o).run P w = .ok (.value v) w') (h : wpList P ops Q rest (a.put o.dst v) w') : wpList P ops Q (o :: rest) a w := by
  refine wpList_plain hgd fun K hK => ?_
  unfold Oper.wp
  rw [hr]
  exact hK _ _ h
theorem exec_copy (d s : Operand) (t t' : TypeId) (ho : o.op = .call { callee := .builtin .copy, args := #[d, s], argTypes := #[t, t'] }) {v : Value} {w' : World}
    (hr : (Builtin.copy_ #[t, t'] o.type #[a.eval d, a.eval s]).run P w = .ok v w') : (execOp a.eval o).run P w = .ok (.value v) w' := by
  simp [execOp, ho, resolve, invoke, builtin, hr]
theorem exec_clear (d : Operand) (t : TypeId) (ho : o.op = .call { callee := .builtin .clear, args := #[d], argTypes := #[t] }) {v : Value} {w' : World}
    (hr : (Builtin.clear_ #[t] o.type #[a.eval d]).run P w = .ok v w') : (execOp a.eval o).run P w = .ok (.value v) w' := by
  simp [execOp, ho, resolve, invoke, builtin, hr]
theorem exec_append (d s : Operand) (t t' : TypeId) (ho : o.op = .call { callee := .builtin .append, args := #[d, s], argTypes := #[t, t'] }) {v : Value} {w' : World}
    (hr : (Builtin.append_ #[t, t'] o.type #[a.eval d, a.eval s]).run P w = .ok v w') : (execOp a.eval o).run P w = .ok (.value v) w' := by
  simp [execOp, ho, resolve, invoke, builtin, hr]

/-- copy into a row: behind it the row is a splice, all other blocks are as they were -/
theorem wpList_copy_k (hgd : o.guard = none) (d s : Operand) (dT sT : TypeId) (ho : o.op = .call { callee := .builtin .copy, args := #[d, s], argTypes := #[dT, sT] })
    (elem : TypeId) (i : TypeInfo) (size : Nat) (hu : P.underlying dT = some (.slice elem)) (hi : P.info? elem = some i) (hsz : i.size = size)
    (dp sp : Option Addr) (dLen dCap sLen sCap : Nat) (hd : a.eval d = .slice dp dLen dCap) (hs : a.eval s = .slice sp sLen sCap)
    (g off : Nat) (e : TypeId) (L cs : List Value) (hg : Row w g e L) (hn : cs.length = Nat.min sLen dLen * size)
    (hpos : 0 < Nat.min sLen dLen → dp = some ⟨g, off, none⟩ ∧ ∃ ad, sp = some ad ∧ ∀ j v, cs[j]? = some v → w.cell? (ad.add j) = some v)
    (hfit : off + cs.length ≤ L.length) (h1 : ∀ v ∈ cs, v.oneCell' = true)
    (h : ∀ w', Row w' g e (splice L off cs) → Ext (· = g) w w' → wpList P ops Q rest (a.put o.dst (.int .i64 (Nat.min sLen dLen : Nat))) w') :
    wpList P ops Q (o :: rest) a w := by
  by_cases h0 : Nat.min sLen dLen = 0
  · have hc : cs = [] := List.eq_nil_of_length_eq_zero (by rw [hn, h0, Nat.zero_mul])
    subst hc
    refine wpList_value hgd (exec_copy d s dT sT ho (by rw [hd, hs]; exact run_copy_k_nil w dT sT o.type elem i hu hi dp dLen dCap sp sLen sCap h0)) ?_
    have h2 := h w (by simpa [splice] using hg) (Ext.refl _ _)
    rw [h0] at h2
    exact h2
  · obtain ⟨rfl, ad, rfl, hsrc⟩ := hpos (by omega)
    refine wpList_value hgd (exec_copy d s dT sT ho (by rw [hd, hs]; exact run_copy_k w dT sT o.type elem i size hu hi hsz g off dLen dCap ad sLen sCap e L cs hg hn hsrc hfit h1)) ?_
    exact h _ (row_put hg _) (ext_setRow _ _ _)

theorem wpList_clear_k (hgd : o.guard = none) (d : Operand) (dT : TypeId) (ho : o.op = .call { callee := .builtin .clear, args := #[d], argTypes := #[dT] })
    (elem : TypeId) (i : TypeInfo) (z : Value) (size : Nat) (hu : P.underlying dT = some (.slice elem)) (hi : P.info? elem = some i) (hz : i.zero = some z) (hzs : z.cells.size = size) (hpos : 0 < size)
    (h1 : ∀ v ∈ z.cells, v.oneCell' = true) (g off n c : Nat) (hd : a.eval d = .slice (some ⟨g, off, none⟩) n c) (e : TypeId) (L : List Value) (hg : Row w g e L) (hfit : off + n * size ≤ L.length)
    (h : ∀ w' zs, zs.length = n * size → Row w' g e (splice L off zs) → Ext (· = g) w w' → wpList P ops Q rest (a.put o.dst (.tuple #[])) w') : wpList P ops Q (o :: rest) a w := by
  obtain ⟨zs, hl, hr⟩ := run_clear_k (P := P) w dT o.type elem i z size hu hi hz hzs hpos h1 g off n c e L hg hfit
  exact wpList_value hgd (exec_clear d dT ho (by rw [hd]; exact hr)) (h _ zs hl (row_put hg _) (ext_setRow _ _ _))

/-- append where there is room -/
theorem wpList_append_room (hgd : o.guard = none) (d s : Operand) (t : TypeId) (ho : o.op = .call { callee := .builtin .append, args := #[d, s], argTypes := #[t, t] })
    (e : TypeId) (i : TypeInfo) (size : Nat) (ht : P.underlying t = some (.slice e)) (hi : P.info? e = some i) (hsz : i.size = size)
    (g n cap : Nat) (sp : Option Addr) (m c : Nat) (hd : a.eval d = .slice (some ⟨g, 0, none⟩) n cap) (hs : a.eval s = .slice sp m c)
    (L news : List Value) (hg : Row w g e L) (hl : news.length = m * size) (hnews : 0 < m → ∃ ad, sp = some ad ∧ ∀ j v, news[j]? = some v → w.cell? (ad.add j) = some v) (h1 : ∀ v ∈ news, v.oneCell' = true)
    (hroom : n + m ≤ cap) (hfit : n * size + news.length ≤ L.length)
    (h : ∀ w', Row w' g e (splice L (n * size) news) → Ext (· = g) w w' → wpList P ops Q rest (a.put o.dst (.slice (some ⟨g, 0, none⟩) (n + m) cap)) w') : wpList P ops Q (o :: rest) a w := by
  subst hsz
  by_cases h0 : m = 0
  · subst h0
    have hc : news = [] := List.eq_nil_of_length_eq_zero (by rw [hl, Nat.zero_mul])
    subst hc
    have hrun : (Builtin.append_ #[t, t] o.type #[.slice (some ⟨g, 0, none⟩) n cap, .slice sp 0 c]).run P w = .ok (.slice (some ⟨g, 0, none⟩) n cap) w := by
      have hn : n ≤ cap := by omega
      cases sp <;> simp [Builtin.append_, run_underlying ht, sizeOf, typeInfo, hi, Builtin.lenOf, Builtin.firstCells, loadCells, loadCellsFrom, storeCells, hn]
    refine wpList_value hgd (exec_append d s t t ho (by rw [hd, hs]; exact hrun)) ?_
    exact h w (by simpa [splice] using hg) (Ext.refl _ _)
  · obtain ⟨ad, rfl, hsrc⟩ := hnews (by omega)
    have hr := run_append_room (P := P) w t o.type e i ht hi g n cap L.toArray hg ad m c news hl hsrc h1 hroom (by simpa using hfit)
    refine wpList_value hgd (exec_append d s t t ho (by rw [hd, hs]; exact hr)) ?_
    exact h _ (by simpa [splice] using row_put hg (splice L (n * i.size) news)) (ext_setRow _ _ _)

/-- append(s[:n], make([]T, k)...) where there is no room: a new row -/
theorem wpList_append_zeros (hgd : o.guard = none) (d s : Operand) (t tn : TypeId) (ho : o.op = .call { callee := .builtin .append, args := #[d, s], argTypes := #[t, tn] })
    (e : TypeId) (i : TypeInfo) (z : Value) (kq kn : IntKind) (size bytes : Nat) (ht : P.underlying t = some (.slice e)) (htn : P.underlying tn = some (.int kn)) (hi : P.info? e = some i) (hz : i.zero = some z)
    (hsz : i.size = size) (hby : i.bytes = bytes) (hzs : z.cells.size = size) (hpos : 0 < size)
    (g n cap k : Nat) (hd : a.eval d = .slice (some ⟨g, 0, none⟩) n cap) (hs : a.eval s = .int kq k) (L : List Value) (hg : Row w g e L) (hfit : n * size ≤ L.length)
    (h0 : 0 < k) (hroom : cap < n + k) (hmax : n + k ≤ maxLen) (hbytes : (n + k) * bytes ≤ 140737488355328)
    (h : ∀ w' L' cap', Row w' w.heap.size e L' → L'.take (n * size) = L.take (n * size) → L'.length = cap' * size → n + k ≤ cap' → cap' ≤ maxLen → Below w.heap.size w w' →
      wpList P ops Q rest (a.put o.dst (.slice (some ⟨w.heap.size, 0, none⟩) (n + k) cap')) w') : wpList P ops Q (o :: rest) a w := by
  have hm : n + k ≤ 9223372036854775807 := by simp only [maxLen] at hmax; omega
  have holds : ∀ j v, (L.take (n * size))[j]? = some v → w.drew.cell? ((⟨g, 0, none⟩ : Addr).add j) = some v := by
    intro j v hv
    have : L[j]? = some v := by
      rw [List.getElem?_take] at hv
      split at hv
      · exact hv
      · cases hv
    rw [Addr.add_lit, Nat.zero_add]
    show w.cell? _ = _
    rw [hg.cell]; exact this
  have hlen : (L.take (n * size)).length = n * size := by rw [List.length_take]; omega
  have hf := run_firstCells_some (P := P) w.drew size n ⟨g, 0, none⟩ n cap (L.take (n * size)) hlen holds
  have hkb : k * i.bytes ≤ 281474976710656 := by
    rw [hby]
    have := Nat.mul_le_mul_right bytes (show k ≤ n + k by omega)
    omega
  have hr := Lib.run_append_grow_zeros (P := P) w t tn o.type e i z kq kn ht htn hi hz (some ⟨g, 0, none⟩) n cap (L.take (n * size)) (by rw [hsz]; exact hf) k h0 (by omega) hroom (by omega) hkb (by rw [hby]; exact growslice_fits (by omega) hbytes)
  refine wpList_value hgd (exec_append d s t tn ho (by rw [hd, hs]; exact hr)) ?_
  have hge := grownCap_ge w (n + k) cap e
  have hcm := grownCap_le_maxLen w (n + k) cap e hmax
  have hb : Below w.heap.size w (w.drew.alloc (.cells ((L.take (n * size)).toArray ++ Builtin.zeroCells z.cells k ++ Builtin.zeroCells z.cells (grownCap w (n + k) cap e - (n + k))) e)) := (Below.refl _ w).drew.alloc (by simp) _
  refine h _ ((L.take (n * size)) ++ ((Builtin.zeroCells z.cells k).toList ++ (Builtin.zeroCells z.cells (grownCap w (n + k) cap e - (n + k))).toList)) _ ?_ ?_ ?_ hge hcm hb
  · have := row_new w.drew ((L.take (n * size)) ++ ((Builtin.zeroCells z.cells k).toList ++ (Builtin.zeroCells z.cells (grownCap w (n + k) cap e - (n + k))).toList)) e
    have e1 : (L.take (n * size) ++ ((Builtin.zeroCells z.cells k).toList ++ (Builtin.zeroCells z.cells (grownCap w (n + k) cap e - (n + k))).toList)).toArray = (L.take (n * size)).toArray ++ Builtin.zeroCells z.cells k ++ Builtin.zeroCells z.cells (grownCap w (n + k) cap e - (n + k)) := by
      apply Array.ext'; simp
    rw [e1] at this
    exact this
  · rw [List.take_append_of_le_length (by omega), List.take_of_length_le (by omega)]
  · simp only [List.length_append, hlen, Array.length_toList, size_zeroCells, hzs, ← Nat.add_mul]
    congr 1
    omega

/-- append(nil, make([]T, n)...) -/
theorem wpList_append_nil_zeros (hgd : o.guard = none) (d s : Operand) (t tn : TypeId) (ho : o.op = .call { callee := .builtin .append, args := #[d, s], argTypes := #[t, tn] })
    (e : TypeId) (i : TypeInfo) (z : Value) (kq kn : IntKind) (size bytes : Nat) (ht : P.underlying t = some (.slice e)) (htn : P.underlying tn = some (.int kn)) (hi : P.info? e = some i) (hz : i.zero = some z)
    (hsz : i.size = size) (hby : i.bytes = bytes) (hzs : z.cells.size = size) (hpos : 0 < size)
    (n : Nat) (hd : a.eval d = .slice none 0 0) (hs : a.eval s = .int kq n) (h0 : 0 < n) (hmax : n ≤ maxLen) (hbytes : n * bytes ≤ 140737488355328)
    (h : ∀ w' L' cap', Row w' w.heap.size e L' → L'.length = cap' * size → n ≤ cap' → cap' ≤ maxLen → Below w.heap.size w w' →
      wpList P ops Q rest (a.put o.dst (.slice (some ⟨w.heap.size, 0, none⟩) n cap')) w') : wpList P ops Q (o :: rest) a w := by
  have hm : n ≤ 9223372036854775807 := by simp only [maxLen] at hmax; omega
  have hr := Lib.run_append_nil_zeros (P := P) w t tn o.type e i z kq kn ht htn hi hz n h0 (by omega) (by omega) (by rw [hby]; omega)
  refine wpList_value hgd (exec_append d s t tn ho (by rw [hd, hs]; exact hr)) ?_
  have hge := grownCap_ge w n 0 e
  have hcm := grownCap_le_maxLen w n 0 e hmax
  refine h _ ((Builtin.zeroCells z.cells n ++ Builtin.zeroCells z.cells (grownCap w n 0 e - n)).toList) _ ?_ ?_ hge hcm ((Below.refl _ w).drew.alloc (by simp) _)
  · have := row_new w.drew (Builtin.zeroCells z.cells n ++ Builtin.zeroCells z.cells (grownCap w n 0 e - n)).toList e
    rw [Array.toArray_toList] at this
    exact this
  · simp only [Array.toList_append, List.length_append, Array.length_toList, size_zeroCells, hzs, ← Nat.add_mul]
    congr 1
    omega
end
end Go.Hp
namespace Go.Hp

theorem take_eq {α : Type} {L xs : List α} {n : Nat} (h : L.take n = xs) (hn : n ≤ L.length) : ∃ R, L = xs ++ R ∧ xs.length = n :=
  ⟨L.drop n, by rw [← h, List.take_append_drop], by rw [← h, List.length_take]; omega⟩

/-- a new row that begins with the first a cells; then vs; then the rest -/
theorem insert_new {α : Type} {L xs vs : List α} {a N : Nat} (hL : L.take a = xs.take a) (hN : xs.length = N) (ha : a ≤ N) (hl : N + vs.length ≤ L.length) :
    (splice (splice L a vs) (a + vs.length) (xs.drop a)).take (N + vs.length) = xs.take a ++ (vs ++ xs.drop a) := by
  obtain ⟨R, hR, hra⟩ := take_eq hL (by omega)
  subst hR
  generalize hA : xs.take a = A at *
  have hAl : A.length = a := hra
  generalize hD : xs.drop a = D at *
  have hDl : D.length = N - a := by rw [← hD, List.length_drop, hN]
  rw [List.length_append] at hl
  have e1 : splice (A ++ R) a vs = A ++ (vs ++ R.drop vs.length) := by
    unfold splice
    rw [List.take_append_of_le_length (by omega), List.take_of_length_le (by omega), ← hAl, ← List.drop_drop, List.drop_left]
  rw [e1]
  have e2 : splice (A ++ (vs ++ R.drop vs.length)) (a + vs.length) D = A ++ (vs ++ (D ++ (R.drop vs.length).drop D.length)) := by
    unfold splice
    have h1 : A ++ (vs ++ R.drop vs.length) = (A ++ vs) ++ R.drop vs.length := by simp
    rw [h1, List.take_append_of_le_length (by simp; omega), List.take_of_length_le (by simp; omega), ← List.drop_drop]
    have h2 : a + vs.length = (A ++ vs).length := by simp [hAl]
    rw [h2, List.drop_left]
    simp
  rw [e2]
  have h3 : A ++ (vs ++ (D ++ (R.drop vs.length).drop D.length)) = (A ++ (vs ++ D)) ++ (R.drop vs.length).drop D.length := by simp
  rw [h3, List.take_append_of_le_length (by simp; omega), List.take_of_length_le (by simp; omega)]

/-- in place: the rest first, then vs over what it has left -/
theorem insert_in {α : Type} {L xs vs : List α} {a N : Nat} (hL : L.take N = xs) (hN : xs.length = N) (ha : a ≤ N) (hl : N + vs.length ≤ L.length) :
    (splice (splice L (a + vs.length) (xs.drop a)) a vs).take (N + vs.length) = xs.take a ++ (vs ++ xs.drop a) := by
  generalize hD : xs.drop a = D at *
  have hDl : D.length = N - a := by rw [← hD, List.length_drop, hN]
  have h1 : splice L (a + vs.length) D = L.take (a + vs.length) ++ (D ++ L.drop (a + vs.length + D.length)) := rfl
  have hTl : (L.take (a + vs.length)).length = a + vs.length := by rw [List.length_take]; omega
  rw [h1]
  unfold splice
  have h2 : (L.take (a + vs.length) ++ (D ++ L.drop (a + vs.length + D.length))).take a = xs.take a := by
    rw [List.take_append_of_le_length (by omega), List.take_take, ← hL, List.take_take]
    congr 1
    omega
  have h3 : (L.take (a + vs.length) ++ (D ++ L.drop (a + vs.length + D.length))).drop (a + vs.length) = D ++ L.drop (a + vs.length + D.length) := by
    conv => lhs; arg 1; rw [← hTl]
    rw [List.drop_left]
  rw [h2, h3]
  have h4 : xs.take a ++ (vs ++ (D ++ L.drop (a + vs.length + D.length))) = (xs.take a ++ (vs ++ D)) ++ L.drop (a + vs.length + D.length) := by simp
  have h5 : (xs.take a).length = a := by rw [List.length_take]; omega
  rw [h4, List.take_append_of_le_length (by simp only [List.length_append, h5, hDl]; omega), List.take_of_length_le (by simp only [List.length_append, h5, hDl]; omega)]

/-- in place: what stands from b on is laid over what stands from a on -/
theorem delete_in {α : Type} {L xs zs : List α} {a b N : Nat} (hL : L.take N = xs) (hN : xs.length = N) (hab : a ≤ b) (hb : b ≤ N) (hl : N ≤ L.length) (hz : zs.length = b - a) :
    (splice (splice L a (xs.drop b)) (N - (b - a)) zs).take (N - (b - a)) = xs.take a ++ xs.drop b := by
  generalize hD : xs.drop b = D at *
  have hDl : D.length = N - b := by rw [← hD, List.length_drop, hN]
  have hAl : (L.take a).length = a := by rw [List.length_take]; omega
  have h0 : L.take a = xs.take a := by rw [← hL, List.take_take]; congr 1; omega
  have h1 : splice L a D = (L.take a ++ D) ++ L.drop (a + D.length) := by simp [splice]
  have hTl : (L.take a ++ D).length = N - (b - a) := by rw [List.length_append, hAl, hDl]; omega
  rw [h1]
  unfold splice
  rw [List.take_append_of_le_length (by rw [List.length_take, List.length_append, hTl]; omega), List.take_take, Nat.min_self, List.take_append_of_le_length (by omega), List.take_of_length_le (by omega), h0]

theorem splice_eq {α : Type} {A M R cs : List α} (h : M.length = cs.length) : splice (A ++ (M ++ R)) A.length cs = A ++ (cs ++ R) := by
  unfold splice
  rw [List.take_left, ← List.drop_drop, List.drop_left, ← h, List.drop_left]
/-- first vs, then D behind it -/
theorem fill_new {α : Type} {L vs D : List α} {a : Nat} (hl : a + vs.length + D.length ≤ L.length) :
    (splice (splice L a vs) (a + vs.length) D).take (a + vs.length + D.length) = L.take a ++ (vs ++ D) := by
  have hA : (L.take a).length = a := by rw [List.length_take]; omega
  have h1 : splice L a vs = (L.take a ++ vs) ++ L.drop (a + vs.length) := by simp [splice]
  have hB : (L.take a ++ vs).length = a + vs.length := by simp [hA]
  have h2 : splice ((L.take a ++ vs) ++ L.drop (a + vs.length)) (a + vs.length) D = ((L.take a ++ vs) ++ D) ++ (L.drop (a + vs.length)).drop D.length := by
    unfold splice
    rw [List.take_append_of_le_length (by omega), List.take_of_length_le (by omega), ← List.drop_drop]
    conv => lhs; arg 2; arg 2; arg 2; arg 1; rw [← hB]
    rw [List.drop_left]
    simp
  have hC : ((L.take a ++ vs) ++ D).length = a + vs.length + D.length := by rw [List.length_append, hB]
  rw [h1, h2, List.take_append_of_le_length (by omega), List.take_of_length_le (by omega), List.append_assoc]
/-- first D, then vs ahead of it -/
theorem fill_in {α : Type} {L vs D : List α} {a : Nat} (hl : a + vs.length + D.length ≤ L.length) :
    (splice (splice L (a + vs.length) D) a vs).take (a + vs.length + D.length) = L.take a ++ (vs ++ D) := by
  have hT : (L.take (a + vs.length)).length = a + vs.length := by rw [List.length_take]; omega
  have h1 : splice L (a + vs.length) D = L.take (a + vs.length) ++ (D ++ L.drop (a + vs.length + D.length)) := rfl
  have h2 : (L.take (a + vs.length) ++ (D ++ L.drop (a + vs.length + D.length))).take a = L.take a := by
    rw [List.take_append_of_le_length (by omega), List.take_take]; congr 1; omega
  have h3 : (L.take (a + vs.length) ++ (D ++ L.drop (a + vs.length + D.length))).drop (a + vs.length) = D ++ L.drop (a + vs.length + D.length) := by
    conv => lhs; arg 1; rw [← hT]
    rw [List.drop_left]
  rw [h1]
  unfold splice
  rw [h2, h3]
  have hA : (L.take a).length = a := by rw [List.length_take]; omega
  have h4 : L.take a ++ (vs ++ (D ++ L.drop (a + vs.length + D.length))) = (L.take a ++ (vs ++ D)) ++ L.drop (a + vs.length + D.length) := by simp
  rw [h4, List.take_append_of_le_length (by simp only [List.length_append, hA]; omega), List.take_of_length_le (by simp only [List.length_append, hA]; omega)]
/-- what is laid behind the first N leaves them -/
theorem take_splice {α : Type} {L cs : List α} {N : Nat} (hl : N ≤ L.length) : (splice L N cs).take N = L.take N := by
  unfold splice
  rw [List.take_append_of_le_length (by rw [List.length_take]; omega), List.take_take, Nat.min_self]
theorem get_splice_behind {α : Type} {L cs : List α} {o k : Nat} (hl : o + cs.length ≤ L.length) (hk : o + cs.length ≤ k) : (splice L o cs)[k]? = L[k]? := by
  unfold splice
  have hT : (L.take o).length = o := by rw [List.length_take]; omega
  rw [List.getElem?_append_right (by omega), List.getElem?_append_right (by omega), List.getElem?_drop, hT]
  congr 1
  omega
end Go.Hp
namespace Go.Hp
open Go.RowKit Go.RG
variable {P : Program} {w : World}
theorem wpList_append_own2 {ops : Array Oper} {rest : List Oper} {o : Oper} {a : Act} {Q : Exit → Act → World → Prop} (hgd : o.guard = none) (s x : Operand) (t : TypeId)
    (ho : o.op = .call { callee := .builtin .append, args := #[s, x], argTypes := #[t, t] })
    (base : Nat) (e : TypeId) (i : TypeInfo) (z : Value) (size bytes : Nat) (ht : P.underlying t = some (.slice e)) (hi : P.info? e = some i) (hz : i.zero = some z)
    (hsize : i.size = size) (hby : i.bytes = bytes) (hzs : z.cells.size = size) (hsz : 0 < size)
    (g n cap : Nat) (xs : List Value) (hs : a.eval s = .slice (some ⟨g, 0, none⟩) n cap) (hown : w.ownsRow base e size (.slice (some ⟨g, 0, none⟩) n cap) n xs)
    (ad : Addr) (m c : Nat) (news : List Value) (hx : a.eval x = .slice (some ad) m c) (hl : news.length = m * size) (hnews : ∀ j u, news[j]? = some u → w.cell? (ad.add j) = some u) (h1 : ∀ u ∈ news, u.oneCell' = true)
    (h63 : n + m ≤ maxLen) (hbytes : (n + m) * bytes ≤ 140737488355328) (hbase : base ≤ w.heap.size)
    (h : ∀ v' w', w'.ownsRow base e size v' (n + m) (xs ++ news) → w.grownBy w' (some g) → (∀ k, v'.ownBlock = some k → k = g ∨ w.heap.size ≤ k) → wpList P ops Q rest (a.put o.dst v') w') : wpList P ops Q (o :: rest) a w := by
  obtain ⟨v', w', hr, q1, q2, -⟩ := run_append_own (P := P) w base t o.type e i z size bytes ht hi hz hsize hby hzs hsz _ n xs hown ad m c news hl hnews h1 h63 hbytes hbase
  refine wpList_value hgd (exec_append s x t t ho (by rw [hs, hx]; exact hr)) (h v' w' q1 q2 ?_)
  have hsmall : n + m ≤ 9223372036854775807 := by simp only [maxLen] at h63; omega
  subst hsize hby
  intro k hk
  obtain ⟨L, hL, hLl, hLt, hnc, hcm⟩ := owns_row hown
  by_cases hroom : n + m ≤ cap
  · have hr2 := run_append_room (P := P) w t o.type e i ht hi g n cap L.toArray hL ad m c news hl hnews h1 hroom (by rw [List.size_toArray, hl, hLl, ← Nat.add_mul]; exact Nat.mul_le_mul_right _ hroom)
    rw [hr2] at hr
    injection hr with hv _
    subst hv
    exact .inl (Option.some.inj hk).symm
  · have hr2 := run_append_grow (P := P) w t o.type e i z ht hi hz ⟨g, 0, none⟩ n cap xs hown.1 (hown.cells (g := g) rfl) ad m c news hl hnews (by omega) (by omega) (growslice_fits (by omega) hbytes)
    rw [hr2] at hr
    injection hr with hv _
    subst hv
    have hk : w.heap.size = k := Option.some.inj hk
    exact .inr (by omega)
end Go.Hp
