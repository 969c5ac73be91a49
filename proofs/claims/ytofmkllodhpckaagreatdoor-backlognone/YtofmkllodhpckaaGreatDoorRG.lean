/-
  A region whose order is drawn, walked once in the order of the text, where some of its operations make memory (rely and guarantee): every operation either yields one value in every world that has grown out of the region's first world, or makes a value that meets a predicate which growth keeps. Conditions: the program follows mixedOrders; the order's static checks.
-/
import Derived.StillTail
import Derived.Below
namespace Go.RG
open Go.RowKit

/-- what is known of a slot's value in a world -/
abbrev Spec := Value → World → Prop
abbrev Facts := Nat → Spec
def Facts.empty : Facts := fun _ _ _ => True
def Facts.set (Γ : Facts) (d : Option Tmp) (S : Spec) : Facts := fun t => if d = some t then S else Γ t
def Spec.any : Spec := fun _ _ => True
/-- growth keeps it -/
def Spec.stable (S : Spec) : Prop := ∀ v w w', S v w → Below w.heap.size w w' → S v w'
def Facts.stable (Γ : Facts) : Prop := ∀ t, Spec.stable (Γ t)
def Facts.ok (Γ : Facts) (a : Act) (w : World) : Prop := ∀ t, t < a.tmps.size → Γ t (a.tmps.getD t undef) w

theorem Spec.any_stable : Spec.stable Spec.any := fun _ _ _ _ _ => trivial
theorem Facts.empty_stable : Facts.stable Facts.empty := fun _ _ _ _ _ _ => trivial
theorem Facts.empty_ok (a : Act) (w : World) : Facts.empty.ok a w := fun _ _ => trivial
theorem Facts.set_stable {Γ : Facts} {d : Option Tmp} {S : Spec} (h : Γ.stable) (hS : Spec.stable S) : (Γ.set d S).stable := by
  intro t
  unfold Facts.set
  split
  · exact hS
  · exact h t
theorem Facts.ok_grow {Γ : Facts} {a : Act} {w w' : World} (h : Γ.ok a w) (hs : Γ.stable) (hb : Below w.heap.size w w') : Γ.ok a w' :=
  fun t ht => hs t _ _ _ (h t ht) hb
theorem Act.size_put (a : Act) (d : Option Tmp) (v : Value) : (a.put d v).tmps.size = a.tmps.size := by
  cases d <;> simp [Act.put]
theorem Act.getD_put_ne {a : Act} {d : Option Tmp} {v : Value} {t : Nat} (h : d ≠ some t) : (a.put d v).tmps.getD t undef = a.tmps.getD t undef := by
  cases d with
  | none => rfl
  | some d =>
    have : d ≠ t := fun e => h (by rw [e])
    simp [Act.put, Array.getElem?_setIfInBounds_ne this]
theorem Act.getD_put_eq {a : Act} {v : Value} {t : Nat} (h : t < a.tmps.size) : (a.put (some t) v).tmps.getD t undef = v := by
  simp [Act.put, h]
theorem Facts.ok_set {Γ : Facts} {a : Act} {w : World} {d : Option Tmp} {S : Spec} {v : Value} (h : Γ.ok a w) (hS : S v w) : (Γ.set d S).ok (a.put d v) w := by
  intro t ht
  rw [Act.size_put] at ht
  unfold Facts.set
  by_cases hd : d = some t
  · rw [if_pos hd]
    subst hd
    rw [Act.getD_put_eq ht]
    exact hS
  · rw [if_neg hd, Act.getD_put_ne hd]
    exact h t ht

section
variable (P : Program) (ops : Array Oper)

/-- what is known of the slots that an operation looks at -/
def facts (o : Oper) (Γ : Facts) (a : Act) (w : World) : Prop := ∀ t, t ∈ o.looksAt ops → t < a.tmps.size → Γ t (a.tmps.getD t undef) w

/-- what an operation comes to, where it makes a value -/
def makesUpon (R : Value → World → Prop) : Result Next → Prop
  | .ok (.value v) w' => R v w'
  | .ok .skip w' => R undef w'
  | .ok (.enter f args) w' => Calls P f args w' fun e w'' => ∃ v, e = .returned v ∧ R v w''
  | _ => False
def makes (o : Oper) (a : Act) (w : World) (R : Value → World → Prop) : Prop := makesUpon P R ((execOp a.eval o).run P w)

/-- one value, in every world grown out of 'base' -/
def YF (base : World) (Γ : Facts) (o : Oper) (a : Act) (v : Value) : Prop :=
  (Region.wanted o (yielded ops a.tmps) = true ∧ ∀ w, Below base.heap.size base w → facts ops o Γ a w → (execOp a.eval o).run P w = .ok (.value v) w) ∨
  (Region.wanted o (yielded ops a.tmps) = false ∧ v = undef)
/-- a value that meets S -/
def YM (base : World) (Γ : Facts) (o : Oper) (a : Act) (S : Spec) : Prop :=
  Region.wanted o (yielded ops a.tmps) = true ∧ Spec.stable S ∧
  ∀ w, Below base.heap.size base w → facts ops o Γ a w → makes P o a w fun v w' => Below w.heap.size w w' ∧ S v w'

variable (base : World) (sp : Nat → Option Spec)

def sStep (i : Nat) (o : Oper) (K : Facts → Act → World → Prop) (Γ : Facts) (a : Act) (w : World) : Prop :=
  ((sp i = none ∨ Region.wanted o (yielded ops a.tmps) = false) ∧ ∃ v, YF P ops base Γ o a v ∧ K (Γ.set o.dst Spec.any) (a.put o.dst v) w) ∨
  (∃ S, sp i = some S ∧ YM P ops base Γ o a S ∧ ∀ v w', Below w.heap.size w w' → S v w' → K (Γ.set o.dst S) (a.put o.dst v) w')

/-- whatever order is picked from here on, among the first n operations -/
def rgAny (md : Region.Mode) (n : Nat) (L : Array Bool → Act → World → Prop) : Nat → Array Bool → Facts → Act → World → Prop
  | 0, listed, _, a, w => L listed a w
  | f + 1, listed, Γ, a, w =>
    Region.ready md ops listed ≠ [] ∧ ∀ i ∈ Region.ready md ops listed, i < n ∧ ∃ o, ops[i]? = some o ∧
      sStep P ops base sp i o (rgAny md n L f (listed.setIfInBounds i true)) Γ a w

/-- the walk in the order of the text; k: the number of the first operation -/
def rgLex (Q : Act → World → Prop) : List Oper → Nat → Facts → Act → World → Prop
  | [], _, _, a, w => Q a w
  | o :: rest, k, Γ, a, w => sStep P ops base sp k o (rgLex Q rest (k + 1)) Γ a w
end

section
variable {P : Program} {ops : Array Oper} {base : World} {sp : Nat → Option Spec} {md : Region.Mode}

theorem below_trans {a b c : World} (h : Below a.heap.size a b) (k : Below b.heap.size b c) : Below a.heap.size a c := h.trans (k.mono h.size)

theorem sStep_mono {i : Nat} {o : Oper} {K K' : Facts → Act → World → Prop} {Γ : Facts} {a : Act} {w : World} (h : ∀ Γ a w, K Γ a w → K' Γ a w)
    (hh : sStep P ops base sp i o K Γ a w) : sStep P ops base sp i o K' Γ a w := by
  rcases hh with ⟨h0, v, h1, h2⟩ | ⟨S, h0, h1, h2⟩
  · exact .inl ⟨h0, v, h1, h _ _ _ h2⟩
  · exact .inr ⟨S, h0, h1, fun v w' hb hS => h _ _ _ (h2 v w' hb hS)⟩

theorem wp_of_makes {o : Oper} {a : Act} {w : World} {R : Value → World → Prop} {K : Act → World → Prop} {Q : Exit → Act → World → Prop}
    (h : makes P o a w R) (hK : ∀ v w', R v w' → K (a.put o.dst v) w') : o.wp P a w K Q := by
  unfold makes at h
  unfold Oper.wp
  generalize (execOp a.eval o).run P w = r at *
  cases r with
  | ok n w' =>
    cases n <;> simp only [makesUpon] at h <;> simp only [Oper.upon]
    case value v => exact hK _ _ h
    case skip => exact hK _ _ h
    case enter f args => exact h.mono fun e w'' ⟨v, he, hv⟩ => by subst he; exact hK _ _ hv
  | halt x w' => simp only [makesUpon] at h

theorem makes_exists {o : Oper} {a : Act} {w : World} {R : Value → World → Prop} (h : makes P o a w R) : ∃ v w', R v w' := by
  unfold makes at h
  generalize (execOp a.eval o).run P w = r at *
  cases r with
  | ok n w' =>
    cases n <;> simp only [makesUpon] at h
    case value v => exact ⟨_, _, h⟩
    case skip => exact ⟨_, _, h⟩
    case enter f args =>
      obtain ⟨e, w'', fr, ⟨v, _, hv⟩, _⟩ := h []
      exact ⟨v, w'', hv⟩
  | halt x w' => simp only [makesUpon] at h

theorem makes_congr {o : Oper} {a a' : Act} {w : World} {R : Value → World → Prop} (he : execOp a'.eval o = execOp a.eval o) (h : makes P o a w R) : makes P o a' w R := by
  unfold makes at *
  rw [he]
  exact h

/-- it is a wpAny -/
theorem wpAny_of_rg {n g : Nat} {L : Array Bool → Act → World → Prop} {Q : Exit → Act → World → Prop}
    (hL : ∀ listed a w, L listed a w → wpAny P md ops Q g listed a w) :
    ∀ (f : Nat) (listed : Array Bool) (Γ : Facts) (a : Act) (w : World), Below base.heap.size base w → Γ.ok a w → Γ.stable →
      rgAny P ops base sp md n L f listed Γ a w → wpAny P md ops Q (f + g) listed a w
  | 0, listed, Γ, a, w, _, _, _, h => by rw [Nat.zero_add]; exact hL _ _ _ h
  | f + 1, listed, Γ, a, w, hC, hok, hst, h => by
    rw [show f + 1 + g = (f + g) + 1 by omega]
    refine ⟨fun h0 => absurd h0 h.1, fun i hi => ?_⟩
    obtain ⟨_, o, ho, hs⟩ := h.2 i hi
    have hfacts : facts ops o Γ a w := fun t _ ht => hok t ht
    unfold wpOp
    simp only [ho]
    rcases hs with ⟨_, v, hy, hK⟩ | ⟨S, _, ⟨hw, hSs, hm⟩, hK⟩
    · have hgo := wpAny_of_rg hL f _ _ _ _ hC (Facts.ok_set (S := Spec.any) hok trivial) (Facts.set_stable hst Spec.any_stable) hK
      rcases hy with ⟨hw, hr⟩ | ⟨hw, rfl⟩
      · rw [if_pos hw]
        refine .inl ?_
        unfold Oper.wp
        rw [hr w hC hfacts]
        exact hgo
      · rw [if_neg (by simp [hw])]
        exact hgo
    · rw [if_pos hw]
      refine .inl (wp_of_makes (hm w hC hfacts) fun v w' ⟨hb, hS⟩ => ?_)
      exact wpAny_of_rg hL f _ _ _ _ (below_trans hC hb) (Facts.ok_set (Facts.ok_grow hok hst hb) hS) (Facts.set_stable hst hSs) (hK v w' hb hS)

theorem facts_put {oi oj : Oper} {Γ : Facts} {S : Spec} {a : Act} {v : Value} {w : World} (h : ∀ d, oi.dst = some d → d ∉ oj.looksAt ops) :
    facts ops oj (Γ.set oi.dst S) (a.put oi.dst v) w ↔ facts ops oj Γ a w := by
  unfold facts
  constructor
  · intro hf t ht hlt
    have hne : oi.dst ≠ some t := fun e => h t e ht
    have := hf t ht (by rw [Act.size_put]; exact hlt)
    rwa [Act.getD_put_ne hne, Facts.set, if_neg hne] at this
  · intro hf t ht hlt
    have hne : oi.dst ≠ some t := fun e => h t e ht
    rw [Act.size_put] at hlt
    have := hf t ht hlt
    rwa [Act.getD_put_ne hne, Facts.set, if_neg hne]

theorem YF_put {oi oj : Oper} {Γ : Facts} {S : Spec} {a : Act} {v u : Value} (hsj : ∀ cs b, oj.op ≠ .select cs b) (h : ∀ d, oi.dst = some d → d ∉ oj.looksAt ops) :
    YF P ops base (Γ.set oi.dst S) oj (a.put oi.dst v) u ↔ YF P ops base Γ oj a u := by
  unfold YF
  rw [wanted_put oj a oi.dst v h, execOp_put oj hsj a oi.dst v h]
  simp only [facts_put h]

theorem YM_put {oi oj : Oper} {Γ : Facts} {S T : Spec} {a : Act} {v : Value} (hsj : ∀ cs b, oj.op ≠ .select cs b) (h : ∀ d, oi.dst = some d → d ∉ oj.looksAt ops) :
    YM P ops base (Γ.set oi.dst S) oj (a.put oi.dst v) T ↔ YM P ops base Γ oj a T := by
  unfold YM makes
  rw [wanted_put oj a oi.dst v h, execOp_put oj hsj a oi.dst v h]
  simp only [facts_put h]

theorem Facts.set_comm {Γ : Facts} {d e : Option Tmp} {S T : Spec} (h : ∀ x, d = some x → e ≠ some x) : (Γ.set d S).set e T = (Γ.set e T).set d S := by
  funext t
  unfold Facts.set
  by_cases h1 : e = some t
  · have h2 : d ≠ some t := fun hd => h t hd h1
    rw [if_pos h1, if_neg h2, if_pos h1]
  · rw [if_neg h1, if_neg h1]

theorem YF_unique {o : Oper} {Γ Γ' : Facts} {a : Act} {v u : Value} {w : World} (hC : Below base.heap.size base w) (hf : facts ops o Γ a w) (hf' : facts ops o Γ' a w)
    (h : YF P ops base Γ o a v) (h' : YF P ops base Γ' o a u) : v = u := by
  rcases h with ⟨hw, h⟩ | ⟨hw, rfl⟩ <;> rcases h' with ⟨hw', h'⟩ | ⟨hw', rfl⟩
  · have e := (h w hC hf).symm.trans (h' w hC hf')
    injection e with e1 _
    injection e1
  · rw [hw] at hw'; cases hw'
  · rw [hw] at hw'; cases hw'
  · rfl

/-- an operation that may come up now may be taken first -/
theorem rg_first {n i : Nat} {oi : Oper} {L : Array Bool → Act → World → Prop} (hi : ops[i]? = some oi)
    (hsel : ∀ (j : Nat) (o : Oper) cs b, ops[j]? = some o → o.op ≠ .select cs b)
    (Inv : Array Bool → Prop) (hInv : ∀ listed j, Inv listed → j ∈ Region.ready md ops listed → j < n → Inv (listed.setIfInBounds j true))
    (hhead : ∀ listed, Inv listed → listed.getD i true = false → ∀ j ∈ Region.ready md ops listed, j < n)
    (hdone : ∀ listed a w, L listed a w → ∀ j ∈ Region.ready md ops listed, n ≤ j) :
    ∀ (f : Nat) (listed : Array Bool) (Γ : Facts) (a : Act) (w : World), Inv listed →
      (∀ j oj, ops[j]? = some oj → j ≠ i → listed.getD j true = false → (∀ e ∈ oj.after, Region.binds md e = true → e.on ≠ i) → oi.apart ops oj = true) →
      i ∈ Region.ready md ops listed → Below base.heap.size base w → Γ.ok a w → Γ.stable →
      sStep P ops base sp i oi (rgAny P ops base sp md n L f (listed.setIfInBounds i true)) Γ a w → rgAny P ops base sp md n L (f + 1) listed Γ a w := by
  intro f
  induction f with
  | zero =>
    intro listed Γ a w inv _ hr hC hok hst H
    have hun := (mem_ready.1 hr).1
    refine ⟨fun h => (by rw [h] at hr; cases hr), fun j hj => ?_⟩
    have hjn : j < n := hhead listed inv hun j hj
    refine ⟨hjn, ?_⟩
    by_cases hji : j = i
    · subst hji; exact ⟨oi, hi, H⟩
    · exfalso
      have hex : ∃ a w, L (listed.setIfInBounds i true) a w := by
        rcases H with ⟨_, v, _, hK⟩ | ⟨S, _, ⟨_, _, hm⟩, hK⟩
        · exact ⟨_, _, hK⟩
        · obtain ⟨v, w', hb, hS⟩ := makes_exists (hm w hC (fun t _ ht => hok t ht))
          exact ⟨_, _, hK v w' hb hS⟩
      obtain ⟨a', w', hL⟩ := hex
      have := hdone _ _ _ hL j (ready_mono hj hji)
      omega
  | succ f ih =>
    intro listed Γ a w inv hfree hr hC hok hst H
    have hun := (mem_ready.1 hr).1
    refine ⟨fun h => (by rw [h] at hr; cases hr), fun j hj => ?_⟩
    have hjn : j < n := hhead listed inv hun j hj
    refine ⟨hjn, ?_⟩
    by_cases hji : j = i
    · subst hji; exact ⟨oi, hi, H⟩
    obtain ⟨hjun, oj, hoj, hall⟩ := mem_ready.1 hj
    refine ⟨oj, hoj, ?_⟩
    have hnot : ∀ e ∈ oj.after, Region.binds md e = true → e.on ≠ i := fun e he hb heq => by
      have h1 := hall e he hb
      rw [heq, getD_both hun] at h1
      cases h1
    obtain ⟨ap1, ap2, ap3⟩ := Oper.apart_spec (hfree j oj hoj hji hjun hnot)
    have hsi := fun cs b => hsel i oi cs b hi
    have hsj := fun cs b => hsel j oj cs b hoj
    have hfree' : ∀ k ok, ops[k]? = some ok → k ≠ i → (listed.setIfInBounds j true).getD k true = false →
        (∀ e ∈ ok.after, Region.binds md e = true → e.on ≠ i) → oi.apart ops ok = true := fun k ok hk hki hun hno => by
      refine hfree k ok hk hki ?_ hno
      by_cases hjk : j = k
      · subst hjk; exact hjun
      · rw [getD_set_ne true hjk] at hun; exact hun
    have IH := fun Γ' a' w' => ih (listed.setIfInBounds j true) Γ' a' w' (hInv _ _ inv hj hjn) hfree' (ready_mono hr (Ne.symm hji))
    have hjr := ready_mono hj hji
    have hcomm : (listed.setIfInBounds j true).setIfInBounds i true = (listed.setIfInBounds i true).setIfInBounds j true := Array.setIfInBounds_comm _ _ hji
    -- what i's step leaves
    rcases H with ⟨hspi, v, hy, hK⟩ | ⟨S, hspi, hy, hK⟩
    · obtain ⟨oj', hoj', hj1⟩ := (hK.2 j hjr).2
      obtain rfl : oj' = oj := Option.some.inj (hoj'.symm.trans hoj)
      rcases hj1 with ⟨hspj, u, hyj, hKj⟩ | ⟨T, hspj, hyj, hKj⟩
      · refine .inl ⟨by rw [wanted_put oj' a oi.dst v ap1] at hspj; exact hspj, u, (YF_put hsj ap1).1 hyj, ?_⟩
        refine IH _ _ _ hC (Facts.ok_set (S := Spec.any) hok trivial) (Facts.set_stable hst Spec.any_stable) (.inl ⟨?_, v, ?_, ?_⟩)
        · rw [wanted_put oi a oj'.dst u ap3]; exact hspi
        · exact (YF_put hsi ap3).2 hy
        · rw [hcomm, ← Act.put_comm a v u ap2, ← Facts.set_comm ap2]; exact hKj
      · refine .inr ⟨T, hspj, (YM_put hsj ap1).1 hyj, fun u w' hb hT => ?_⟩
        refine IH _ _ _ (below_trans hC hb) (Facts.ok_set (Facts.ok_grow hok hst hb) hT) (Facts.set_stable hst hyj.2.1) (.inl ⟨?_, v, ?_, ?_⟩)
        · rw [wanted_put oi a oj'.dst u ap3]; exact hspi
        · exact (YF_put hsi ap3).2 hy
        · rw [hcomm, ← Act.put_comm a v u ap2, ← Facts.set_comm ap2]; exact hKj u w' hb hT
    · obtain ⟨vs, ws, hbs, hSs⟩ := makes_exists (hy.2.2 w hC (fun t _ ht => hok t ht))
      obtain ⟨oj', hoj', hj1⟩ := ((hK vs ws hbs hSs).2 j hjr).2
      obtain rfl : oj' = oj := Option.some.inj (hoj'.symm.trans hoj)
      rcases hj1 with ⟨hspj, u, hyj, hKj⟩ | ⟨T, hspj, hyj, hKj⟩
      · have hyj' := (YF_put hsj ap1).1 hyj
        have hspj' : sp j = none ∨ Region.wanted oj' (yielded ops a.tmps) = false := by rw [wanted_put oj' a oi.dst vs ap1] at hspj; exact hspj
        refine .inl ⟨hspj', u, hyj', ?_⟩
        refine IH _ _ _ hC (Facts.ok_set (S := Spec.any) hok trivial) (Facts.set_stable hst Spec.any_stable) (.inr ⟨S, hspi, (YM_put hsi ap3).2 hy, fun v w' hb hS => ?_⟩)
        rw [hcomm, ← Act.put_comm a v u ap2, ← Facts.set_comm ap2]
        obtain ⟨oj'', hoj'', hj2⟩ := ((hK v w' hb hS).2 j hjr).2
        obtain rfl : oj'' = oj' := Option.some.inj (hoj''.symm.trans hoj)
        rcases hj2 with ⟨_, u', hyj2, hKj2⟩ | ⟨T, hspT, hyj2, _⟩
        · have hyj2' := (YF_put hsj ap1).1 hyj2
          obtain rfl : u = u' := YF_unique hC (fun t _ ht => hok t ht) (fun t _ ht => hok t ht) hyj' hyj2'
          exact hKj2
        · exfalso
          have hw2 := ((YM_put (S := S) (v := v) hsj ap1).1 hyj2).1
          rcases hspj' with h | h
          · rw [h] at hspT; cases hspT
          · rw [h] at hw2; cases hw2
      · have hyj' := (YM_put hsj ap1).1 hyj
        refine .inr ⟨T, hspj, hyj', fun u w' hb hT => ?_⟩
        refine IH _ _ _ (below_trans hC hb) (Facts.ok_set (Facts.ok_grow hok hst hb) hT) (Facts.set_stable hst hyj'.2.1) (.inr ⟨S, hspi, (YM_put hsi ap3).2 hy, fun v w'' hb2 hS => ?_⟩)
        rw [hcomm, ← Act.put_comm a v u ap2, ← Facts.set_comm ap2]
        have hbb : Below w.heap.size w w'' := below_trans hb hb2
        obtain ⟨oj'', hoj'', hj2⟩ := ((hK v w'' hbb hS).2 j hjr).2
        obtain rfl : oj'' = oj' := Option.some.inj (hoj''.symm.trans hoj)
        rcases hj2 with ⟨hsp2, _, _, _⟩ | ⟨T', hspT, hyj2, hKj2⟩
        · exfalso
          rw [wanted_put oj'' a oi.dst v ap1] at hsp2
          have hw2 := hyj'.1
          rcases hsp2 with h | h
          · rw [h] at hspj; cases hspj
          · rw [h] at hw2; cases hw2
        · obtain rfl : T' = T := Option.some.inj (hspT.symm.trans hspj)
          exact hKj2 u w'' (Below.refl _ _) (hyj'.2.1 _ _ _ hT hb2)

/-- the order of the text serves every order: the first n operations -/
theorem rg_lex {n g : Nat} {Lq : Act → World → Prop} (hsel : Region.noSelect ops = true) (L : Array Bool → Act → World → Prop)
    (Inv : Array Bool → Prop) (hInv : ∀ listed j, Inv listed → j ∈ Region.ready md ops listed → j < n → Inv (listed.setIfInBounds j true))
    (hhead : ∀ i, i < n → ∀ listed, Inv listed → listed.getD i true = false → ∀ j ∈ Region.ready md ops listed, j < n)
    (hdone : ∀ listed a w, L listed a w → ∀ j ∈ Region.ready md ops listed, n ≤ j)
    (hend : ∀ listed a w, Region.seqB md ops g n listed = true → Lq a w → L listed a w) :
    ∀ (l : List Oper) (k : Nat) (listed : Array Bool) (Γ : Facts) (a : Act) (w : World), (∀ j, j < l.length → l[j]? = ops[k + j]?) → k + l.length = n → Inv listed →
    Region.lexHead md ops g l.length k listed = true → Below base.heap.size base w → Γ.ok a w → Γ.stable → rgLex P ops base sp Lq l k Γ a w →
    rgAny P ops base sp md n L l.length listed Γ a w
  | [], k, listed, Γ, a, w, _, hk, _, hB, _, _, _, h => by
    have : k = n := by simpa using hk
    subst this
    exact hend _ _ _ (by simpa [Region.lexHead] using hB) h
  | o :: l, k, listed, Γ, a, w, hl, hk, inv, hB, hC, hok, hst, h => by
    have h0 : ops[k]? = some o := by simpa using (hl 0 (by simp)).symm
    simp only [List.length_cons, Region.lexHead, Bool.and_eq_true] at hB
    obtain ⟨⟨hr, hf⟩, hB'⟩ := hB
    have hkn : k < n := by simp only [List.length_cons] at hk; omega
    have hr' : k ∈ Region.ready md ops listed := by simpa using hr
    have hgo := fun Γ' a' w' => rg_lex hsel L Inv hInv hhead hdone hend l (k + 1) (listed.setIfInBounds k true) Γ' a' w' (fun j hj => by have := hl (j + 1) (by simp; omega); simpa [Nat.add_assoc, Nat.add_comm 1 j] using this)
      (by simp only [List.length_cons] at hk; omega) (hInv _ _ inv hr' hkn) hB'
    refine rg_first h0 (Region.noSelect_spec hsel) Inv hInv (hhead k hkn) hdone l.length listed Γ a w inv (Region.free_spec h0 hf) hr' hC hok hst ?_
    have h' : sStep P ops base sp k o (rgLex P ops base sp Lq l (k + 1)) Γ a w := h
    rcases h' with ⟨h1, v, h2, h3⟩ | ⟨S, h1, h2, h3⟩
    · exact .inl ⟨h1, v, h2, hgo _ _ _ hC (Facts.ok_set (S := Spec.any) hok trivial) (Facts.set_stable hst Spec.any_stable) h3⟩
    · exact .inr ⟨S, h1, h2, fun v w' hb hS => hgo _ _ _ (below_trans hC hb) (Facts.ok_set (Facts.ok_grow hok hst hb) hS) (Facts.set_stable hst h2.2.1) (h3 v w' hb hS)⟩
end

section
variable {P : Program} {sp : Nat → Option Spec} {id : Nat} {Q : Exit → Act → World → Prop} {a : Act} {w : World} {l : List Oper}

/-- **A region that draws, the first n operations in any order, those behind them in the order that is forced.** -/
theorem wp_region_rg_tail (n : Nat) (sp : Nat → Option Spec) (hm : P.follows .mixedOrders = true) (hB : Region.lexTailB .any l.toArray n = true)
    (h : ∀ b, Below w.heap.size w b → b.heap = w.heap → rgLex P l.toArray b sp (fun a' w' => wpList P l.toArray Q (l.drop n) a' w') (l.take n) 0 Facts.empty a b) :
    (Code.region id l.toArray true).wp P Q a w := by
  simp only [Region.lexTailB, Bool.and_eq_true, decide_eq_true_eq] at hB
  obtain ⟨⟨⟨⟨hsel, hn⟩, hs⟩, hc⟩, hlex⟩ := hB
  have htl : (l.take n).length = n := by simp at hn; simp; omega
  have hdl : (l.drop n).length = l.toArray.size - n := by simp
  have inv0 : HeadInv .any l.toArray n (Array.replicate l.toArray.size false) :=
    ⟨by simp, fun j oj _ hl => (by rw [getD_replicate_false] at hl; cases hl), fun t _ ht => getD_in (by simpa using ht) (getD_replicate_false _ _)⟩
  have H := rg_lex (md := .any) (g := l.toArray.size - n) (Lq := fun a' w' => wpList P l.toArray Q (l.drop n) a' w') hsel
    (fun listed' a' w' => Region.seqB .any l.toArray (l.toArray.size - n) n listed' = true ∧ wpList P l.toArray Q (l.drop n) a' w')
    (HeadInv .any l.toArray n) (fun listed j inv hj hjn => inv.set hj hjn) (fun i hin listed inv hun j hj => by
      rcases Nat.lt_or_ge j n with h | h
      · exact h
      · exact absurd hj (tail_waits hs hc hn inv _ i rfl hin hun j h))
    (fun listed a w hL => seqB_ready hL.1) (fun _ _ _ h1 h2 => ⟨h1, h2⟩)
    (l.take n) 0 _ Facts.empty a { w with drawn := w.drawn + 1 } (fun j hj => by
      have hj' : j < n := by rw [htl] at hj; exact hj
      simp [hj']) (by simpa using htl) inv0 (by rw [htl]; exact hlex) (Below.refl _ _) (Facts.empty_ok _ _) Facts.empty_stable
    (h { w with drawn := w.drawn + 1 } ((Below.refl _ _).drew) rfl)
  refine wp_region_any hm ?_
  have := wpAny_of_rg (Q := Q) (g := l.toArray.size - n) (fun listed a' w' hL => by
    have := wpAny_of_seq (md := .any) (Q' := Q) (l.drop n) n listed a' w' (fun j => by simp [List.getElem?_drop]) (by rw [hdl]; exact hL.1) hL.2
    rwa [hdl] at this) _ _ _ _ _ (Below.refl _ _) (Facts.empty_ok _ _) Facts.empty_stable H
  rw [htl, show n + (l.toArray.size - n) = l.toArray.size by simp at hn; simp; omega] at this
  exact this

/-- the static check for a region without a tail -/
def lexAllB (ops : Array Oper) : Bool := Region.noSelect ops && Region.lexHead .any ops 0 ops.size 0 (Array.replicate ops.size false)

/-- **A region that draws, all its operations in any order.** -/
theorem wp_region_rg (sp : Nat → Option Spec) (hm : P.follows .mixedOrders = true) (hB : lexAllB l.toArray = true)
    (h : ∀ b, Below w.heap.size w b → b.heap = w.heap → rgLex P l.toArray b sp (fun a' w' => Q .normal a' w') l 0 Facts.empty a b) :
    (Code.region id l.toArray true).wp P Q a w := by
  simp only [lexAllB, Bool.and_eq_true] at hB
  obtain ⟨hsel, hlex⟩ := hB
  have hsz : l.toArray.size = l.length := by simp
  have H := rg_lex (md := .any) (n := l.length) (g := 0) (Lq := fun a' w' => Q .normal a' w') hsel
    (fun listed' a' w' => Region.ready .any l.toArray listed' = [] ∧ Q .normal a' w')
    (fun _ => True) (fun _ _ _ _ _ => trivial) (fun i _ listed _ _ j hj => by
      obtain ⟨_, o, ho, _⟩ := mem_ready.1 hj
      have := (Array.getElem?_eq_some_iff.1 ho).1
      simpa using this)
    (fun listed a w hL j hj => by rw [hL.1] at hj; cases hj) (fun listed a' w' h1 h2 => ⟨by simpa [Region.seqB] using h1, h2⟩)
    l 0 _ Facts.empty a { w with drawn := w.drawn + 1 } (fun j _ => by simp) (by simp) trivial (by rw [← hsz]; exact hlex) (Below.refl _ _) (Facts.empty_ok _ _) Facts.empty_stable
    (h { w with drawn := w.drawn + 1 } ((Below.refl _ _).drew) rfl)
  refine wp_region_any hm ?_
  have := wpAny_of_rg (Q := Q) (g := 0) (fun listed a' w' hL => ⟨hL.1, hL.2⟩) _ _ _ _ _ (Below.refl _ _) (Facts.empty_ok _ _) Facts.empty_stable H
  rw [hsz]
  simpa using this

/-! ### The steps of the walk -/
variable {ops : Array Oper} {b : World} {q : Act → World → Prop} {o : Oper} {rest : List Oper} {k : Nat} {Γ : Facts}

theorem lex_nil (h : q a w) : rgLex P ops b sp q [] k Γ a w := h
/-- one value in every world that has grown out of b -/
theorem lex_float (v : Value) (hs : sp k = none) (hw : Region.wanted o (yielded ops a.tmps) = true)
    (h : ∀ w1, Below b.heap.size b w1 → facts ops o Γ a w1 → (execOp a.eval o).run P w1 = .ok (.value v) w1)
    (hn : rgLex P ops b sp q rest (k + 1) (Γ.set o.dst Spec.any) (a.put o.dst v) w) : rgLex P ops b sp q (o :: rest) k Γ a w :=
  .inl ⟨.inl hs, v, .inl ⟨hw, h⟩, hn⟩
theorem lex_move (x : Operand) (ho : o.op = .move x ∨ o.op = .assign x) (hs : sp k = none) (hw : Region.wanted o (yielded ops a.tmps) = true)
    (hn : rgLex P ops b sp q rest (k + 1) (Γ.set o.dst Spec.any) (a.put o.dst (a.eval x)) w) : rgLex P ops b sp q (o :: rest) k Γ a w :=
  lex_float (a.eval x) hs hw (fun w1 _ _ => by rcases ho with h | h <;> simp [execOp, h]) hn
theorem lex_skip (hw : Region.wanted o (yielded ops a.tmps) = false)
    (hn : rgLex P ops b sp q rest (k + 1) (Γ.set o.dst Spec.any) (a.put o.dst undef) w) : rgLex P ops b sp q (o :: rest) k Γ a w :=
  .inl ⟨.inr hw, undef, .inr ⟨hw, rfl⟩, hn⟩
theorem lex_make (S : Spec) (hs : sp k = some S) (hst : Spec.stable S) (hw : Region.wanted o (yielded ops a.tmps) = true)
    (h : ∀ w1, Below b.heap.size b w1 → facts ops o Γ a w1 → makes P o a w1 fun v w' => Below w1.heap.size w1 w' ∧ S v w')
    (hn : ∀ v w', Below w.heap.size w w' → S v w' → rgLex P ops b sp q rest (k + 1) (Γ.set o.dst S) (a.put o.dst v) w') : rgLex P ops b sp q (o :: rest) k Γ a w :=
  .inr ⟨S, hs, ⟨hw, hst, h⟩, hn⟩
end
end Go.RG
