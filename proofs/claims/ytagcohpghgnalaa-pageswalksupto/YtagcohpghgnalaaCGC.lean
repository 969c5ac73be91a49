/-
  A region whose order is drawn, where ahead of its forced tail one operation (the last but the tail) changes memory that was there, while some operations whose value that change leaves alone may still come behind it. Conditions: the program follows mixedOrders; the order's static checks.
-/
import Derived.Test.YtagcohpghgnalaaCGA
set_option linter.unusedSimpArgs false
set_option linter.unusedVariables false
namespace Go.RG
open Go.RowKit

inductive Kind where
  | small
  | make (S : Spec)
  | big
  | late (R : Spec)

section
variable (P : Program) (ops : Array Oper) (base : World) (CB : World → Prop) (kd : Nat → Kind)

/-- one value, in every world of CB -/
def YB (o : Oper) (a : Act) (v : Value) : Prop :=
  (Region.wanted o (yielded ops a.tmps) = true ∧ ∀ w, CB w → (execOp a.eval o).run P w = .ok (.value v) w) ∨
  (Region.wanted o (yielded ops a.tmps) = false ∧ v = undef)

def tStep (i : Nat) (o : Oper) (K : Facts → Act → World → Prop) (Γ : Facts) (a : Act) (w : World) : Prop :=
  match kd i with
  | .small => ∃ v, YF P ops base Γ o a v ∧ K (Γ.set o.dst Spec.any) (a.put o.dst v) w
  | .make S => YM P ops base Γ o a S ∧ ∀ v w', Below w.heap.size w w' → S v w' → K (Γ.set o.dst S) (a.put o.dst v) w'
  | .big => ∃ v, YB P ops CB o a v ∧ K (Γ.set o.dst Spec.any) (a.put o.dst v) w
  | .late R => Region.wanted o (yielded ops a.tmps) = true ∧ makes P o a w (fun v w' => CB w' ∧ R v w') ∧ ∀ v w', CB w' → R v w' → K Γ (a.put o.dst v) w'

def rlAny (md : Region.Mode) (n : Nat) (L : Array Bool → Act → World → Prop) : Nat → Array Bool → Facts → Act → World → Prop
  | 0, listed, _, a, w => L listed a w
  | f + 1, listed, Γ, a, w =>
    Region.ready md ops listed ≠ [] ∧ ∀ i ∈ Region.ready md ops listed, i < n ∧ ∃ o, ops[i]? = some o ∧
      tStep P ops base CB kd i o (rlAny md n L f (listed.setIfInBounds i true)) Γ a w

def rlLex (Q : Act → World → Prop) : List Oper → Nat → Facts → Act → World → Prop
  | [], _, _, a, w => Q a w
  | o :: rest, k, Γ, a, w => tStep P ops base CB kd k o (rlLex Q rest (k + 1)) Γ a w

/-- l comes behind i, over so many steps -/
def behind (md : Region.Mode) (l : Nat) : Nat → Nat → Bool
  | 0, _ => false
  | d + 1, i => (List.range ops.size).any fun k => Region.waitsFor md ops k i && (k == l || behind md l d k)
end

section
variable {P : Program} {ops : Array Oper} {base : World} {CB : World → Prop} {kd : Nat → Kind} {md : Region.Mode} {l n : Nat}

theorem behind_spec {listed : Array Bool} (inv : HeadInv md ops n listed) : ∀ (d i : Nat), behind ops md l d i = true → listed.getD i false = false → listed.getD l false = false ∧ l ∉ Region.ready md ops listed
  | 0, _, h, _ => by cases h
  | d + 1, i, h, hun => by
    unfold behind at h
    obtain ⟨k, _, hk⟩ := List.any_eq_true.1 h
    simp only [Bool.and_eq_true, Bool.or_eq_true, beq_iff_eq] at hk
    obtain ⟨ok, hok, e, he, hb, hon⟩ := Region.waitsFor_spec hk.1
    have hku : listed.getD k false = false := by
      cases hl : listed.getD k false
      · rfl
      · have := inv.closed k ok hok hl e he hb
        rw [hon, hun] at this
        cases this
    rcases hk.2 with rfl | h2
    · refine ⟨hku, fun hr => ?_⟩
      obtain ⟨_, o', ho', hall⟩ := mem_ready.1 hr
      have : o' = ok := Option.some.inj (ho'.symm.trans hok)
      subst this
      have h3 := hall e he hb
      rw [hon, hun] at h3
      cases h3
    · exact behind_spec inv d k h2 hku

/-- is it free of the late one's change? -/
def Kind.isBig : Kind → Bool
  | .big => true
  | _ => false

structure Sides (md : Region.Mode) (ops : Array Oper) (kd : Nat → Kind) (l n : Nat) : Prop where
  sel : ∀ (j : Nat) (o : Oper) cs b, ops[j]? = some o → o.op ≠ .select cs b
  head : ∀ i, i < n → ∀ listed, HeadInv md ops n listed → listed.getD i true = false → ∀ j ∈ Region.ready md ops listed, j < n
  ahead : ∀ i, i < n → i ≠ l → (kd i).isBig = true ∨ behind ops md l ops.size i = true
  late : ∃ R, kd l = .late R
  others : ∀ i, i < n → i ≠ l → ∀ R, kd i ≠ .late R

/-- what holds of a world between two steps -/
structure At (P : Program) (base : World) (CB : World → Prop) (l : Nat) (listed : Array Bool) (Γ : Facts) (a : Act) (w : World) : Prop where
  big : CB w
  one : listed.getD l false = false → Below base.heap.size base w ∧ Γ.ok a w ∧ Γ.stable

theorem tStep_mono {i : Nat} {o : Oper} {K K' : Facts → Act → World → Prop} {Γ : Facts} {a : Act} {w : World} (h : ∀ Γ a w, K Γ a w → K' Γ a w)
    (hh : tStep P ops base CB kd i o K Γ a w) : tStep P ops base CB kd i o K' Γ a w := by
  unfold tStep at *
  split at hh
  · obtain ⟨v, h1, h2⟩ := hh; exact ⟨v, h1, h _ _ _ h2⟩
  · exact ⟨hh.1, fun v w' hb hS => h _ _ _ (hh.2 v w' hb hS)⟩
  · obtain ⟨v, h1, h2⟩ := hh; exact ⟨v, h1, h _ _ _ h2⟩
  · exact ⟨hh.1, hh.2.1, fun v w' hb hS => h _ _ _ (hh.2.2 v w' hb hS)⟩

theorem getD_set_other {listed : Array Bool} {i j : Nat} (h : i ≠ j) : (listed.setIfInBounds i true).getD j false = listed.getD j false := getD_set_ne false h
theorem un_of {listed : Array Bool} {i : Nat} (h : listed.getD i true = false) : listed.getD i false = false := getD_both h

/-- a step of each kind leaves such a world -/
theorem At.small {listed : Array Bool} {Γ : Facts} {a : Act} {w : World} {i : Nat} {d : Option Tmp} {v : Value} (h : At P base CB l listed Γ a w) (hi : i ≠ l) : At P base CB l (listed.setIfInBounds i true) (Γ.set d Spec.any) (a.put d v) w :=
  ⟨h.big, fun hl => by
    rw [getD_set_other hi] at hl
    obtain ⟨h1, h2, h3⟩ := h.one hl
    exact ⟨h1, Facts.ok_set (S := Spec.any) h2 trivial, Facts.set_stable h3 Spec.any_stable⟩⟩
theorem At.make {listed : Array Bool} {Γ : Facts} {a : Act} {w w' : World} {i : Nat} {d : Option Tmp} {v : Value} {S : Spec} (h : At P base CB l listed Γ a w) (hun : listed.getD l false = false) (hi : i ≠ l)
    (hsub : ∀ w, Below base.heap.size base w → CB w) (hb : Below w.heap.size w w') (hS : S v w') (hs : Spec.stable S) : At P base CB l (listed.setIfInBounds i true) (Γ.set d S) (a.put d v) w' := by
  obtain ⟨h1, h2, h3⟩ := h.one hun
  exact ⟨hsub _ (below_trans h1 hb), fun _ => ⟨below_trans h1 hb, Facts.ok_set (Facts.ok_grow h2 h3 hb) hS, Facts.set_stable h3 hs⟩⟩
theorem At.late {listed : Array Bool} {Γ Γ' : Facts} {a a' : Act} {w' : World} (hl : l < listed.size) (h : CB w') : At P base CB l (listed.setIfInBounds l true) Γ' a' w' :=
  ⟨h, fun hn => by simp [hl] at hn⟩

/-- it is a wpAny -/
theorem wpAny_of_rl {g : Nat} {L : Array Bool → Act → World → Prop} {Q : Exit → Act → World → Prop} (sd : Sides md ops kd l n) (hln : l < n)
    (hsub : ∀ w, Below base.heap.size base w → CB w) (hL : ∀ listed a w, L listed a w → wpAny P md ops Q g listed a w) :
    ∀ (f : Nat) (listed : Array Bool) (Γ : Facts) (a : Act) (w : World), HeadInv md ops n listed → At P base CB l listed Γ a w →
      rlAny P ops base CB kd md n L f listed Γ a w → wpAny P md ops Q (f + g) listed a w
  | 0, listed, Γ, a, w, _, _, h => by rw [Nat.zero_add]; exact hL _ _ _ h
  | f + 1, listed, Γ, a, w, inv, hat, h => by
    rw [show f + 1 + g = (f + g) + 1 by omega]
    refine ⟨fun h0 => absurd h0 h.1, fun i hi => ?_⟩
    obtain ⟨hin, o, ho, hs⟩ := h.2 i hi
    have hun := un_of (mem_ready.1 hi).1
    have inv' := inv.set hi hin
    have hgo := fun Γ' a' w' => wpAny_of_rl sd hln hsub hL f (listed.setIfInBounds i true) Γ' a' w' inv'
    unfold wpOp
    simp only [ho]
    unfold tStep at hs
    have hne : (∀ R, kd i ≠ .late R) → i ≠ l := fun h e => by
      obtain ⟨R, hR⟩ := sd.late
      exact h R (e ▸ hR)
    have hone : i ≠ l → (kd i).isBig = false → listed.getD l false = false := fun h1 h2 => by
      rcases sd.ahead i hin h1 with h | h
      · rw [h] at h2; cases h2
      · exact (behind_spec inv _ i h hun).1
    split at hs
    · rename_i hk
      have hil : i ≠ l := hne (fun R => by rw [hk]; intro h; cases h)
      obtain ⟨v, hy, hK⟩ := hs
      obtain ⟨h1, h2, h3⟩ := hat.one (hone hil (by rw [hk]; rfl))
      have hnext := hgo _ _ _ (hat.small (d := o.dst) (v := v) hil) hK
      rcases hy with ⟨hw, hr⟩ | ⟨hw, rfl⟩
      · rw [if_pos hw]
        refine .inl ?_
        unfold Oper.wp
        rw [hr w h1 (fun t _ ht => h2 t ht)]
        exact hnext
      · rw [if_neg (by simp [hw])]
        exact hnext
    · rename_i S hk
      have hil : i ≠ l := hne (fun R => by rw [hk]; intro h; cases h)
      obtain ⟨⟨hw, hSs, hm⟩, hK⟩ := hs
      have hlu := hone hil (by rw [hk]; rfl)
      obtain ⟨h1, h2, h3⟩ := hat.one hlu
      rw [if_pos hw]
      refine .inl (wp_of_makes (hm w h1 (fun t _ ht => h2 t ht)) fun v w' ⟨hb, hS⟩ => ?_)
      exact hgo _ _ _ (hat.make hlu hil hsub hb hS hSs) (hK v w' hb hS)
    · rename_i hk
      have hil : i ≠ l := hne (fun R => by rw [hk]; intro h; cases h)
      obtain ⟨v, hy, hK⟩ := hs
      have hnext := hgo _ _ _ (hat.small (d := o.dst) (v := v) hil) hK
      rcases hy with ⟨hw, hr⟩ | ⟨hw, rfl⟩
      · rw [if_pos hw]
        refine .inl ?_
        unfold Oper.wp
        rw [hr w hat.big]
        exact hnext
      · rw [if_neg (by simp [hw])]
        exact hnext
    · rename_i R hk
      have hil : i = l := by
        by_cases e : i = l
        · exact e
        · exact absurd hk (sd.others i hin e R)
      subst hil
      obtain ⟨hw, hm, hK⟩ := hs
      rw [if_pos hw]
      refine .inl (wp_of_makes hm fun v w' ⟨hb, hS⟩ => ?_)
      refine hgo _ _ _ (At.late (Γ := Γ) (a := a) ?_ hb) (hK v w' hb hS)
      rw [inv.size]
      exact (Array.getElem?_eq_some_iff.1 ho).1

theorem YB_put {oj : Oper} {d : Option Tmp} {a : Act} {v u : Value} (hsj : ∀ cs b, oj.op ≠ .select cs b) (h : ∀ x, d = some x → x ∉ oj.looksAt ops) :
    YB P ops CB oj (a.put d v) u ↔ YB P ops CB oj a u := by
  unfold YB
  rw [wanted_put oj a d v h, execOp_put oj hsj a d v h]
theorem YB_unique {o : Oper} {a : Act} {v u : Value} {w : World} (hC : CB w) (h : YB P ops CB o a v) (h' : YB P ops CB o a u) : v = u := by
  rcases h with ⟨hw, h⟩ | ⟨hw, rfl⟩ <;> rcases h' with ⟨hw', h'⟩ | ⟨hw', rfl⟩
  · have e := (h w hC).symm.trans (h' w hC)
    injection e with e1 _
    injection e1
  · rw [hw] at hw'; cases hw'
  · rw [hw] at hw'; cases hw'
  · rfl
theorem makes_put {oj : Oper} {d : Option Tmp} {a : Act} {v : Value} {w : World} {R : Value → World → Prop} (hsj : ∀ cs b, oj.op ≠ .select cs b) (h : ∀ x, d = some x → x ∉ oj.looksAt ops) :
    makes P oj (a.put d v) w R ↔ makes P oj a w R := by
  unfold makes
  rw [execOp_put oj hsj a d v h]

theorem Facts.set_same_comm {Γ : Facts} {d e : Option Tmp} {S T : Spec} (h : ∀ x, d = some x → e ≠ some x) : (Γ.set d S).set e T = (Γ.set e T).set d S := Facts.set_comm h

/-- an operation that may come up now may be taken first (not the late one) -/
theorem rl_first {i : Nat} {oi : Oper} {L : Array Bool → Act → World → Prop} (sd : Sides md ops kd l n) (hln : l < n) (hi : ops[i]? = some oi) (hin : i < n) (hil : i ≠ l)
    (hsub : ∀ w, Below base.heap.size base w → CB w) (hdone : ∀ listed a w, L listed a w → ∀ j ∈ Region.ready md ops listed, n ≤ j) :
    ∀ (f : Nat) (listed : Array Bool) (Γ : Facts) (a : Act) (w : World), HeadInv md ops n listed →
      (∀ j oj, ops[j]? = some oj → j ≠ i → listed.getD j true = false → (∀ e ∈ oj.after, Region.binds md e = true → e.on ≠ i) → oi.apart ops oj = true) →
      i ∈ Region.ready md ops listed → At P base CB l listed Γ a w →
      tStep P ops base CB kd i oi (rlAny P ops base CB kd md n L f (listed.setIfInBounds i true)) Γ a w → rlAny P ops base CB kd md n L (f + 1) listed Γ a w := by
  -- what i's step leaves: at least one state behind it
  have ex : ∀ (K : Facts → Act → World → Prop) (listed : Array Bool) (Γ : Facts) (a : Act) (w : World), HeadInv md ops n listed → listed.getD i true = false → At P base CB l listed Γ a w →
      tStep P ops base CB kd i oi K Γ a w → ∃ Γ' a' w', K Γ' a' w' := by
    intro K listed Γ a w inv hun hat H
    unfold tStep at H
    split at H
    · obtain ⟨v, _, h⟩ := H; exact ⟨_, _, _, h⟩
    · rename_i S hk
      obtain ⟨⟨_, _, hm⟩, hK⟩ := H
      have hlu : listed.getD l false = false := by
        rcases sd.ahead i hin hil with h | h
        · rw [hk] at h; cases h
        · exact (behind_spec inv _ i h (un_of hun)).1
      obtain ⟨h1, h2, _⟩ := hat.one hlu
      obtain ⟨v, w', hb, hS⟩ := makes_exists (hm w h1 (fun t _ ht => h2 t ht))
      exact ⟨_, _, _, hK v w' hb hS⟩
    · obtain ⟨v, _, h⟩ := H; exact ⟨_, _, _, h⟩
    · rename_i R hk; exact absurd hk (sd.others i hin hil R)
  intro f
  induction f with
  | zero =>
    intro listed Γ a w inv _ hr hat H
    have hun := (mem_ready.1 hr).1
    refine ⟨fun h => (by rw [h] at hr; cases hr), fun j hj => ?_⟩
    have hjn : j < n := sd.head i hin listed inv hun j hj
    refine ⟨hjn, ?_⟩
    by_cases hji : j = i
    · subst hji; exact ⟨oi, hi, H⟩
    · exfalso
      obtain ⟨_, a', w', hL⟩ := ex _ listed Γ a w inv hun hat H
      have := hdone _ _ _ hL j (ready_mono hj hji)
      omega
  | succ f ih =>
    intro listed Γ a w inv hfree hr hat H
    have hun := (mem_ready.1 hr).1
    refine ⟨fun h => (by rw [h] at hr; cases hr), fun j hj => ?_⟩
    have hjn : j < n := sd.head i hin listed inv hun j hj
    refine ⟨hjn, ?_⟩
    by_cases hji : j = i
    · subst hji; exact ⟨oi, hi, H⟩
    obtain ⟨hjun, oj, hoj, hall⟩ := mem_ready.1 hj
    refine ⟨oj, hoj, ?_⟩
    have hnot : ∀ e ∈ oj.after, Region.binds md e = true → e.on ≠ i := fun e he hb heq => by
      have h1 := hall e he hb
      rw [heq, getD_both hun] at h1
      cases h1
    obtain ⟨ap1, ap2, ap3⟩ := Oper.apart_spec (hfree j oj hoj hji hjun hnot)
    have hsi := fun cs b => sd.sel i oi cs b hi
    have hsj := fun cs b => sd.sel j oj cs b hoj
    have hfree' : ∀ k ok, ops[k]? = some ok → k ≠ i → (listed.setIfInBounds j true).getD k true = false →
        (∀ e ∈ ok.after, Region.binds md e = true → e.on ≠ i) → oi.apart ops ok = true := fun k ok hk hki hun hno => by
      refine hfree k ok hk hki ?_ hno
      by_cases hjk : j = k
      · subst hjk; exact hjun
      · rw [getD_set_ne true hjk] at hun; exact hun
    have inv' := inv.set hj hjn
    have IH := fun Γ' a' w' => ih (listed.setIfInBounds j true) Γ' a' w' inv' hfree' (ready_mono hr (Ne.symm hji))
    have hjr := ready_mono hj hji
    have hcomm : (listed.setIfInBounds j true).setIfInBounds i true = (listed.setIfInBounds i true).setIfInBounds j true := Array.setIfInBounds_comm _ _ hji
    have hone : ∀ k, k < n → k ≠ l → (kd k).isBig = false → listed.getD k true = false → listed.getD l false = false ∧ l ∉ Region.ready md ops listed := fun k h1 h2 h3 h4 => by
      rcases sd.ahead k h1 h2 with h | h
      · rw [h] at h3; cases h3
      · exact behind_spec inv _ k h (un_of h4)
    -- j is the late one: then i is big
    by_cases hjl : j = l
    · subst hjl
      obtain ⟨R, hR⟩ := sd.late
      cases hki : kd i with
      | late R' => exact absurd hki (sd.others i hin hil R')
      | small => exact absurd hj (hone i hin hil (by rw [hki]; rfl) hun).2
      | make S => exact absurd hj (hone i hin hil (by rw [hki]; rfl) hun).2
      | big =>
        unfold tStep at H
        rw [hki] at H
        obtain ⟨v, hy, hK⟩ := H
        obtain ⟨oj', hoj', hj1⟩ := (hK.2 j hjr).2
        obtain rfl : oj' = oj := Option.some.inj (hoj'.symm.trans hoj)
        unfold tStep at hj1 ⊢
        rw [hR] at hj1 ⊢
        obtain ⟨hw, hm, hKj⟩ := hj1
        refine ⟨by rw [wanted_put oj' a oi.dst v ap1] at hw; exact hw, (makes_put hsj ap1).1 hm, fun u w' hb hT => ?_⟩
        have hjs : j < listed.size := by rw [inv.size]; exact (Array.getElem?_eq_some_iff.1 hoj).1
        refine IH _ _ _ (At.late (Γ := Γ) (a := a) hjs hb) ?_
        unfold tStep
        rw [hki]
        refine ⟨v, (YB_put hsi ap3).2 hy, ?_⟩
        rw [hcomm, ← Act.put_comm a v u ap2]
        exact hKj u w' hb hT
    -- j is another one
    have hkj : ∀ R, kd j ≠ .late R := sd.others j hjn hjl
    -- one instance behind i, for what j comes to
    obtain ⟨Γ0, a0, w0, hK0⟩ := ex _ listed Γ a w inv hun hat H
    cases hki : kd i with
    | late R' => exact absurd hki (sd.others i hin hil R')
    | small =>
      unfold tStep at H
      rw [hki] at H
      obtain ⟨v, hy, hK⟩ := H
      obtain ⟨oj', hoj', hj1⟩ := (hK.2 j hjr).2
      obtain rfl : oj' = oj := Option.some.inj (hoj'.symm.trans hoj)
      have hlu := (hone i hin hil (by rw [hki]; rfl) hun).1
      have back : ∀ (Γ' : Facts) (u : Value) (w' : World) (S : Spec), rlAny P ops base CB kd md n L f ((listed.setIfInBounds i true).setIfInBounds j true) ((Γ.set oi.dst Spec.any).set oj'.dst S) ((a.put oi.dst v).put oj'.dst u) w' →
          tStep P ops base CB kd i oi (rlAny P ops base CB kd md n L f ((listed.setIfInBounds j true).setIfInBounds i true)) (Γ.set oj'.dst S) (a.put oj'.dst u) w' := by
        intro _ u w' S h
        unfold tStep
        rw [hki]
        refine ⟨v, (YF_put hsi ap3).2 hy, ?_⟩
        rw [hcomm, ← Act.put_comm a v u ap2, ← Facts.set_comm ap2]; exact h
      cases hkj' : kd j with
      | late R => exact absurd hkj' (hkj R)
      | small =>
        unfold tStep at hj1 ⊢
        rw [hkj'] at hj1 ⊢
        obtain ⟨u, hyj, hKj⟩ := hj1
        exact ⟨u, (YF_put hsj ap1).1 hyj, IH _ _ _ (hat.small hjl) (back Γ u w Spec.any hKj)⟩
      | make T =>
        unfold tStep at hj1 ⊢
        rw [hkj'] at hj1 ⊢
        obtain ⟨hyj, hKj⟩ := hj1
        have hyj' := (YM_put hsj ap1).1 hyj
        exact ⟨hyj', fun u w' hb hT => IH _ _ _ (hat.make hlu hjl hsub hb hT hyj'.2.1) (back Γ u w' T (hKj u w' hb hT))⟩
      | big =>
        unfold tStep at hj1 ⊢
        rw [hkj'] at hj1 ⊢
        obtain ⟨u, hyj, hKj⟩ := hj1
        exact ⟨u, (YB_put hsj ap1).1 hyj, IH _ _ _ (hat.small hjl) (back Γ u w Spec.any hKj)⟩
    | big =>
      unfold tStep at H
      rw [hki] at H
      obtain ⟨v, hy, hK⟩ := H
      obtain ⟨oj', hoj', hj1⟩ := (hK.2 j hjr).2
      obtain rfl : oj' = oj := Option.some.inj (hoj'.symm.trans hoj)
      have back : ∀ (Γ' : Facts) (u : Value) (w' : World) (S : Spec), rlAny P ops base CB kd md n L f ((listed.setIfInBounds i true).setIfInBounds j true) ((Γ.set oi.dst Spec.any).set oj'.dst S) ((a.put oi.dst v).put oj'.dst u) w' →
          tStep P ops base CB kd i oi (rlAny P ops base CB kd md n L f ((listed.setIfInBounds j true).setIfInBounds i true)) (Γ.set oj'.dst S) (a.put oj'.dst u) w' := by
        intro _ u w' S h
        unfold tStep
        rw [hki]
        refine ⟨v, (YB_put hsi ap3).2 hy, ?_⟩
        rw [hcomm, ← Act.put_comm a v u ap2, ← Facts.set_comm ap2]; exact h
      cases hkj' : kd j with
      | late R => exact absurd hkj' (hkj R)
      | small =>
        unfold tStep at hj1 ⊢
        rw [hkj'] at hj1 ⊢
        obtain ⟨u, hyj, hKj⟩ := hj1
        exact ⟨u, (YF_put hsj ap1).1 hyj, IH _ _ _ (hat.small hjl) (back Γ u w Spec.any hKj)⟩
      | make T =>
        have hlu := (hone j hjn hjl (by rw [hkj']; rfl) hjun).1
        unfold tStep at hj1 ⊢
        rw [hkj'] at hj1 ⊢
        obtain ⟨hyj, hKj⟩ := hj1
        have hyj' := (YM_put hsj ap1).1 hyj
        exact ⟨hyj', fun u w' hb hT => IH _ _ _ (hat.make hlu hjl hsub hb hT hyj'.2.1) (back Γ u w' T (hKj u w' hb hT))⟩
      | big =>
        unfold tStep at hj1 ⊢
        rw [hkj'] at hj1 ⊢
        obtain ⟨u, hyj, hKj⟩ := hj1
        exact ⟨u, (YB_put hsj ap1).1 hyj, IH _ _ _ (hat.small hjl) (back Γ u w Spec.any hKj)⟩
    | make S =>
      have hlu := (hone i hin hil (by rw [hki]; rfl) hun).1
      obtain ⟨h1, h2, h3⟩ := hat.one hlu
      unfold tStep at H
      rw [hki] at H
      obtain ⟨hy, hK⟩ := H
      obtain ⟨vs, ws, hbs, hSs⟩ := makes_exists (hy.2.2 w h1 (fun t _ ht => h2 t ht))
      obtain ⟨oj', hoj', hj1⟩ := ((hK vs ws hbs hSs).2 j hjr).2
      obtain rfl : oj' = oj := Option.some.inj (hoj'.symm.trans hoj)
      cases hkj' : kd j with
      | late R => exact absurd hkj' (hkj R)
      | small =>
        unfold tStep at hj1 ⊢
        rw [hkj'] at hj1 ⊢
        obtain ⟨u, hyj, hKj⟩ := hj1
        have hyj' := (YF_put hsj ap1).1 hyj
        refine ⟨u, hyj', IH _ _ _ (hat.small hjl) ?_⟩
        unfold tStep
        rw [hki]
        refine ⟨(YM_put hsi ap3).2 hy, fun v w' hb hS => ?_⟩
        rw [hcomm, ← Act.put_comm a v u ap2, ← Facts.set_comm ap2]
        obtain ⟨oj'', hoj'', hj2⟩ := ((hK v w' hb hS).2 j hjr).2
        obtain rfl : oj'' = oj' := Option.some.inj (hoj''.symm.trans hoj)
        unfold tStep at hj2
        rw [hkj'] at hj2
        obtain ⟨u', hyj2, hKj2⟩ := hj2
        obtain rfl : u = u' := YF_unique h1 (fun t _ ht => h2 t ht) (fun t _ ht => h2 t ht) hyj' ((YF_put hsj ap1).1 hyj2)
        exact hKj2
      | big =>
        unfold tStep at hj1 ⊢
        rw [hkj'] at hj1 ⊢
        obtain ⟨u, hyj, hKj⟩ := hj1
        have hyj' := (YB_put hsj ap1).1 hyj
        refine ⟨u, hyj', IH _ _ _ (hat.small hjl) ?_⟩
        unfold tStep
        rw [hki]
        refine ⟨(YM_put hsi ap3).2 hy, fun v w' hb hS => ?_⟩
        rw [hcomm, ← Act.put_comm a v u ap2, ← Facts.set_comm ap2]
        obtain ⟨oj'', hoj'', hj2⟩ := ((hK v w' hb hS).2 j hjr).2
        obtain rfl : oj'' = oj' := Option.some.inj (hoj''.symm.trans hoj)
        unfold tStep at hj2
        rw [hkj'] at hj2
        obtain ⟨u', hyj2, hKj2⟩ := hj2
        obtain rfl : u = u' := YB_unique hat.big hyj' ((YB_put hsj ap1).1 hyj2)
        exact hKj2
      | make T =>
        unfold tStep at hj1 ⊢
        rw [hkj'] at hj1 ⊢
        obtain ⟨hyj, hKj⟩ := hj1
        have hyj' := (YM_put hsj ap1).1 hyj
        refine ⟨hyj', fun u w' hb hT => IH _ _ _ (hat.make hlu hjl hsub hb hT hyj'.2.1) ?_⟩
        unfold tStep
        rw [hki]
        refine ⟨(YM_put hsi ap3).2 hy, fun v w'' hb2 hS => ?_⟩
        rw [hcomm, ← Act.put_comm a v u ap2, ← Facts.set_comm ap2]
        have hbb : Below w.heap.size w w'' := below_trans hb hb2
        obtain ⟨oj'', hoj'', hj2⟩ := ((hK v w'' hbb hS).2 j hjr).2
        obtain rfl : oj'' = oj' := Option.some.inj (hoj''.symm.trans hoj)
        unfold tStep at hj2
        rw [hkj'] at hj2
        obtain ⟨_, hKj2⟩ := hj2
        exact hKj2 u w'' (Below.refl _ _) (hyj'.2.1 _ _ _ hT hb2)

/-- the order of the text serves every order -/
theorem rl_lex {g : Nat} {Lq : Act → World → Prop} (sd : Sides md ops kd l n) (hln : l + 1 = n) (L : Array Bool → Act → World → Prop)
    (hsub : ∀ w, Below base.heap.size base w → CB w) (hdone : ∀ listed a w, L listed a w → ∀ j ∈ Region.ready md ops listed, n ≤ j)
    (hend : ∀ listed a w, Region.seqB md ops g n listed = true → Lq a w → L listed a w) :
    ∀ (ls : List Oper) (k : Nat) (listed : Array Bool) (Γ : Facts) (a : Act) (w : World), (∀ j, j < ls.length → ls[j]? = ops[k + j]?) → k + ls.length = n → HeadInv md ops n listed →
    Region.lexHead md ops g ls.length k listed = true → Region.ready md ops ((List.range (n - 1)).foldl (fun l i => l.setIfInBounds i true) (Array.replicate ops.size false)) = [l] →
    listed = (List.range k).foldl (fun l i => l.setIfInBounds i true) (Array.replicate ops.size false) →
    (k ≤ l → At P base CB l listed Γ a w) → rlLex P ops base CB kd Lq ls k Γ a w →
    rlAny P ops base CB kd md n L ls.length listed Γ a w
  | [], k, listed, Γ, a, w, _, hk, _, hB, _, _, _, h => by
    have : k = n := by simpa using hk
    subst this
    exact hend _ _ _ (by simpa [Region.lexHead] using hB) h
  | o :: ls, k, listed, Γ, a, w, hl, hk, inv, hB, hlast, hlisted, hat, h => by
    have h0 : ops[k]? = some o := by simpa using (hl 0 (by simp)).symm
    simp only [List.length_cons, Region.lexHead, Bool.and_eq_true] at hB
    obtain ⟨⟨hr, hf⟩, hB'⟩ := hB
    have hkn : k < n := by simp only [List.length_cons] at hk; omega
    have hr' : k ∈ Region.ready md ops listed := by simpa using hr
    have hls : (List.range (k + 1)).foldl (fun l i => l.setIfInBounds i true) (Array.replicate ops.size false) = listed.setIfInBounds k true := by
      rw [List.range_succ, List.foldl_append, ← hlisted]; rfl
    have hgo := fun Γ' a' w' => rl_lex sd hln L hsub hdone hend ls (k + 1) (listed.setIfInBounds k true) Γ' a' w' (fun j hj => by have := hl (j + 1) (by simp; omega); simpa [Nat.add_assoc, Nat.add_comm 1 j] using this)
      (by simp only [List.length_cons] at hk; omega) (inv.set hr' hkn) hB' hlast hls.symm
    have h' : tStep P ops base CB kd k o (rlLex P ops base CB kd Lq ls (k + 1)) Γ a w := h
    by_cases hkl : k = l
    · -- the late one: nothing else is left
      subst hkl
      have hrd : Region.ready md ops listed = [k] := by rw [hlisted]; rw [← hln] at hlast; simpa using hlast
      refine ⟨by rw [hrd]; simp, fun j hj => ?_⟩
      rw [hrd] at hj
      obtain rfl : j = k := by simpa using hj
      refine ⟨hkn, o, h0, ?_⟩
      exact tStep_mono (fun Γ' a' w' h2 => hgo Γ' a' w' (fun hh => by omega) h2) h'
    · have hkl' : k < l := by omega
      refine rl_first sd (by omega) h0 hkn hkl hsub hdone ls.length listed Γ a w inv (Region.free_spec h0 hf) hr' (hat (by omega)) ?_
      have hat' := hat (by omega)
      have hun := (mem_ready.1 hr').1
      have hlu : listed.getD l false = false := by
        rcases sd.ahead k hkn hkl with hb | hb
        · -- by what stands listed
          rw [hlisted]
          have : ∀ m, m ≤ l → ((List.range m).foldl (fun l i => l.setIfInBounds i true) (Array.replicate ops.size false)).getD l false = false := by
            intro m
            induction m with
            | zero => intro _; exact getD_replicate_false _ _
            | succ m ihm =>
              intro hm
              rw [List.range_succ, List.foldl_append]
              simp only [List.foldl_cons, List.foldl_nil]
              rw [getD_set_other (by omega)]
              exact ihm (by omega)
          exact this k (by omega)
        · exact (behind_spec inv _ k hb (un_of hun)).1
      unfold tStep at h' ⊢
      split at h'
      · rename_i hkk
        obtain ⟨v, h1, h2⟩ := h'
        exact ⟨v, h1, hgo _ _ _ (fun _ => hat'.small hkl) h2⟩
      · rename_i S hkk
        exact ⟨h'.1, fun v w' hb hS => hgo _ _ _ (fun _ => hat'.make hlu hkl hsub hb hS h'.1.2.1) (h'.2 v w' hb hS)⟩
      · rename_i hkk
        obtain ⟨v, h1, h2⟩ := h'
        exact ⟨v, h1, hgo _ _ _ (fun _ => hat'.small hkl) h2⟩
      · rename_i R hkk
        exact absurd hkk (sd.others k hkn hkl R)
end

section
variable {P : Program} {id : Nat} {Q : Exit → Act → World → Prop} {a : Act} {w : World} {ls : List Oper}

/-- the static checks: n operations, the last of them the late one, 'big' those that may come behind it -/
def lateB (ops : Array Oper) (big : List Nat) (n : Nat) : Bool :=
  Region.lexTailB .any ops n && decide (0 < n) && decide (Region.ready .any ops ((List.range (n - 1)).foldl (fun l i => l.setIfInBounds i true) (Array.replicate ops.size false)) = [n - 1]) &&
  (List.range (n - 1)).all fun i => big.contains i || behind ops .any (n - 1) ops.size i

def kindsOf (big : List Nat) (mk : Nat → Option Spec) (n : Nat) (R : Spec) (i : Nat) : Kind :=
  if i = n - 1 then .late R else if big.contains i then .big else match mk i with
    | some S => .make S
    | none => .small

/-- **A region that draws; the first n operations, the last of which changes what was there; then the forced tail.** -/
theorem wp_region_late (n : Nat) (big : List Nat) (mk : Nat → Option Spec) (CB : World → Prop) (R : Spec) (hm : P.follows .mixedOrders = true) (hB : lateB ls.toArray big n = true)
    (hsub : ∀ b, b.heap = w.heap → Below w.heap.size w b → ∀ w', Below b.heap.size b w' → CB w')
    (h : ∀ b, Below w.heap.size w b → b.heap = w.heap → rlLex P ls.toArray b CB (kindsOf big mk n R) (fun a' w' => wpList P ls.toArray Q (ls.drop n) a' w') (ls.take n) 0 Facts.empty a b) :
    (Code.region id ls.toArray true).wp P Q a w := by
  simp only [lateB, Bool.and_eq_true, decide_eq_true_eq] at hB
  obtain ⟨⟨⟨hB1, hpos⟩, hlast⟩, hbig⟩ := hB
  simp only [Region.lexTailB, Bool.and_eq_true, decide_eq_true_eq] at hB1
  obtain ⟨⟨⟨⟨hsel, hn⟩, hs⟩, hc⟩, hlex⟩ := hB1
  have htl : (ls.take n).length = n := by simp at hn; simp; omega
  have hdl : (ls.drop n).length = ls.toArray.size - n := by simp
  have inv0 : HeadInv .any ls.toArray n (Array.replicate ls.toArray.size false) :=
    ⟨by simp, fun j oj _ hl => (by rw [getD_replicate_false] at hl; cases hl), fun t _ ht => getD_in (by simpa using ht) (getD_replicate_false _ _)⟩
  have sd : Sides .any ls.toArray (kindsOf big mk n R) (n - 1) n := by
    refine ⟨Region.noSelect_spec hsel, fun i hin listed inv hun j hj => ?_, fun i hin hil => ?_, ⟨R, by simp [kindsOf]⟩, fun i hin hil R' => ?_⟩
    · rcases Nat.lt_or_ge j n with h | h
      · exact h
      · exact absurd hj (tail_waits hs hc hn inv _ i rfl hin hun j h)
    · have := List.all_eq_true.1 hbig i (List.mem_range.2 (by omega))
      simp only [Bool.or_eq_true] at this
      rcases this with h | h
      · left
        unfold kindsOf
        rw [if_neg hil, if_pos h]
        rfl
      · exact .inr h
    · unfold kindsOf
      rw [if_neg hil]
      split
      · intro h; cases h
      · split <;> (intro h; cases h)
  have hw0 : Below w.heap.size w { w with drawn := w.drawn + 1 } := (Below.refl _ w).drew
  have H := rl_lex (md := .any) (g := ls.toArray.size - n) (Lq := fun a' w' => wpList P ls.toArray Q (ls.drop n) a' w') sd (by omega)
    (fun listed' a' w' => Region.seqB .any ls.toArray (ls.toArray.size - n) n listed' = true ∧ wpList P ls.toArray Q (ls.drop n) a' w')
    (fun w' h' => hsub { w with drawn := w.drawn + 1 } rfl hw0 w' h') (fun listed a w hL => seqB_ready hL.1) (fun _ _ _ h1 h2 => ⟨h1, h2⟩)
    (ls.take n) 0 _ Facts.empty a { w with drawn := w.drawn + 1 } (fun j hj => by
      have hj' : j < n := by rw [htl] at hj; exact hj
      simp [hj']) (by simpa using htl) inv0 (by rw [htl]; exact hlex) hlast rfl
    (fun _ => ⟨hsub { w with drawn := w.drawn + 1 } rfl hw0 _ (Below.refl _ _), fun _ => ⟨Below.refl _ _, Facts.empty_ok _ _, Facts.empty_stable⟩⟩)
    (h { w with drawn := w.drawn + 1 } hw0 rfl)
  refine wp_region_any hm ?_
  have := wpAny_of_rl (Q := Q) (g := ls.toArray.size - n) sd (by omega) (fun w' h' => hsub { w with drawn := w.drawn + 1 } rfl hw0 w' h') (fun listed a' w' hL => by
    have := wpAny_of_seq (md := .any) (Q' := Q) (ls.drop n) n listed a' w' (fun j => by simp [List.getElem?_drop]) (by rw [hdl]; exact hL.1) hL.2
    rwa [hdl] at this) _ _ _ _ _ inv0 ⟨hsub { w with drawn := w.drawn + 1 } rfl hw0 _ (Below.refl _ _), fun _ => ⟨Below.refl _ _, Facts.empty_ok _ _, Facts.empty_stable⟩⟩ H
  rw [htl, show n + (ls.toArray.size - n) = ls.toArray.size by simp at hn; simp; omega] at this
  exact this

variable {ops : Array Oper} {b : World} {q : Act → World → Prop} {o : Oper} {rest : List Oper} {k : Nat} {Γ : Facts} {CB : World → Prop} {kd : Nat → Kind}
theorem rl_nil (h : q a w) : rlLex P ops b CB kd q [] k Γ a w := h
theorem rl_small (v : Value) (hs : kd k = .small) (hw : Region.wanted o (yielded ops a.tmps) = true)
    (h : ∀ w1, Below b.heap.size b w1 → facts ops o Γ a w1 → (execOp a.eval o).run P w1 = .ok (.value v) w1)
    (hn : rlLex P ops b CB kd q rest (k + 1) (Γ.set o.dst Spec.any) (a.put o.dst v) w) : rlLex P ops b CB kd q (o :: rest) k Γ a w := by
  show tStep _ _ _ _ _ _ _ _ _ _ _
  unfold tStep
  rw [hs]
  exact ⟨v, .inl ⟨hw, h⟩, hn⟩
theorem rl_big (v : Value) (hs : kd k = .big) (hw : Region.wanted o (yielded ops a.tmps) = true) (h : ∀ w1, CB w1 → (execOp a.eval o).run P w1 = .ok (.value v) w1)
    (hn : rlLex P ops b CB kd q rest (k + 1) (Γ.set o.dst Spec.any) (a.put o.dst v) w) : rlLex P ops b CB kd q (o :: rest) k Γ a w := by
  show tStep _ _ _ _ _ _ _ _ _ _ _
  unfold tStep
  rw [hs]
  exact ⟨v, .inl ⟨hw, h⟩, hn⟩
theorem rl_move (x : Operand) (ho : o.op = .move x ∨ o.op = .assign x) (hs : kd k = .small ∨ kd k = .big) (hw : Region.wanted o (yielded ops a.tmps) = true)
    (hn : rlLex P ops b CB kd q rest (k + 1) (Γ.set o.dst Spec.any) (a.put o.dst (a.eval x)) w) : rlLex P ops b CB kd q (o :: rest) k Γ a w := by
  rcases hs with hs | hs
  · exact rl_small (a.eval x) hs hw (fun w1 _ _ => by rcases ho with h | h <;> simp [execOp, h]) hn
  · exact rl_big (a.eval x) hs hw (fun w1 _ => by rcases ho with h | h <;> simp [execOp, h]) hn
theorem rl_make (S : Spec) (hs : kd k = .make S) (hst : Spec.stable S) (hw : Region.wanted o (yielded ops a.tmps) = true)
    (h : ∀ w1, Below b.heap.size b w1 → facts ops o Γ a w1 → makes P o a w1 fun v w' => Below w1.heap.size w1 w' ∧ S v w')
    (hn : ∀ v w', Below w.heap.size w w' → S v w' → rlLex P ops b CB kd q rest (k + 1) (Γ.set o.dst S) (a.put o.dst v) w') : rlLex P ops b CB kd q (o :: rest) k Γ a w := by
  show tStep _ _ _ _ _ _ _ _ _ _ _
  unfold tStep
  rw [hs]
  exact ⟨⟨hw, hst, h⟩, hn⟩
theorem rl_late (R : Spec) (hs : kd k = .late R) (hw : Region.wanted o (yielded ops a.tmps) = true) (h : makes P o a w fun v w' => CB w' ∧ R v w')
    (hn : ∀ v w', CB w' → R v w' → rlLex P ops b CB kd q rest (k + 1) Γ (a.put o.dst v) w') : rlLex P ops b CB kd q (o :: rest) k Γ a w := by
  show tStep _ _ _ _ _ _ _ _ _ _ _
  unfold tStep
  rw [hs]
  exact ⟨hw, h, hn⟩
end
end Go.RG
