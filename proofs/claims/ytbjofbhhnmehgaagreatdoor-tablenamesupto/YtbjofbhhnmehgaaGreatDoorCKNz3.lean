/-
  RL with another relation in the place of 'the blocks that were there stand as they were': what the region's own operations do to old blocks must be of that relation. Conditions: the program follows mixedOrders; the order's static checks.
-/
import Derived.Test.YtbjofbhhnmehgaaGreatDoorCKNz1
import Derived.Test.YtbjofbhhnmehgaaGreatDoorCKNz0
import Derived.Test.YtbjofbhhnmehgaaGreatDoorCKNz2
set_option linter.unusedSimpArgs false
set_option linter.unusedVariables false
namespace Go.RG
open Go.RowKit
/-- what a world may grow into -/
structure Grow where
  r : World → World → Prop
  refl : ∀ w, r w w
  trans : ∀ {a b c : World}, r a b → r b c → r a c
section
variable (ρ : Grow)
def Spec.stab (S : Spec) : Prop := ∀ v w w', S v w → ρ.r w w' → S v w'
def Facts.stab (Γ : Facts) : Prop := ∀ t, Spec.stab ρ (Γ t)
theorem Spec.any_stab : Spec.stab ρ Spec.any := fun _ _ _ _ _ => trivial
theorem Facts.empty_stab : Facts.stab ρ Facts.empty := fun _ _ _ _ _ _ => trivial
variable {ρ}
theorem Facts.set_stab {Γ : Facts} {d : Option Tmp} {S : Spec} (h : Facts.stab ρ Γ) (hS : Spec.stab ρ S) : Facts.stab ρ (Γ.set d S) := by
  intro t
  unfold Facts.set
  split
  · exact hS
  · exact h t
theorem Facts.ok_gr {Γ : Facts} {a : Act} {w w' : World} (h : Γ.ok a w) (hs : Facts.stab ρ Γ) (hb : ρ.r w w') : Γ.ok a w' :=
  fun t ht => hs t _ _ _ (h t ht) hb
end
abbrev mdA : Region.Mode := .any
/-- the slots of those that an operation waits for -/
def afterDst (ops : Array Oper) (o : Oper) : List Tmp := o.after.toList.filterMap fun e => if Region.binds mdA e then (ops[e.on]?).bind (·.dst) else none
def Aft (ops : Array Oper) : Prop := ∀ (i j : Nat) (oi oj : Oper) (d : Tmp), ops[i]? = some oi → ops[j]? = some oj → oi.dst = some d → d ∈ afterDst ops oj → ∃ e ∈ oj.after, Region.binds mdA e = true ∧ e.on = i
def aftB (ops : Array Oper) : Bool := (List.range ops.size).all fun i => (List.range ops.size).all fun j => match (ops[i]?).bind (·.dst), ops[j]? with
  | some d, some oj => !(afterDst ops oj).contains d || Region.waitsFor mdA ops j i
  | _, _ => true
theorem aftB_spec {ops : Array Oper} (h : aftB ops = true) : Aft ops := by
  intro i j oi oj d hi hj hd hm
  have h1 := List.all_eq_true.1 h i (List.mem_range.2 (Array.getElem?_eq_some_iff.1 hi).1)
  have h2 := List.all_eq_true.1 h1 j (List.mem_range.2 (Array.getElem?_eq_some_iff.1 hj).1)
  simp only [hi, hj, Option.bind_some, hd, Bool.or_eq_true, Bool.not_eq_true', List.contains_eq_mem, decide_eq_false_iff_not] at h2
  rcases h2 with h2 | h2
  · exact absurd hm h2
  · obtain ⟨ok, hok, e, he, hb, hon⟩ := Region.waitsFor_spec h2
    obtain rfl : ok = oj := Option.some.inj (hok.symm.trans hj)
    exact ⟨e, he, hb, hon⟩
/-- what is known of the slots that an operation looks at, and of those that it waits for -/
def facts2 (ops : Array Oper) (o : Oper) (Γ : Facts) (a : Act) (w : World) : Prop := ∀ t, t ∈ o.looksAt ops ∨ t ∈ afterDst ops o → t < a.tmps.size → Γ t (a.tmps.getD t undef) w
theorem facts2_put {ops : Array Oper} {oi oj : Oper} {Γ : Facts} {S : Spec} {a : Act} {v : Value} {w : World} (h : ∀ d, oi.dst = some d → d ∉ oj.looksAt ops) (h2 : ∀ d, oi.dst = some d → d ∉ afterDst ops oj) :
    facts2 ops oj (Γ.set oi.dst S) (a.put oi.dst v) w ↔ facts2 ops oj Γ a w := by
  unfold facts2
  constructor
  · intro hf t ht hlt
    have hne : oi.dst ≠ some t := fun e => ht.elim (h t e) (h2 t e)
    have := hf t ht (by rw [Act.size_put]; exact hlt)
    rwa [Act.getD_put_ne hne, Facts.set, if_neg hne] at this
  · intro hf t ht hlt
    have hne : oi.dst ≠ some t := fun e => ht.elim (h t e) (h2 t e)
    rw [Act.size_put] at hlt
    have := hf t ht hlt
    rwa [Act.getD_put_ne hne, Facts.set, if_neg hne]
inductive Kindx where
  | small
  | make (S : (Nat → Value) → Spec)
  | big
  | late (R : Spec)
/-- is it free of the late one's change? -/
def Kindx.isBig : Kindx → Bool
  | .big => true
  | _ => false
structure Sidesx (ops : Array Oper) (kd : Nat → Kindx) (l n : Nat) : Prop where
  sel : ∀ (j : Nat) (o : Oper) cs b, ops[j]? = some o → o.op ≠ .select cs b
  head : ∀ i, i < n → ∀ listed, HeadInv mdA ops n listed → listed.getD i true = false → ∀ j ∈ Region.ready mdA ops listed, j < n
  ahead : ∀ i, i < n → i ≠ l → (kd i).isBig = true ∨ behind ops mdA l ops.size i = true
  late : ∃ R, kd l = .late R
  others : ∀ i, i < n → i ≠ l → ∀ R, kd i ≠ .late R

/-- the slots that an operation sees: those that it looks at, and those of the operations that it waits for -/
def seen (ops : Array Oper) (o : Oper) (a : Act) (t : Nat) : Value := if t ∈ o.looksAt ops ∨ t ∈ afterDst ops o then a.tmps.getD t undef else undef
theorem seen_of {ops : Array Oper} {o : Oper} {a : Act} {t : Nat} {v : Value} (h : t ∈ o.looksAt ops ∨ t ∈ afterDst ops o) (hv : a.tmps.getD t undef = v) : seen ops o a t = v := (if_pos h).trans hv
theorem seen_put {ops : Array Oper} {oi oj : Oper} {a : Act} {v : Value} (h : ∀ d, oi.dst = some d → d ∉ oj.looksAt ops) (h2 : ∀ d, oi.dst = some d → d ∉ afterDst ops oj) : seen ops oj (a.put oi.dst v) = seen ops oj a := by
  funext t
  unfold seen
  by_cases ht : t ∈ oj.looksAt ops ∨ t ∈ afterDst ops oj
  · rw [if_pos ht, if_pos ht, Act.getD_put_ne]
    intro e
    exact ht.elim (h t e) (h2 t e)
  · rw [if_neg ht, if_neg ht]
section
variable (ρ : Grow) (P : Program) (ops : Array Oper) (base : World)
/-- one value, in every world grown out of 'base' -/
def YFx (Γ : Facts) (o : Oper) (a : Act) (v : Value) : Prop :=
  (Region.wanted o (yielded ops a.tmps) = true ∧ ∀ w, ρ.r base w → facts2 ops o Γ a w → (execOp a.eval o).run P w = .ok (.value v) w) ∨
  (Region.wanted o (yielded ops a.tmps) = false ∧ v = undef)
/-- a value that meets S -/
def YMx (Γ : Facts) (o : Oper) (a : Act) (S : Spec) : Prop :=
  Region.wanted o (yielded ops a.tmps) = true ∧ Spec.stab ρ S ∧
  ∀ w, ρ.r base w → facts2 ops o Γ a w → makes P o a w fun v w' => ρ.r w w' ∧ S v w'

variable (CB : World → Prop) (kd : Nat → Kindx)
def tStepx (i : Nat) (o : Oper) (K : Facts → Act → World → Prop) (Γ : Facts) (a : Act) (w : World) : Prop :=
  match kd i with
  | .small => ∃ v, YFx ρ P ops base Γ o a v ∧ K (Γ.set o.dst Spec.any) (a.put o.dst v) w
  | .make S => YMx ρ P ops base Γ o a (S (seen ops o a)) ∧ ∀ v w', ρ.r w w' → S (seen ops o a) v w' → K (Γ.set o.dst (S (seen ops o a))) (a.put o.dst v) w'
  | .big => ∃ v, YB P ops CB o a v ∧ K (Γ.set o.dst Spec.any) (a.put o.dst v) w
  | .late _ => Region.wanted o (yielded ops a.tmps) = true ∧ ∃ R : Spec, makes P o a w (fun v w' => CB w' ∧ R v w') ∧ ∀ v w', CB w' → R v w' → K Γ (a.put o.dst v) w'

def rxAny (n : Nat) (L : Array Bool → Act → World → Prop) : Nat → Array Bool → Facts → Act → World → Prop
  | 0, listed, _, a, w => L listed a w
  | f + 1, listed, Γ, a, w =>
    Region.ready mdA ops listed ≠ [] ∧ ∀ i ∈ Region.ready mdA ops listed, i < n ∧ ∃ o, ops[i]? = some o ∧
      tStepx ρ P ops base CB kd i o (rxAny n L f (listed.setIfInBounds i true)) Γ a w

def rxLex (Q : Act → World → Prop) : List Oper → Nat → Facts → Act → World → Prop
  | [], _, _, a, w => Q a w
  | o :: rest, k, Γ, a, w => tStepx ρ P ops base CB kd k o (rxLex Q rest (k + 1)) Γ a w

end
section
variable {ρ : Grow} {P : Program} {ops : Array Oper} {base : World} {CB : World → Prop} {kd : Nat → Kindx} {l n : Nat}
theorem YFx_put {oi oj : Oper} {Γ : Facts} {S : Spec} {a : Act} {v u : Value} (hsj : ∀ cs b, oj.op ≠ .select cs b) (h : ∀ d, oi.dst = some d → d ∉ oj.looksAt ops) (h2 : ∀ d, oi.dst = some d → d ∉ afterDst ops oj) :
    YFx ρ P ops base (Γ.set oi.dst S) oj (a.put oi.dst v) u ↔ YFx ρ P ops base Γ oj a u := by
  unfold YFx
  rw [wanted_put oj a oi.dst v h, execOp_put oj hsj a oi.dst v h]
  simp only [facts2_put h h2]

theorem YMx_put {oi oj : Oper} {Γ : Facts} {S T : Spec} {a : Act} {v : Value} (hsj : ∀ cs b, oj.op ≠ .select cs b) (h : ∀ d, oi.dst = some d → d ∉ oj.looksAt ops) (h2 : ∀ d, oi.dst = some d → d ∉ afterDst ops oj) :
    YMx ρ P ops base (Γ.set oi.dst S) oj (a.put oi.dst v) T ↔ YMx ρ P ops base Γ oj a T := by
  unfold YMx makes
  rw [wanted_put oj a oi.dst v h, execOp_put oj hsj a oi.dst v h]
  simp only [facts2_put h h2]

theorem YFx_unique {o : Oper} {Γ Γ' : Facts} {a : Act} {v u : Value} {w : World} (hC : ρ.r base w) (hf : facts2 ops o Γ a w) (hf' : facts2 ops o Γ' a w)
    (h : YFx ρ P ops base Γ o a v) (h' : YFx ρ P ops base Γ' o a u) : v = u := by
  rcases h with ⟨hw, h⟩ | ⟨hw, rfl⟩ <;> rcases h' with ⟨hw', h'⟩ | ⟨hw', rfl⟩
  · have e := (h w hC hf).symm.trans (h' w hC hf')
    injection e with e1 _
    injection e1
  · rw [hw] at hw'; cases hw'
  · rw [hw] at hw'; cases hw'
  · rfl

/-- what holds of a world between two steps -/
structure Atx (ρ : Grow) (P : Program) (base : World) (CB : World → Prop) (l : Nat) (listed : Array Bool) (Γ : Facts) (a : Act) (w : World) : Prop where
  big : CB w
  one : listed.getD l false = false → ρ.r base w ∧ Γ.ok a w ∧ (Facts.stab ρ Γ)

theorem tStepx_mono {i : Nat} {o : Oper} {K K' : Facts → Act → World → Prop} {Γ : Facts} {a : Act} {w : World} (h : ∀ Γ a w, K Γ a w → K' Γ a w)
    (hh : tStepx ρ P ops base CB kd i o K Γ a w) : tStepx ρ P ops base CB kd i o K' Γ a w := by
  unfold tStepx at *
  split at hh
  · obtain ⟨v, h1, h2⟩ := hh; exact ⟨v, h1, h _ _ _ h2⟩
  · exact ⟨hh.1, fun v w' hb hS => h _ _ _ (hh.2 v w' hb hS)⟩
  · obtain ⟨v, h1, h2⟩ := hh; exact ⟨v, h1, h _ _ _ h2⟩
  · obtain ⟨h1, R, h2, h3⟩ := hh
    exact ⟨h1, R, h2, fun v w' hb hS => h _ _ _ (h3 v w' hb hS)⟩

/-- a step of each kind leaves such a world -/
theorem Atx.small {listed : Array Bool} {Γ : Facts} {a : Act} {w : World} {i : Nat} {d : Option Tmp} {v : Value} (h : Atx ρ P base CB l listed Γ a w) (hi : i ≠ l) : Atx ρ P base CB l (listed.setIfInBounds i true) (Γ.set d Spec.any) (a.put d v) w :=
  ⟨h.big, fun hl => by
    rw [getD_set_other hi] at hl
    obtain ⟨h1, h2, h3⟩ := h.one hl
    exact ⟨h1, Facts.ok_set (S := Spec.any) h2 trivial, Facts.set_stab h3 (Spec.any_stab ρ)⟩⟩
theorem Atx.make {listed : Array Bool} {Γ : Facts} {a : Act} {w w' : World} {i : Nat} {d : Option Tmp} {v : Value} {S : Spec} (h : Atx ρ P base CB l listed Γ a w) (hun : listed.getD l false = false) (hi : i ≠ l)
    (hsub : ∀ w, ρ.r base w → CB w) (hb : ρ.r w w') (hS : S v w') (hs : Spec.stab ρ S) : Atx ρ P base CB l (listed.setIfInBounds i true) (Γ.set d S) (a.put d v) w' := by
  obtain ⟨h1, h2, h3⟩ := h.one hun
  exact ⟨hsub _ (ρ.trans h1 hb), fun _ => ⟨ρ.trans h1 hb, Facts.ok_set (Facts.ok_gr h2 h3 hb) hS, Facts.set_stab h3 hs⟩⟩
theorem Atx.late {listed : Array Bool} {Γ Γ' : Facts} {a a' : Act} {w' : World} (hl : l < listed.size) (h : CB w') : Atx ρ P base CB l (listed.setIfInBounds l true) Γ' a' w' :=
  ⟨h, fun hn => by simp [hl] at hn⟩

/-- it is a wpAny -/
theorem wpAny_of_rx {g : Nat} {L : Array Bool → Act → World → Prop} {Q : Exit → Act → World → Prop} (sd : Sidesx ops kd l n) (hln : l < n)
    (hsub : ∀ w, ρ.r base w → CB w) (hL : ∀ listed a w, L listed a w → wpAny P mdA ops Q g listed a w) :
    ∀ (f : Nat) (listed : Array Bool) (Γ : Facts) (a : Act) (w : World), HeadInv mdA ops n listed → Atx ρ P base CB l listed Γ a w →
      rxAny ρ P ops base CB kd n L f listed Γ a w → wpAny P mdA ops Q (f + g) listed a w
  | 0, listed, Γ, a, w, _, _, h => by rw [Nat.zero_add]; exact hL _ _ _ h
  | f + 1, listed, Γ, a, w, inv, hat, h => by
    rw [show f + 1 + g = (f + g) + 1 by omega]
    refine ⟨fun h0 => absurd h0 h.1, fun i hi => ?_⟩
    obtain ⟨hin, o, ho, hs⟩ := h.2 i hi
    have hun := un_of (mem_ready.1 hi).1
    have inv' := inv.set hi hin
    have hgo := fun Γ' a' w' => wpAny_of_rx sd hln hsub hL f (listed.setIfInBounds i true) Γ' a' w' inv'
    unfold wpOp
    simp only [ho]
    unfold tStepx at hs
    have hne : (∀ R, kd i ≠ .late R) → i ≠ l := fun h e => by
      obtain ⟨R, hR⟩ := sd.late
      exact h R (e ▸ hR)
    have hone : i ≠ l → (kd i).isBig = false → listed.getD l false = false := fun h1 h2 => by
      rcases sd.ahead i hin h1 with h | h
      · rw [h] at h2; cases h2
      · exact (behind_spec inv _ i h hun).1
    split at hs
    · rename_i hk
      have hil : i ≠ l := hne (fun R => by rw [hk]; intro h; cases h)
      obtain ⟨v, hy, hK⟩ := hs
      obtain ⟨h1, h2, h3⟩ := hat.one (hone hil (by rw [hk]; rfl))
      have hnext := hgo _ _ _ (hat.small (d := o.dst) (v := v) hil) hK
      rcases hy with ⟨hw, hr⟩ | ⟨hw, rfl⟩
      · rw [if_pos hw]
        refine .inl ?_
        unfold Oper.wp
        rw [hr w h1 (fun t _ ht => h2 t ht)]
        exact hnext
      · rw [if_neg (by simp [hw])]
        exact hnext
    · rename_i S hk
      have hil : i ≠ l := hne (fun R => by rw [hk]; intro h; cases h)
      obtain ⟨⟨hw, hSs, hm⟩, hK⟩ := hs
      have hlu := hone hil (by rw [hk]; rfl)
      obtain ⟨h1, h2, h3⟩ := hat.one hlu
      rw [if_pos hw]
      refine .inl (wp_of_makes (hm w h1 (fun t _ ht => h2 t ht)) fun v w' ⟨hb, hS⟩ => ?_)
      exact hgo _ _ _ (hat.make hlu hil hsub hb hS hSs) (hK v w' hb hS)
    · rename_i hk
      have hil : i ≠ l := hne (fun R => by rw [hk]; intro h; cases h)
      obtain ⟨v, hy, hK⟩ := hs
      have hnext := hgo _ _ _ (hat.small (d := o.dst) (v := v) hil) hK
      rcases hy with ⟨hw, hr⟩ | ⟨hw, rfl⟩
      · rw [if_pos hw]
        refine .inl ?_
        unfold Oper.wp
        rw [hr w hat.big]
        exact hnext
      · rw [if_neg (by simp [hw])]
        exact hnext
    · rename_i R hk
      have hil : i = l := by
        by_cases e : i = l
        · exact e
        · exact absurd hk (sd.others i hin e R)
      subst hil
      obtain ⟨hw, R1, hm, hK⟩ := hs
      rw [if_pos hw]
      refine .inl (wp_of_makes hm fun v w' ⟨hb, hS⟩ => ?_)
      refine hgo _ _ _ (Atx.late (Γ := Γ) (a := a) ?_ hb) (hK v w' hb hS)
      rw [inv.size]
      exact (Array.getElem?_eq_some_iff.1 ho).1

/-- an operation that may come up now may be taken first (not the late one) -/
theorem rx_first (aft : Aft ops) {i : Nat} {oi : Oper} {L : Array Bool → Act → World → Prop} (sd : Sidesx ops kd l n) (hln : l < n) (hi : ops[i]? = some oi) (hin : i < n) (hil : i ≠ l)
    (hsub : ∀ w, ρ.r base w → CB w) (hdone : ∀ listed a w, L listed a w → ∀ j ∈ Region.ready mdA ops listed, n ≤ j) :
    ∀ (f : Nat) (listed : Array Bool) (Γ : Facts) (a : Act) (w : World), HeadInv mdA ops n listed →
      (∀ j oj, ops[j]? = some oj → j ≠ i → listed.getD j true = false → (∀ e ∈ oj.after, Region.binds mdA e = true → e.on ≠ i) → oi.apart ops oj = true) →
      i ∈ Region.ready mdA ops listed → Atx ρ P base CB l listed Γ a w →
      tStepx ρ P ops base CB kd i oi (rxAny ρ P ops base CB kd n L f (listed.setIfInBounds i true)) Γ a w → rxAny ρ P ops base CB kd n L (f + 1) listed Γ a w := by
  -- what i's step leaves: at least one state behind it
  have ex : ∀ (K : Facts → Act → World → Prop) (listed : Array Bool) (Γ : Facts) (a : Act) (w : World), HeadInv mdA ops n listed → listed.getD i true = false → Atx ρ P base CB l listed Γ a w →
      tStepx ρ P ops base CB kd i oi K Γ a w → ∃ Γ' a' w', K Γ' a' w' := by
    intro K listed Γ a w inv hun hat H
    unfold tStepx at H
    split at H
    · obtain ⟨v, _, h⟩ := H; exact ⟨_, _, _, h⟩
    · rename_i S hk
      obtain ⟨⟨_, _, hm⟩, hK⟩ := H
      have hlu : listed.getD l false = false := by
        rcases sd.ahead i hin hil with h | h
        · rw [hk] at h; cases h
        · exact (behind_spec inv _ i h (un_of hun)).1
      obtain ⟨h1, h2, _⟩ := hat.one hlu
      obtain ⟨v, w', hb, hS⟩ := makes_exists (hm w h1 (fun t _ ht => h2 t ht))
      exact ⟨_, _, _, hK v w' hb hS⟩
    · obtain ⟨v, _, h⟩ := H; exact ⟨_, _, _, h⟩
    · rename_i R hk; exact absurd hk (sd.others i hin hil R)
  intro f
  induction f with
  | zero =>
    intro listed Γ a w inv _ hr hat H
    have hun := (mem_ready.1 hr).1
    refine ⟨fun h => (by rw [h] at hr; cases hr), fun j hj => ?_⟩
    have hjn : j < n := sd.head i hin listed inv hun j hj
    refine ⟨hjn, ?_⟩
    by_cases hji : j = i
    · subst hji; exact ⟨oi, hi, H⟩
    · exfalso
      obtain ⟨_, a', w', hL⟩ := ex _ listed Γ a w inv hun hat H
      have := hdone _ _ _ hL j (ready_mono hj hji)
      omega
  | succ f ih =>
    intro listed Γ a w inv hfree hr hat H
    have hun := (mem_ready.1 hr).1
    refine ⟨fun h => (by rw [h] at hr; cases hr), fun j hj => ?_⟩
    have hjn : j < n := sd.head i hin listed inv hun j hj
    refine ⟨hjn, ?_⟩
    by_cases hji : j = i
    · subst hji; exact ⟨oi, hi, H⟩
    obtain ⟨hjun, oj, hoj, hall⟩ := mem_ready.1 hj
    refine ⟨oj, hoj, ?_⟩
    have hnot : ∀ e ∈ oj.after, Region.binds mdA e = true → e.on ≠ i := fun e he hb heq => by
      have h1 := hall e he hb
      rw [heq, getD_both hun] at h1
      cases h1
    obtain ⟨ap1, ap2, ap3⟩ := Oper.apart_spec (hfree j oj hoj hji hjun hnot)
    have ap1x : ∀ d, oi.dst = some d → d ∉ afterDst ops oj := fun d hd hm => by
      obtain ⟨e, he, hb, hon⟩ := aft i j oi oj d hi hoj hd hm
      exact hnot e he hb hon
    have ap3x : ∀ d, oj.dst = some d → d ∉ afterDst ops oi := fun d hd hm => by
      obtain ⟨e, he, hb, hon⟩ := aft j i oj oi d hoj hi hd hm
      obtain ⟨_, oi', hoi', hall⟩ := mem_ready.1 hr
      obtain rfl : oi' = oi := Option.some.inj (hoi'.symm.trans hi)
      have h1 := hall e he hb
      rw [hon, getD_both hjun] at h1
      cases h1
    have hsi := fun cs b => sd.sel i oi cs b hi
    have hsj := fun cs b => sd.sel j oj cs b hoj
    have hfree' : ∀ k ok, ops[k]? = some ok → k ≠ i → (listed.setIfInBounds j true).getD k true = false →
        (∀ e ∈ ok.after, Region.binds mdA e = true → e.on ≠ i) → oi.apart ops ok = true := fun k ok hk hki hun hno => by
      refine hfree k ok hk hki ?_ hno
      by_cases hjk : j = k
      · subst hjk; exact hjun
      · rw [getD_set_ne true hjk] at hun; exact hun
    have inv' := inv.set hj hjn
    have IH := fun Γ' a' w' => ih (listed.setIfInBounds j true) Γ' a' w' inv' hfree' (ready_mono hr (Ne.symm hji))
    have hjr := ready_mono hj hji
    have hcomm : (listed.setIfInBounds j true).setIfInBounds i true = (listed.setIfInBounds i true).setIfInBounds j true := Array.setIfInBounds_comm _ _ hji
    have hone : ∀ k, k < n → k ≠ l → (kd k).isBig = false → listed.getD k true = false → listed.getD l false = false ∧ l ∉ Region.ready mdA ops listed := fun k h1 h2 h3 h4 => by
      rcases sd.ahead k h1 h2 with h | h
      · rw [h] at h3; cases h3
      · exact behind_spec inv _ k h (un_of h4)
    -- j is the late one: then i is big
    by_cases hjl : j = l
    · subst hjl
      obtain ⟨R, hR⟩ := sd.late
      cases hki : kd i with
      | late R' => exact absurd hki (sd.others i hin hil R')
      | small => exact absurd hj (hone i hin hil (by rw [hki]; rfl) hun).2
      | make S => exact absurd hj (hone i hin hil (by rw [hki]; rfl) hun).2
      | big =>
        unfold tStepx at H
        rw [hki] at H
        obtain ⟨v, hy, hK⟩ := H
        obtain ⟨oj', hoj', hj1⟩ := (hK.2 j hjr).2
        obtain rfl : oj' = oj := Option.some.inj (hoj'.symm.trans hoj)
        unfold tStepx at hj1 ⊢
        rw [hR] at hj1 ⊢
        obtain ⟨hw, R1, hm, hKj⟩ := hj1
        refine ⟨by rw [wanted_put oj' a oi.dst v ap1] at hw; exact hw, R1, (makes_put hsj ap1).1 hm, fun u w' hb hT => ?_⟩
        have hjs : j < listed.size := by rw [inv.size]; exact (Array.getElem?_eq_some_iff.1 hoj).1
        refine IH _ _ _ (Atx.late (Γ := Γ) (a := a) hjs hb) ?_
        unfold tStepx
        rw [hki]
        refine ⟨v, (YB_put hsi ap3).2 hy, ?_⟩
        rw [hcomm, ← Act.put_comm a v u ap2]
        exact hKj u w' hb hT
    -- j is another one
    have hkj : ∀ R, kd j ≠ .late R := sd.others j hjn hjl
    -- one instance behind i, for what j comes to
    obtain ⟨Γ0, a0, w0, hK0⟩ := ex _ listed Γ a w inv hun hat H
    cases hki : kd i with
    | late R' => exact absurd hki (sd.others i hin hil R')
    | small =>
      unfold tStepx at H
      rw [hki] at H
      obtain ⟨v, hy, hK⟩ := H
      obtain ⟨oj', hoj', hj1⟩ := (hK.2 j hjr).2
      obtain rfl : oj' = oj := Option.some.inj (hoj'.symm.trans hoj)
      have hlu := (hone i hin hil (by rw [hki]; rfl) hun).1
      have back : ∀ (Γ' : Facts) (u : Value) (w' : World) (S : Spec), rxAny ρ P ops base CB kd n L f ((listed.setIfInBounds i true).setIfInBounds j true) ((Γ.set oi.dst Spec.any).set oj'.dst S) ((a.put oi.dst v).put oj'.dst u) w' →
          tStepx ρ P ops base CB kd i oi (rxAny ρ P ops base CB kd n L f ((listed.setIfInBounds j true).setIfInBounds i true)) (Γ.set oj'.dst S) (a.put oj'.dst u) w' := by
        intro _ u w' S h
        unfold tStepx
        rw [hki]
        refine ⟨v, (YFx_put hsi ap3 ap3x).2 hy, ?_⟩
        rw [hcomm, ← Act.put_comm a v u ap2, ← Facts.set_comm ap2]; exact h
      cases hkj' : kd j with
      | late R => exact absurd hkj' (hkj R)
      | small =>
        unfold tStepx at hj1 ⊢
        rw [hkj'] at hj1 ⊢
        obtain ⟨u, hyj, hKj⟩ := hj1
        exact ⟨u, (YFx_put hsj ap1 ap1x).1 hyj, IH _ _ _ (hat.small hjl) (back Γ u w Spec.any hKj)⟩
      | make T =>
        unfold tStepx at hj1 ⊢
        rw [hkj'] at hj1 ⊢
        rw [seen_put ap1 ap1x] at hj1
        obtain ⟨hyj, hKj⟩ := hj1
        have hyj' := (YMx_put hsj ap1 ap1x).1 hyj
        exact ⟨hyj', fun u w' hb hT => IH _ _ _ (hat.make hlu hjl hsub hb hT hyj'.2.1) (back Γ u w' _ (hKj u w' hb hT))⟩
      | big =>
        unfold tStepx at hj1 ⊢
        rw [hkj'] at hj1 ⊢
        obtain ⟨u, hyj, hKj⟩ := hj1
        exact ⟨u, (YB_put hsj ap1).1 hyj, IH _ _ _ (hat.small hjl) (back Γ u w Spec.any hKj)⟩
    | big =>
      unfold tStepx at H
      rw [hki] at H
      obtain ⟨v, hy, hK⟩ := H
      obtain ⟨oj', hoj', hj1⟩ := (hK.2 j hjr).2
      obtain rfl : oj' = oj := Option.some.inj (hoj'.symm.trans hoj)
      have back : ∀ (Γ' : Facts) (u : Value) (w' : World) (S : Spec), rxAny ρ P ops base CB kd n L f ((listed.setIfInBounds i true).setIfInBounds j true) ((Γ.set oi.dst Spec.any).set oj'.dst S) ((a.put oi.dst v).put oj'.dst u) w' →
          tStepx ρ P ops base CB kd i oi (rxAny ρ P ops base CB kd n L f ((listed.setIfInBounds j true).setIfInBounds i true)) (Γ.set oj'.dst S) (a.put oj'.dst u) w' := by
        intro _ u w' S h
        unfold tStepx
        rw [hki]
        refine ⟨v, (YB_put hsi ap3).2 hy, ?_⟩
        rw [hcomm, ← Act.put_comm a v u ap2, ← Facts.set_comm ap2]; exact h
      cases hkj' : kd j with
      | late R => exact absurd hkj' (hkj R)
      | small =>
        unfold tStepx at hj1 ⊢
        rw [hkj'] at hj1 ⊢
        obtain ⟨u, hyj, hKj⟩ := hj1
        exact ⟨u, (YFx_put hsj ap1 ap1x).1 hyj, IH _ _ _ (hat.small hjl) (back Γ u w Spec.any hKj)⟩
      | make T =>
        have hlu := (hone j hjn hjl (by rw [hkj']; rfl) hjun).1
        unfold tStepx at hj1 ⊢
        rw [hkj'] at hj1 ⊢
        rw [seen_put ap1 ap1x] at hj1
        obtain ⟨hyj, hKj⟩ := hj1
        have hyj' := (YMx_put hsj ap1 ap1x).1 hyj
        exact ⟨hyj', fun u w' hb hT => IH _ _ _ (hat.make hlu hjl hsub hb hT hyj'.2.1) (back Γ u w' _ (hKj u w' hb hT))⟩
      | big =>
        unfold tStepx at hj1 ⊢
        rw [hkj'] at hj1 ⊢
        obtain ⟨u, hyj, hKj⟩ := hj1
        exact ⟨u, (YB_put hsj ap1).1 hyj, IH _ _ _ (hat.small hjl) (back Γ u w Spec.any hKj)⟩
    | make S =>
      have hlu := (hone i hin hil (by rw [hki]; rfl) hun).1
      obtain ⟨h1, h2, h3⟩ := hat.one hlu
      unfold tStepx at H
      rw [hki] at H
      obtain ⟨hy, hK⟩ := H
      obtain ⟨vs, ws, hbs, hSs⟩ := makes_exists (hy.2.2 w h1 (fun t _ ht => h2 t ht))
      obtain ⟨oj', hoj', hj1⟩ := ((hK vs ws hbs hSs).2 j hjr).2
      obtain rfl : oj' = oj := Option.some.inj (hoj'.symm.trans hoj)
      cases hkj' : kd j with
      | late R => exact absurd hkj' (hkj R)
      | small =>
        unfold tStepx at hj1 ⊢
        rw [hkj'] at hj1 ⊢
        obtain ⟨u, hyj, hKj⟩ := hj1
        have hyj' := (YFx_put hsj ap1 ap1x).1 hyj
        refine ⟨u, hyj', IH _ _ _ (hat.small hjl) ?_⟩
        unfold tStepx
        rw [hki]
        rw [seen_put ap3 ap3x]
        refine ⟨(YMx_put hsi ap3 ap3x).2 hy, fun v w' hb hS => ?_⟩
        rw [hcomm, ← Act.put_comm a v u ap2, ← Facts.set_comm ap2]
        obtain ⟨oj'', hoj'', hj2⟩ := ((hK v w' hb hS).2 j hjr).2
        obtain rfl : oj'' = oj' := Option.some.inj (hoj''.symm.trans hoj)
        unfold tStepx at hj2
        rw [hkj'] at hj2
        obtain ⟨u', hyj2, hKj2⟩ := hj2
        obtain rfl : u = u' := YFx_unique h1 (fun t _ ht => h2 t ht) (fun t _ ht => h2 t ht) hyj' ((YFx_put hsj ap1 ap1x).1 hyj2)
        exact hKj2
      | big =>
        unfold tStepx at hj1 ⊢
        rw [hkj'] at hj1 ⊢
        obtain ⟨u, hyj, hKj⟩ := hj1
        have hyj' := (YB_put hsj ap1).1 hyj
        refine ⟨u, hyj', IH _ _ _ (hat.small hjl) ?_⟩
        unfold tStepx
        rw [hki]
        rw [seen_put ap3 ap3x]
        refine ⟨(YMx_put hsi ap3 ap3x).2 hy, fun v w' hb hS => ?_⟩
        rw [hcomm, ← Act.put_comm a v u ap2, ← Facts.set_comm ap2]
        obtain ⟨oj'', hoj'', hj2⟩ := ((hK v w' hb hS).2 j hjr).2
        obtain rfl : oj'' = oj' := Option.some.inj (hoj''.symm.trans hoj)
        unfold tStepx at hj2
        rw [hkj'] at hj2
        obtain ⟨u', hyj2, hKj2⟩ := hj2
        obtain rfl : u = u' := YB_unique hat.big hyj' ((YB_put hsj ap1).1 hyj2)
        exact hKj2
      | make T =>
        unfold tStepx at hj1 ⊢
        rw [hkj'] at hj1 ⊢
        rw [seen_put ap1 ap1x] at hj1
        obtain ⟨hyj, hKj⟩ := hj1
        have hyj' := (YMx_put hsj ap1 ap1x).1 hyj
        refine ⟨hyj', fun u w' hb hT => IH _ _ _ (hat.make hlu hjl hsub hb hT hyj'.2.1) ?_⟩
        unfold tStepx
        rw [hki]
        rw [seen_put ap3 ap3x]
        refine ⟨(YMx_put hsi ap3 ap3x).2 hy, fun v w'' hb2 hS => ?_⟩
        rw [hcomm, ← Act.put_comm a v u ap2, ← Facts.set_comm ap2]
        have hbb : ρ.r w w'' := ρ.trans hb hb2
        obtain ⟨oj'', hoj'', hj2⟩ := ((hK v w'' hbb hS).2 j hjr).2
        obtain rfl : oj'' = oj' := Option.some.inj (hoj''.symm.trans hoj)
        unfold tStepx at hj2
        rw [hkj'] at hj2
        rw [seen_put ap1 ap1x] at hj2
        obtain ⟨_, hKj2⟩ := hj2
        exact hKj2 u w'' (ρ.refl _) (hyj'.2.1 _ _ _ hT hb2)

/-- the order of the text serves every order -/
theorem rx_lex (aft : Aft ops) {g : Nat} {Lq : Act → World → Prop} (sd : Sidesx ops kd l n) (hln : l + 1 = n) (L : Array Bool → Act → World → Prop)
    (hsub : ∀ w, ρ.r base w → CB w) (hdone : ∀ listed a w, L listed a w → ∀ j ∈ Region.ready mdA ops listed, n ≤ j)
    (hend : ∀ listed a w, Region.seqB mdA ops g n listed = true → Lq a w → L listed a w) :
    ∀ (ls : List Oper) (k : Nat) (listed : Array Bool) (Γ : Facts) (a : Act) (w : World), (∀ j, j < ls.length → ls[j]? = ops[k + j]?) → k + ls.length = n → HeadInv mdA ops n listed →
    Region.lexHead mdA ops g ls.length k listed = true → Region.ready mdA ops ((List.range (n - 1)).foldl (fun l i => l.setIfInBounds i true) (Array.replicate ops.size false)) = [l] →
    listed = (List.range k).foldl (fun l i => l.setIfInBounds i true) (Array.replicate ops.size false) →
    (k ≤ l → Atx ρ P base CB l listed Γ a w) → rxLex ρ P ops base CB kd Lq ls k Γ a w →
    rxAny ρ P ops base CB kd n L ls.length listed Γ a w
  | [], k, listed, Γ, a, w, _, hk, _, hB, _, _, _, h => by
    have : k = n := by simpa using hk
    subst this
    exact hend _ _ _ (by simpa [Region.lexHead] using hB) h
  | o :: ls, k, listed, Γ, a, w, hl, hk, inv, hB, hlast, hlisted, hat, h => by
    have h0 : ops[k]? = some o := by simpa using (hl 0 (by simp)).symm
    simp only [List.length_cons, Region.lexHead, Bool.and_eq_true] at hB
    obtain ⟨⟨hr, hf⟩, hB'⟩ := hB
    have hkn : k < n := by simp only [List.length_cons] at hk; omega
    have hr' : k ∈ Region.ready mdA ops listed := by simpa using hr
    have hls : (List.range (k + 1)).foldl (fun l i => l.setIfInBounds i true) (Array.replicate ops.size false) = listed.setIfInBounds k true := by
      rw [List.range_succ, List.foldl_append, ← hlisted]; rfl
    have hgo := fun Γ' a' w' => rx_lex aft sd hln L hsub hdone hend ls (k + 1) (listed.setIfInBounds k true) Γ' a' w' (fun j hj => by have := hl (j + 1) (by simp; omega); simpa [Nat.add_assoc, Nat.add_comm 1 j] using this)
      (by simp only [List.length_cons] at hk; omega) (inv.set hr' hkn) hB' hlast hls.symm
    have h' : tStepx ρ P ops base CB kd k o (rxLex ρ P ops base CB kd Lq ls (k + 1)) Γ a w := h
    by_cases hkl : k = l
    · -- the late one: nothing else is left
      subst hkl
      have hrd : Region.ready mdA ops listed = [k] := by rw [hlisted]; rw [← hln] at hlast; simpa using hlast
      refine ⟨by rw [hrd]; simp, fun j hj => ?_⟩
      rw [hrd] at hj
      obtain rfl : j = k := by simpa using hj
      refine ⟨hkn, o, h0, ?_⟩
      exact tStepx_mono (fun Γ' a' w' h2 => hgo Γ' a' w' (fun hh => by omega) h2) h'
    · have hkl' : k < l := by omega
      refine rx_first aft sd (by omega) h0 hkn hkl hsub hdone ls.length listed Γ a w inv (Region.free_spec h0 hf) hr' (hat (by omega)) ?_
      have hat' := hat (by omega)
      have hun := (mem_ready.1 hr').1
      have hlu : listed.getD l false = false := by
        rcases sd.ahead k hkn hkl with hb | hb
        · -- by what stands listed
          rw [hlisted]
          have : ∀ m, m ≤ l → ((List.range m).foldl (fun l i => l.setIfInBounds i true) (Array.replicate ops.size false)).getD l false = false := by
            intro m
            induction m with
            | zero => intro _; exact getD_replicate_false _ _
            | succ m ihm =>
              intro hm
              rw [List.range_succ, List.foldl_append]
              simp only [List.foldl_cons, List.foldl_nil]
              rw [getD_set_other (by omega)]
              exact ihm (by omega)
          exact this k (by omega)
        · exact (behind_spec inv _ k hb (un_of hun)).1
      unfold tStepx at h' ⊢
      split at h'
      · rename_i hkk
        obtain ⟨v, h1, h2⟩ := h'
        exact ⟨v, h1, hgo _ _ _ (fun _ => hat'.small hkl) h2⟩
      · rename_i S hkk
        exact ⟨h'.1, fun v w' hb hS => hgo _ _ _ (fun _ => hat'.make hlu hkl hsub hb hS h'.1.2.1) (h'.2 v w' hb hS)⟩
      · rename_i hkk
        obtain ⟨v, h1, h2⟩ := h'
        exact ⟨v, h1, hgo _ _ _ (fun _ => hat'.small hkl) h2⟩
      · rename_i R hkk
        exact absurd hkk (sd.others k hkn hkl R)
end

section
variable {P : Program} {id : Nat} {Q : Exit → Act → World → Prop} {a : Act} {w : World} {ls : List Oper}
def kindsOfx (big : List Nat) (mk : Nat → Option ((Nat → Value) → Spec)) (n : Nat) (R : Spec) (i : Nat) : Kindx :=
  if i = n - 1 then .late R else if big.contains i then .big else match mk i with
    | some S => .make S
    | none => .small

/-- **A region that draws; the first n operations, the last of which changes what was there; then the forced tail.** -/
theorem wp_region_latex (ρ : Grow) (n : Nat) (big : List Nat) (mk : Nat → Option ((Nat → Value) → Spec)) (CB : World → Prop) (R : Spec) (hm : P.follows .mixedOrders = true) (hB : (lateB ls.toArray big n && aftB ls.toArray) = true)
    (hsub : ∀ b, b.heap = w.heap → Below w.heap.size w b → ∀ w', ρ.r b w' → CB w')
    (h : ∀ b, Below w.heap.size w b → b.heap = w.heap → rxLex ρ P ls.toArray b CB (kindsOfx big mk n R) (fun a' w' => wpList P ls.toArray Q (ls.drop n) a' w') (ls.take n) 0 Facts.empty a b) :
    (Code.region id ls.toArray true).wp P Q a w := by
  obtain ⟨hB, haft⟩ := Bool.and_eq_true_iff.1 hB
  have aft := aftB_spec haft
  simp only [lateB, Bool.and_eq_true, decide_eq_true_eq] at hB
  obtain ⟨⟨⟨hB1, hpos⟩, hlast⟩, hbig⟩ := hB
  simp only [Region.lexTailB, Bool.and_eq_true, decide_eq_true_eq] at hB1
  obtain ⟨⟨⟨⟨hsel, hn⟩, hs⟩, hc⟩, hlex⟩ := hB1
  have htl : (ls.take n).length = n := by simp at hn; simp; omega
  have hdl : (ls.drop n).length = ls.toArray.size - n := by simp
  have inv0 : HeadInv .any ls.toArray n (Array.replicate ls.toArray.size false) :=
    ⟨by simp, fun j oj _ hl => (by rw [getD_replicate_false] at hl; cases hl), fun t _ ht => getD_in (by simpa using ht) (getD_replicate_false _ _)⟩
  have sd : Sidesx ls.toArray (kindsOfx big mk n R) (n - 1) n := by
    refine ⟨Region.noSelect_spec hsel, fun i hin listed inv hun j hj => ?_, fun i hin hil => ?_, ⟨R, by simp [kindsOfx]⟩, fun i hin hil R' => ?_⟩
    · rcases Nat.lt_or_ge j n with h | h
      · exact h
      · exact absurd hj (tail_waits hs hc hn inv _ i rfl hin hun j h)
    · have := List.all_eq_true.1 hbig i (List.mem_range.2 (by omega))
      simp only [Bool.or_eq_true] at this
      rcases this with h | h
      · left
        unfold kindsOfx
        rw [if_neg hil, if_pos h]
        rfl
      · exact .inr h
    · unfold kindsOfx
      rw [if_neg hil]
      split
      · intro h; cases h
      · split <;> (intro h; cases h)
  have hw0 : Below w.heap.size w { w with drawn := w.drawn + 1 } := (Below.refl _ w).drew
  have H := rx_lex (ρ := ρ) aft (g := ls.toArray.size - n) (Lq := fun a' w' => wpList P ls.toArray Q (ls.drop n) a' w') sd (by omega)
    (fun listed' a' w' => Region.seqB .any ls.toArray (ls.toArray.size - n) n listed' = true ∧ wpList P ls.toArray Q (ls.drop n) a' w')
    (fun w' h' => hsub { w with drawn := w.drawn + 1 } rfl hw0 w' h') (fun listed a w hL => seqB_ready hL.1) (fun _ _ _ h1 h2 => ⟨h1, h2⟩)
    (ls.take n) 0 _ Facts.empty a { w with drawn := w.drawn + 1 } (fun j hj => by
      have hj' : j < n := by rw [htl] at hj; exact hj
      simp [hj']) (by simpa using htl) inv0 (by rw [htl]; exact hlex) hlast rfl
    (fun _ => ⟨hsub { w with drawn := w.drawn + 1 } rfl hw0 _ (ρ.refl _), fun _ => ⟨ρ.refl _, Facts.empty_ok _ _, (Facts.empty_stab ρ)⟩⟩)
    (h { w with drawn := w.drawn + 1 } hw0 rfl)
  refine wp_region_any hm ?_
  have := wpAny_of_rx (ρ := ρ) (Q := Q) (g := ls.toArray.size - n) sd (by omega) (fun w' h' => hsub { w with drawn := w.drawn + 1 } rfl hw0 w' h') (fun listed a' w' hL => by
    have := wpAny_of_seq (Q' := Q) (ls.drop n) n listed a' w' (fun j => by simp [List.getElem?_drop]) (by rw [hdl]; exact hL.1) hL.2
    rwa [hdl] at this) _ _ _ _ _ inv0 ⟨hsub { w with drawn := w.drawn + 1 } rfl hw0 _ (ρ.refl _), fun _ => ⟨ρ.refl _, Facts.empty_ok _ _, (Facts.empty_stab ρ)⟩⟩ H
  rw [htl, show n + (ls.toArray.size - n) = ls.toArray.size by simp at hn; simp; omega] at this
  exact this

variable {ρ : Grow} {ops : Array Oper} {b : World} {q : Act → World → Prop} {o : Oper} {rest : List Oper} {k : Nat} {Γ : Facts} {CB : World → Prop} {kd : Nat → Kindx}
theorem rx_nil (h : q a w) : rxLex ρ P ops b CB kd q [] k Γ a w := h
theorem rx_small (v : Value) (hs : kd k = .small) (hw : Region.wanted o (yielded ops a.tmps) = true)
    (h : ∀ w1, ρ.r b w1 → facts2 ops o Γ a w1 → (execOp a.eval o).run P w1 = .ok (.value v) w1)
    (hn : rxLex ρ P ops b CB kd q rest (k + 1) (Γ.set o.dst Spec.any) (a.put o.dst v) w) : rxLex ρ P ops b CB kd q (o :: rest) k Γ a w := by
  show tStepx _ _ _ _ _ _ _ _ _ _ _ _
  unfold tStepx
  rw [hs]
  exact ⟨v, .inl ⟨hw, h⟩, hn⟩
theorem rx_big (v : Value) (hs : kd k = .big) (hw : Region.wanted o (yielded ops a.tmps) = true) (h : ∀ w1, CB w1 → (execOp a.eval o).run P w1 = .ok (.value v) w1)
    (hn : rxLex ρ P ops b CB kd q rest (k + 1) (Γ.set o.dst Spec.any) (a.put o.dst v) w) : rxLex ρ P ops b CB kd q (o :: rest) k Γ a w := by
  show tStepx _ _ _ _ _ _ _ _ _ _ _ _
  unfold tStepx
  rw [hs]
  exact ⟨v, .inl ⟨hw, h⟩, hn⟩
theorem rx_move (x : Operand) (ho : o.op = .move x ∨ o.op = .assign x) (hs : kd k = .small ∨ kd k = .big) (hw : Region.wanted o (yielded ops a.tmps) = true)
    (hn : rxLex ρ P ops b CB kd q rest (k + 1) (Γ.set o.dst Spec.any) (a.put o.dst (a.eval x)) w) : rxLex ρ P ops b CB kd q (o :: rest) k Γ a w := by
  rcases hs with hs | hs
  · exact rx_small (a.eval x) hs hw (fun w1 _ _ => by rcases ho with h | h <;> simp [execOp, h]) hn
  · exact rx_big (a.eval x) hs hw (fun w1 _ => by rcases ho with h | h <;> simp [execOp, h]) hn
theorem rx_make (S : (Nat → Value) → Spec) (hs : kd k = .make S) (hst : Spec.stab ρ (S (seen ops o a))) (hw : Region.wanted o (yielded ops a.tmps) = true)
    (h : ∀ w1, ρ.r b w1 → facts2 ops o Γ a w1 → makes P o a w1 fun v w' => ρ.r w1 w' ∧ S (seen ops o a) v w')
    (hn : ∀ v w', ρ.r w w' → S (seen ops o a) v w' → rxLex ρ P ops b CB kd q rest (k + 1) (Γ.set o.dst (S (seen ops o a))) (a.put o.dst v) w') : rxLex ρ P ops b CB kd q (o :: rest) k Γ a w := by
  show tStepx _ _ _ _ _ _ _ _ _ _ _ _
  unfold tStepx
  rw [hs]
  exact ⟨⟨hw, hst, h⟩, hn⟩
theorem rx_late (R R0 : Spec) (hs : kd k = .late R0) (hw : Region.wanted o (yielded ops a.tmps) = true) (h : makes P o a w fun v w' => CB w' ∧ R v w')
    (hn : ∀ v w', CB w' → R v w' → rxLex ρ P ops b CB kd q rest (k + 1) Γ (a.put o.dst v) w') : rxLex ρ P ops b CB kd q (o :: rest) k Γ a w := by
  show tStepx _ _ _ _ _ _ _ _ _ _ _ _
  unfold tStepx
  rw [hs]
  exact ⟨hw, R, h, hn⟩
theorem rx_skip (hs : kd k = .small ∨ kd k = .big) (hw : Region.wanted o (yielded ops a.tmps) = false)
    (hn : rxLex ρ P ops b CB kd q rest (k + 1) (Γ.set o.dst Spec.any) (a.put o.dst undef) w) : rxLex ρ P ops b CB kd q (o :: rest) k Γ a w := by
  show tStepx _ _ _ _ _ _ _ _ _ _ _ _
  unfold tStepx
  rcases hs with hs | hs <;> rw [hs] <;> exact ⟨undef, .inr ⟨hw, rfl⟩, hn⟩
end
end Go.RG
namespace Go.Hp
open Go.RowKit Go.RG
/-- of the old blocks, cell j of block k may have got the value y where S k j y -/
structure SetsR (S : Nat → Nat → Value → Prop) (w w' : World) : Prop where
  os : w'.os = w.os
  tape : w'.tape = w.tape
  output : w'.output = w.output
  size : w.heap.size ≤ w'.heap.size
  block : ∀ k, k < w.heap.size → w'.heap[k]? = w.heap[k]? ∨ ((∃ j y, S k j y) ∧ ∃ (L L' : List Value) (ty : TypeId), w.heap[k]? = some (.cells L.toArray ty (0, 0)) ∧ w'.heap[k]? = some (.cells L'.toArray ty (0, 0)) ∧ L'.length = L.length ∧ ∀ j, L'[j]? = L[j]? ∨ ∃ y, L'[j]? = some y ∧ S k j y)
theorem SetsR.refl (S : Nat → Nat → Value → Prop) (w : World) : SetsR S w w := ⟨rfl, rfl, rfl, Nat.le_refl _, fun _ _ => .inl rfl⟩
theorem SetsR.trans {S : Nat → Nat → Value → Prop} {a b c : World} (h : SetsR S a b) (k : SetsR S b c) : SetsR S a c := by
  refine ⟨k.os.trans h.os, k.tape.trans h.tape, k.output.trans h.output, Nat.le_trans h.size k.size, fun i hi => ?_⟩
  rcases h.block i hi with e1 | ⟨hs, L, L', ty, h1, h2, h3, h4⟩ <;> rcases k.block i (Nat.lt_of_lt_of_le hi h.size) with e2 | ⟨hs', M, M', ty', k1, k2, k3, k4⟩
  · exact .inl (e2.trans e1)
  · exact .inr ⟨hs', M, M', ty', e1.symm.trans k1, k2, k3, k4⟩
  · exact .inr ⟨hs, L, L', ty, h1, e2.trans h2, h3, h4⟩
  · have e := h2.symm.trans k1
    injection e with e
    injection e with e1 e2
    have e1 := Array.toList_inj.2 e1
    simp only at e1
    subst e1 e2
    refine .inr ⟨hs, L, M', ty, h1, k2, k3.trans h3, fun j => ?_⟩
    rcases k4 j with e | h
    · rw [e]; exact h4 j
    · exact .inr h
theorem SetsR.of_below {S : Nat → Nat → Value → Prop} {w w' : World} (h : Below w.heap.size w w') : SetsR S w w' := ⟨h.os, h.tape, h.output, h.size, fun k hk => .inl (h.block k hk)⟩
theorem SetsR.mono {S T : Nat → Nat → Value → Prop} {w w' : World} (h : SetsR S w w') (hS : ∀ k j y, S k j y → T k j y) : SetsR T w w' :=
  ⟨h.os, h.tape, h.output, h.size, fun k hk => (h.block k hk).imp id fun ⟨⟨j, y, e⟩, L, L', ty, h1, h2, h3, h4⟩ => ⟨⟨j, y, hS k j y e⟩, L, L', ty, h1, h2, h3, fun j => (h4 j).imp id fun ⟨y, e1, e2⟩ => ⟨y, e1, hS k j y e2⟩⟩⟩
theorem SetsR.ext {S : Nat → Nat → Value → Prop} {w w' : World} (h : SetsR S w w') : Ext (fun k => ∃ j y, S k j y) w w' :=
  ⟨h.os, h.tape, h.output, h.size, fun k hk hn => (h.block k hk).elim id fun h => absurd h.1 hn⟩
theorem SetsR.cell {S : Nat → Nat → Value → Prop} {w w' : World} (h : SetsR S w w') {p : Addr} {v : Value} (hc : w.cell? p = some v) (hn : ∀ j y, ¬ S p.block j y) : w'.cell? p = some v :=
  h.ext.cell_some hc fun ⟨j, y, e⟩ => hn j y e
theorem SetsR.heap {S : Nat → Nat → Value → Prop} {w w' : World} (h : SetsR S w w') {k : Nat} {o : Obj} (hc : w.heap[k]? = some o) (hn : ∀ j y, ¬ S k j y) : w'.heap[k]? = some o :=
  h.ext.heap hc fun ⟨j, y, e⟩ => hn j y e
/-- that growth -/
def growS (S : Nat → Nat → Value → Prop) : Grow := ⟨SetsR S, SetsR.refl S, SetsR.trans⟩
theorem SetsR.owns {S : Nat → Nat → Value → Prop} {w w' : World} (h : SetsR S w w') {base e size n : Nat} {v : Value} {xs : List Value} (ho : w.ownsRow base e size v n xs)
    (hS : ∀ k j y, v.ownBlock = some k → S k j y → n * size ≤ j ∨ xs[j]? = some y) : w'.ownsRow base e size v n xs := by
  obtain ⟨h1, h2⟩ := ho
  refine ⟨h1, ?_⟩
  rcases h2 with h2 | ⟨g, cap, cur, rfl, hg, hh, hn, hc, hs, ht⟩
  · exact .inl h2
  · right
    have hlt := block_lt_of_heap hh
    rcases h.block g hlt with e1 | ⟨-, L, L', ty, k1, k2, k3, k4⟩
    · exact ⟨g, cap, cur, rfl, hg, e1.trans hh, hn, hc, hs, ht⟩
    · rw [hh] at k1
      injection k1 with k1
      injection k1 with k1 k5
      subst k1 k5
      refine ⟨g, cap, L'.toArray, rfl, hg, k2, hn, hc, by simpa [k3] using hs, ?_⟩
      simp only at ht hs ⊢
      refine List.ext_getElem? fun j => ?_
      rcases Nat.lt_or_ge j (n * size) with hj | hj
      · have e0 : L[j]? = xs[j]? := by rw [← ht, List.getElem?_take_of_lt hj]
        rw [List.getElem?_take_of_lt hj]
        rcases k4 j with e | ⟨y, e, hy⟩
        · rw [e, e0]
        · rcases hS g j y rfl hy with h | h
          · omega
          · rw [e, h]
      · rw [List.getElem?_eq_none (by rw [List.length_take]; omega), List.getElem?_eq_none (by omega)]
section
variable {P : Program}
/-- append onto a row of one's own -/
theorem append_gen (w : World) (B : Nat) (t ty e : TypeId) (i : TypeInfo) (z : Value) (size bytes : Nat) (ht : P.underlying t = some (.slice e)) (hi : P.info? e = some i) (hz : i.zero = some z)
    (hsize : i.size = size) (hby : i.bytes = bytes) (hzs : z.cells.size = size) (hsz : 0 < size)
    (v : Value) (n : Nat) (xs : List Value) (hown : w.ownsRow B e size v n xs) (a : Addr) (m c : Nat) (news : List Value) (hl : news.length = m * size) (hnews : ∀ j u, news[j]? = some u → w.cell? (a.add j) = some u)
    (h1 : ∀ u ∈ news, u.oneCell' = true) (h63 : n + m ≤ maxLen) (hbytes : (n + m) * bytes ≤ 140737488355328) (hB : B ≤ w.heap.size) :
    ∃ v' w', (Builtin.append_ #[t, t] ty #[v, .slice (some a) m c]).run P w = .ok v' w' ∧ w'.ownsRow B e size v' (n + m) (xs ++ news) ∧
      SetsR (fun k j y => v.ownBlock = some k ∧ n * size ≤ j ∧ news[j - n * size]? = some y) w w' ∧ (∀ k, v'.ownBlock = some k → v.ownBlock = some k ∨ w.heap.size ≤ k) := by
  rcases hown.2 with ⟨hv, hn0⟩ | ⟨g', cap, cur, hv, hg', hh, hnc, hcm, hcs, hct⟩
  · subst hv hn0
    obtain ⟨v', w', r1, r2, r3, -⟩ := run_append_own (P := P) w w.heap.size t ty e i z size bytes ht hi hz hsize hby hzs hsz (.slice none 0 0) 0 xs (owns_base hown (fun k hk => by cases hk)) a m c news hl hnews h1 h63 hbytes (Nat.le_refl _)
    exact ⟨v', w', r1, owns_base r2 (fun k hk => Nat.le_trans hB (r2.lt k hk).1), .of_below ⟨r3.os, r3.tape, r3.output, r3.size, fun k hk => r3.block k hk (by intro h; cases h)⟩, fun k hk => .inr (r2.lt k hk).1⟩
  · subst hv
    obtain ⟨v', w', hr, r2, r3, -⟩ := run_append_own (P := P) w B t ty e i z size bytes ht hi hz hsize hby hzs hsz _ n xs hown a m c news hl hnews h1 h63 hbytes hB
    by_cases hroom : n + m ≤ cap
    · have hfit : n * size + news.length ≤ cur.size := by
        rw [hl, hcs, ← Nat.add_mul]
        exact Nat.mul_le_mul_right size hroom
      have hr2 := run_append_room (P := P) w t ty e i ht hi g' n cap cur hh a m c news (by rw [hl, hsize]) hnews h1 hroom (by rw [hsize]; exact hfit)
      rw [hr2] at hr
      injection hr with hv hw
      subst hv hw
      refine ⟨_, _, hr2, r2, ?_, fun k hk => .inl hk⟩
      have hlt := block_lt_of_heap hh
      rw [hsize] at *
      refine ⟨rfl, rfl, rfl, by simp, fun k hk => ?_⟩
      by_cases hkg : k = g'
      · subst hkg
        rcases Nat.eq_zero_or_pos news.length with h0 | h0
        · left
          obtain rfl := List.eq_nil_of_length_eq_zero h0
          rw [setRow_heap w k cur _ e (0, 0) hh, hh]
          simp
        refine .inr ⟨⟨n * size, news[0], rfl, Nat.le_refl _, by simp⟩, cur.toList, _, e, by simpa using hh, setRow_heap w k cur _ e (0, 0) hh, ?_, fun j => ?_⟩
        · simp only [List.length_append, List.length_take, List.length_drop, Array.length_toList]; omega
        · have hc : (cur.toList.take (n * size)).length = n * size := by rw [List.length_take, Array.length_toList]; omega
          rcases Nat.lt_or_ge j (n * size) with hj | hj
          · left
            rw [List.append_assoc, List.getElem?_append_left (by omega), List.getElem?_take_of_lt hj]
          · rcases Nat.lt_or_ge j (n * size + news.length) with hj2 | hj2
            · right
              refine ⟨news[j - n * size], ?_, rfl, hj, List.getElem?_eq_getElem (by omega)⟩
              rw [List.append_assoc, List.getElem?_append_right (by omega), hc, List.getElem?_append_left (by omega), List.getElem?_eq_getElem (by omega)]
            · left
              rw [List.getElem?_append_right (by rw [List.length_append]; omega), List.length_append, hc, List.getElem?_drop]
              congr 1
              omega
      · exact .inl (setRow_other w g' k _ hkg)
    · have hr2 := run_append_grow (P := P) w t ty e i z ht hi hz ⟨g', 0, none⟩ n cap xs (by rw [hsize]; exact hown.1) (hown.cells (g := g') rfl) a m c news (by rw [hl, hsize]) hnews (by omega) (by unfold maxLen at h63; omega) (growslice_fits (by omega) (by rw [hby]; exact hbytes))
      rw [hr2] at hr
      injection hr with hv hw
      subst hv hw
      refine ⟨_, _, hr2, r2, .of_below (((Below.refl _ w).drew).alloc (Nat.le_refl _) _), fun k hk => .inr ?_⟩
      have hk : w.heap.size = k := Option.some.inj hk
      omega
end
end Go.Hp
namespace Go.Proofs.YtbjofbhhnmehgaaGreatDoor.TT
open Go.RowKit Go.RG Go.Hp Go.Proofs.YtbjofbhhnmehgaaGreatDoor


/-- a log that is open -/
structure LogS where
  head : Head
  next : Nat
  starts : List Nat
  epochs : List Nat
  fallen : Bool
/-- its blocks -/
structure LBk where
  l : Nat
  s : Value
  e : Value
def LBk.all (k : LBk) (j : Nat) : Prop := j = k.l ∨ k.s.ownBlock = some j ∨ k.e.ownBlock = some j
def logCells (d first size : Nat) (k : LBk) (L : LogS) : Array Value :=
  #[.pointer (some ⟨d, 0, none⟩), .int .i64 first, .int .i64 size, .int .u64 L.head.gen, .int .u64 L.head.epoch, .int .u64 L.head.first, .int .u64 L.head.least, .int .u64 L.next, k.s, k.e, .bool L.fallen]
structure LogAt (w : World) (d first size : Nat) (k : LBk) (L : LogS) : Prop where
  cells : w.heap[k.l]? = some (.cells (logCells d first size k L) 134 (0, 0))
  starts : w.ownsRow 0 28 1 k.s L.starts.length (nums L.starts)
  epochs : w.ownsRow 0 28 1 k.e L.epochs.length (nums L.epochs)
  ne1 : k.s.ownBlock ≠ some k.l
  ne2 : k.e.ownBlock ≠ some k.l
  ne3 : ∀ j, k.s.ownBlock = some j → k.e.ownBlock ≠ some j
  far : ∀ j, k.all j → 10 ≤ j
theorem LogAt.keep {w w' : World} {d first size : Nat} {k : LBk} {L : LogS} (h : LogAt w d first size k L) (hk : ∀ j, k.all j → w'.heap[j]? = w.heap[j]?) : LogAt w' d first size k L :=
  ⟨(hk _ (.inl rfl)).trans h.cells, owns_of_block h.starts fun j e => hk j (.inr (.inl e)), owns_of_block h.epochs fun j e => hk j (.inr (.inr e)), h.ne1, h.ne2, h.ne3, h.far⟩
theorem LogAt.lt {w : World} {d first size : Nat} {k : LBk} {L : LogS} (h : LogAt w d first size k L) : ∀ j, k.all j → j < w.heap.size := by
  rintro j (rfl | e | e)
  · exact block_lt_of_heap h.cells
  · exact owns_lt h.starts e
  · exact owns_lt h.epochs e
theorem LogAt.below {w w' : World} {d first size : Nat} {k : LBk} {L : LogS} (h : LogAt w d first size k L) (hb : Below w.heap.size w w') : LogAt w' d first size k L := h.keep fun j hj => hb.block j (h.lt j hj)
theorem LogAt.ext {w w' : World} {d first size : Nat} {k : LBk} {L : LogS} {S : Nat → Prop} (h : LogAt w d first size k L) (hX : Ext S w w') (hS : ∀ j, k.all j → ¬ S j) : LogAt w' d first size k L := h.keep fun j hj => hX.block j (h.lt j hj) (hS j hj)
theorem box11 {w : World} {g : Nat} {c : Array Value} {t : TypeId} (h : w.heap[g]? = some (.cells c t (0, 0))) (j : Nat) (v : Value) (hv : c[j]? = some v) : w.cell? ⟨g, j, none⟩ = some v := by
  simp [World.cell?, h, hv]
theorem LogAt.cs {w : World} {d first size : Nat} {k : LBk} {L : LogS} (h : LogAt w d first size k L) :
    w.cell? ⟨k.l, 0, none⟩ = some (.pointer (some ⟨d, 0, none⟩)) ∧ w.cell? ⟨k.l, 1, none⟩ = some (.int .i64 first) ∧ w.cell? ⟨k.l, 2, none⟩ = some (.int .i64 size) ∧ w.cell? ⟨k.l, 3, none⟩ = some (.int .u64 L.head.gen) ∧
    w.cell? ⟨k.l, 4, none⟩ = some (.int .u64 L.head.epoch) ∧ w.cell? ⟨k.l, 5, none⟩ = some (.int .u64 L.head.first) ∧ w.cell? ⟨k.l, 6, none⟩ = some (.int .u64 L.head.least) ∧ w.cell? ⟨k.l, 7, none⟩ = some (.int .u64 L.next) ∧
    w.cell? ⟨k.l, 8, none⟩ = some k.s ∧ w.cell? ⟨k.l, 9, none⟩ = some k.e ∧ w.cell? ⟨k.l, 10, none⟩ = some (.bool L.fallen) ∧ ∀ j, w.frozen? ⟨k.l, j, none⟩ = false :=
  ⟨box11 h.cells 0 _ rfl, box11 h.cells 1 _ rfl, box11 h.cells 2 _ rfl, box11 h.cells 3 _ rfl, box11 h.cells 4 _ rfl, box11 h.cells 5 _ rfl, box11 h.cells 6 _ rfl, box11 h.cells 7 _ rfl, box11 h.cells 8 _ rfl, box11 h.cells 9 _ rfl, box11 h.cells 10 _ rfl,
   fun j => by simp [World.frozen?, h.cells]⟩
/-- the head's cells are others; the rows are as they were -/
theorem LogAt.heads {w w' : World} {d first size : Nat} {k : LBk} {L L' : LogS} (h : LogAt w d first size k L) (hX : Ext (· = k.l) w w') (hc : w'.heap[k.l]? = some (.cells (logCells d first size k L') 134 (0, 0)))
    (hs : L'.starts = L.starts) (he : L'.epochs = L.epochs) : LogAt w' d first size k L' :=
  ⟨hc, by rw [hs]; exact owns_ext h.starts hX fun j e e2 => h.ne1 (by rw [← e2]; exact e), by rw [he]; exact owns_ext h.epochs hX fun j e e2 => h.ne2 (by rw [← e2]; exact e), h.ne1, h.ne2, h.ne3, h.far⟩
theorem heap_cell {w : World} {g j : Nat} {c : Array Value} {t : TypeId} (h : w.heap[g]? = some (.cells c t (0, 0))) (v : Value) : (w.setCell ⟨g, j, none⟩ v).heap[g]? = some (.cells (c.setIfInBounds j v) t (0, 0)) := heap_set v h
def LogS.fall (L : LogS) (now : Bool) : LogS := { L with fallen := L.fallen || now }
def fallE (b : Bool) : Int := if b then 5 else 0
set_option maxRecDepth 100000 in
theorem falls_any (d first size : Nat) (k : LBk) (L : LogS) (now : Bool) (w : World) (h : LogAt w d first size k L) :
    Calls Tryz.prog 87 #[.pointer (some ⟨k.l, 0, none⟩), .bool now] w fun e w' => e = .returned (.int .i64 (fallE (L.fallen || now))) ∧ LogAt w' d first size k (L.fall now) ∧ Ext (· = k.l) w w' := by
  obtain ⟨-, -, -, -, -, -, -, -, -, -, c10, fr⟩ := h.cs
  have hX := Ext.setCell (S := (· = k.l)) (w := w) (p := ⟨k.l, 10, none⟩) rfl (.bool (L.fallen || now))
  have hc := heap_cell (j := 10) h.cells (.bool (L.fallen || now))
  have hL := h.heads (L' := L.fall now) hX (by rw [hc]; rfl) rfl rfl
  have HL := Lib.hid (And.intro hL hX)
  clear hX hc hL h
  cases hf : L.fallen <;> cases hn : now <;> rw [hf, hn] at HL <;> rw [hf] at c10 <;> (
    have Hf := Lib.hid hf; clear hf
    go_enter Tryz.func87, Tryz.ntmps87
    go_wp2_with fail
    go_ret
    exact ⟨rfl, HL.out.1, HL.out.2⟩)
set_option maxRecDepth 100000 in
theorem epoch_any (d first size : Nat) (k : LBk) (L : LogS) (w : World) (h : LogAt w d first size k L) : Calls Tryz.prog 71 #[.pointer (some ⟨k.l, 0, none⟩)] w fun e w' => e = .returned (.int .u64 L.head.epoch) ∧ w = w' := by
  obtain ⟨-, -, -, -, c4, -, -, -, -, -, -, -⟩ := h.cs
  clear h
  go_enter Tryz.func71, Tryz.ntmps71
  go_wp2_with fail
  go_ret
  exact ⟨rfl, rfl⟩
/-- a log's bounds -/
structure LogS.ok (L : LogS) (size : Nat) : Prop where
  gen : L.head.gen < 281474976710656
  epoch : L.head.epoch < 281474976710656
  first : L.head.first ≤ 281474976710656
  least : L.head.least < 281474976710656
  next : L.next ≤ 281474976710656
  order : L.head.first ≤ L.next
  ring : L.next - L.head.first ≤ size - 2
  rise : L.starts.Pairwise (· < ·)
  len : L.epochs.length = L.starts.length
  short : L.starts.length ≤ 65536
  low : ∀ n ∈ L.starts, L.head.first ≤ n ∧ n < L.next
  ep : ∀ n ∈ L.epochs, n ≤ L.head.epoch
def LogS.free (L : LogS) (size : Nat) : Nat := size - 2 - (L.next - L.head.first)
set_option maxRecDepth 100000 in
theorem free_any (d first size : Nat) (k : LBk) (L : LogS) (w : World) (h : LogAt w d first size k L) (h2 : 2 < size) (hs : size ≤ 65536) (ho : L.ok size) : Calls Tryz.prog 63 #[.pointer (some ⟨k.l, 0, none⟩)] w fun e w' => e = .returned (.int .i64 (L.free size)) ∧ Below w.heap.size w w' := by
  obtain ⟨c0, -, c2, -, -, c5, -, c7, -, -, -, -⟩ := h.cs
  have o1 := ho.first
  have o2 := ho.next
  have o3 := ho.order
  have o4 := ho.ring
  have e1 := IntWalk.i64_in ((size : Int) - 2) (by omega)
  have e2 := IntWalk.u64_in ((L.next : Int) - (L.head.first : Int)) (by omega)
  have e3 := IntWalk.i64_in ((L.next : Int) - (L.head.first : Int)) (by omega)
  have e4 := IntWalk.i64_in ((size : Int) - 2 - ((L.next : Int) - (L.head.first : Int))) (by omega)
  have hf : (L.free size : Int) = (size : Int) - 2 - ((L.next : Int) - (L.head.first : Int)) := by unfold LogS.free; omega
  have Hf := Lib.hid hf
  clear hf h ho
  go_enter Tryz.func63, Tryz.ntmps63
  go_wp2_with fail
  refine wp_region_rg (fun _ => none) fol (by kernel_rfl) (fun W hW hh => ?_)
  clear hh
  have r2 := rcell hW c2
  have r5 := rcell hW c5
  have r7 := rcell hW c7
  clear c0 c2 c5 c7
  repeat ((first | refine lex_move _ (by first | exact Or.inl rfl | exact Or.inr rfl) rfl rfl ?_ | (refine lex_float ?_ rfl rfl (fun w1 hb1 hf1 => ?_) ?_; rotate_left; (go_simp; (try simp (disch := omega) only [IntWalk.i64_quo, IntWalk.rem_in, IntWalk.i64_in, IntWalk.u64_in, IntWalk.u32_in, IntWalk.u8_in, IntWalk.toNatUp, IntWalk.iteOmega]); (try go_simp); rfl)) | refine lex_skip rfl ?_); simp only [Act.put, Act.eval, Array.getD_eq_getD_getElem?, List.getElem?_toArray, List.getElem?_cons_zero, List.getElem?_cons_succ, Option.getD_some, List.setIfInBounds_toArray, List.set_cons_succ, List.set_cons_zero])
  refine lex_nil ?_
  clear r2 r5 r7
  go_wp2_with fail
  go_ret
  exact ⟨by rw [Hf.out]; simp, hW⟩
/-- the whole: disk, package variables, log -/
structure LSys (w : World) (b : Bks) (x : Dsk) (N first size : Nat) (k : LBk) (L : LogS) : Prop where
  sys : Sys w b x N
  log : LogAt w b.d first size k L
  apart : ∀ j, k.all j → ¬ b.all j
  big : 2 < size
  fit : first + size ≤ x.dur.length
theorem LSys.below {w w' : World} {b : Bks} {x : Dsk} {N first size : Nat} {k : LBk} {L : LogS} (h : LSys w b x N first size k L) (hb : Below w.heap.size w w') : LSys w' b x N first size k L :=
  ⟨h.sys.below hb, h.log.below hb, h.apart, h.big, h.fit⟩
theorem LSys.ext {w w' : World} {b : Bks} {x : Dsk} {N first size : Nat} {k : LBk} {L : LogS} {S : Nat → Prop} (h : LSys w b x N first size k L) (hX : Ext S w w') (hS : ∀ j, S j → 10 ≤ j ∧ ¬ b.all j ∧ ¬ k.all j) : LSys w' b x N first size k L :=
  ⟨h.sys.ext hX fun j hj => ⟨(hS j hj).1, (hS j hj).2.1⟩, h.log.ext hX fun j hj hs => (hS j hs).2.2 hj, h.apart, h.big, h.fit⟩
theorem LSys.mono {w : World} {b : Bks} {x : Dsk} {N M first size : Nat} {k : LBk} {L : LogS} (h : LSys w b x N first size k L) (hm : N ≤ M) : LSys w b x M first size k L := ⟨h.sys.mono hm, h.log, h.apart, h.big, h.fit⟩
theorem LSys.le {w : World} {b : Bks} {x : Dsk} {N first size : Nat} {k : LBk} {L : LogS} (h : LSys w b x N first size k L) : first + size ≤ 65536 := Nat.le_trans h.fit h.sys.dsk.lim
/-- disk and log have changed, and nothing else that was there -/
def LPost (w : World) (b : Bks) (k : LBk) (x' : Dsk) (N' first size : Nat) (L' : LogS) (w' : World) : Prop :=
  ∃ (b' : Bks) (k' : LBk), b'.d = b.d ∧ k'.l = k.l ∧ (∀ j, b'.all j ∨ k'.all j → (b.all j ∨ k.all j) ∨ w.heap.size ≤ j) ∧ Ext (fun j => b.all j ∨ k.all j) w w' ∧ LSys w' b' x' N' first size k' L'
theorem LPost.trans {w w1 w2 : World} {b b1 : Bks} {k k1 : LBk} {x2 : Dsk} {N2 first size : Nat} {L2 : LogS} (hd : b1.d = b.d) (hl : k1.l = k.l) (ha : ∀ j, b1.all j ∨ k1.all j → (b.all j ∨ k.all j) ∨ w.heap.size ≤ j) (hX : Ext (fun j => b.all j ∨ k.all j) w w1)
    (h2 : LPost w1 b1 k1 x2 N2 first size L2 w2) : LPost w b k x2 N2 first size L2 w2 := by
  obtain ⟨b2, k2, d2, l2, a2, X2, S2⟩ := h2
  refine ⟨b2, k2, d2.trans hd, l2.trans hl, fun j hj => ?_, hX.trans X2 fun j hj h => ?_, S2⟩
  · rcases a2 j hj with h | h
    · exact ha j h
    · exact .inr (Nat.le_trans hX.size h)
  · rcases ha j h with h | h
    · exact h
    · omega
theorem LPost.of_below {w w1 w2 : World} {b : Bks} {k : LBk} {x2 : Dsk} {N2 first size : Nat} {L2 : LogS} (hb : Below w.heap.size w w1) (h2 : LPost w1 b k x2 N2 first size L2 w2) : LPost w b k x2 N2 first size L2 w2 :=
  .trans rfl rfl (fun j h => .inl h) (Ext.of_below hb) h2
theorem LPost.same {w w' : World} {b : Bks} {x : Dsk} {N first size : Nat} {k : LBk} {L : LogS} (h : LSys w b x N first size k L) (hb : Below w.heap.size w w') : LPost w b k x N first size L w' :=
  ⟨b, k, rfl, rfl, fun j h => .inl h, Ext.of_below hb, h.below hb⟩
theorem LPost.mono {w w' : World} {b : Bks} {x : Dsk} {N M first size : Nat} {k : LBk} {L : LogS} (h : LPost w b k x N first size L w') (hm : N ≤ M) : LPost w b k x M first size L w' := by
  obtain ⟨b', k', h1, h2, h3, h4, h5⟩ := h
  exact ⟨b', k', h1, h2, h3, h4, h5.mono hm⟩
/-- only the log's own block -/
theorem LSys.headed {w w' : World} {b : Bks} {x : Dsk} {N first size : Nat} {k : LBk} {L L' : LogS} (h : LSys w b x N first size k L) (hX : Ext (· = k.l) w w') (hl : LogAt w' b.d first size k L') : LPost w b k x N first size L' w' := by
  refine ⟨b, k, rfl, rfl, fun j h => .inl h, hX.mono fun j _ e => .inr (.inl e), h.sys.ext hX fun j e => ?_, hl, h.apart, h.big, h.fit⟩
  subst e
  exact ⟨h.log.far _ (.inl rfl), h.apart _ (.inl rfl)⟩
/-- only the disk -/
theorem LSys.disked {w w' : World} {b : Bks} {x x' : Dsk} {N N' first size : Nat} {k : LBk} {L : LogS} (h : LSys w b x N first size k L) (hP : SysPost w b x' N' w') (hl : x'.dur.length = x.dur.length) : LPost w b k x' N' first size L w' := by
  obtain ⟨b', h1, h2, h3, h4⟩ := hP
  have hlt := h.log.lt
  refine ⟨b', k, h1, rfl, fun j hj => ?_, h3.mono fun j _ e => .inl e, h4, ?_, fun j hj hb => ?_, h.big, by rw [hl]; exact h.fit⟩
  · rcases hj with hj | hj
    · rcases h2 j hj with h | h
      · exact .inl (.inl h)
      · exact .inr h
    · exact .inl (.inr hj)
  · rw [h1]
    exact h.log.ext h3 h.apart
  · rcases h2 j hb with h5 | h5
    · exact h.apart j hj h5
    · have := hlt j hj; omega
set_option maxRecDepth 100000 in
theorem lready_any (b : Bks) (x : Dsk) (N first size : Nat) (k : LBk) (L : LogS) (w : World) (h : LSys w b x N first size k L) :
    Calls Tryz.prog 84 #[.pointer (some ⟨k.l, 0, none⟩)] w fun e w' => e = .returned (.int .i64 (fallE (L.fallen || x.off))) ∧ LPost w b k x N first size (L.fall x.off) w' := by
  obtain ⟨c0, -⟩ := h.log.cs
  have HD := Lib.hid (down_any b x w h.sys.dsk.head)
  have HF := Lib.hid (falls_any b.d first size k L x.off w h.log)
  have H := Lib.hid h
  clear h
  go_enter Tryz.func84, Tryz.ntmps84
  go_wp2_with fail
  refine HD.out.mono ?_
  rintro e w' ⟨rfl, rfl⟩
  go_wp2_with fail
  refine HF.out.mono ?_
  rintro e w2 ⟨rfl, hL, hX⟩
  go_wp2_with fail
  go_ret
  exact ⟨rfl, H.out.headed hX hL⟩
/-! ### two numbers appended to the log's rows -/
theorem und_u64s : Tryz.prog.underlying 101 = some (.slice 28) := by kernel_rfl
theorem info_u64 : (Tryz.prog.info? 28).map (fun i => (i.zero, i.size, i.bytes)) = some (some (.int .u64 0), 1, 8) := by kernel_rfl
theorem app_num (w : World) (v : Value) (n : Nat) (xs : List Value) (hown : w.ownsRow 0 28 1 v n xs) (hn : n ≤ 1048576) (g c : Nat) (y : Value) (hy : w.cell? ⟨g, 0, none⟩ = some y) (h1 : y.oneCell' = true) (ty : TypeId) :
    ∃ v' w', (Builtin.append_ #[101, 101] ty #[v, .slice (some ⟨g, 0, none⟩) 1 c]).run Tryz.prog w = .ok v' w' ∧ w'.ownsRow 0 28 1 v' (n + 1) (xs ++ [y]) ∧ SetsR (fun k j z => v.ownBlock = some k ∧ j = n ∧ z = y) w w' ∧ (∀ k, v'.ownBlock = some k → v.ownBlock = some k ∨ w.heap.size ≤ k) := by
  obtain ⟨i0, hi, hz0, hz1, hz2⟩ := info_parts info_u64
  obtain ⟨v', w', r1, r2, r3, r4⟩ := append_gen (P := Tryz.prog) w 0 101 ty 28 i0 (.int .u64 0) 1 8 und_u64s hi hz0 hz1 hz2 rfl (by decide) v n xs hown ⟨g, 0, none⟩ 1 c [y] rfl (fun j u hu => by
    have : j = 0 := by
      have := (List.getElem?_eq_some_iff.1 hu).1
      simpa using this
    subst this
    simp at hu
    subst hu
    rw [Addr.add_lit]
    exact hy) (by simpa using h1) (by unfold maxLen; omega) (by omega) (Nat.zero_le _)
  refine ⟨v', w', r1, r2, r3.mono fun k j z ⟨h1, h2, h3⟩ => ?_, r4⟩
  have : j - n * 1 = 0 := by
    have := (List.getElem?_eq_some_iff.1 h3).1
    simp at this
    omega
  rw [this] at h3
  simp at h3
  exact ⟨h1, by omega, h3.symm⟩
/-- which cells the two appends may set -/
def numS (k : LBk) (L : LogS) (n ep : Nat) (g j : Nat) (y : Value) : Prop := (k.s.ownBlock = some g ∧ j = L.starts.length ∧ y = .int .u64 n) ∨ (k.e.ownBlock = some g ∧ j = L.epochs.length ∧ y = .int .u64 ep)
theorem numS_not {w : World} {d first size : Nat} {k : LBk} {L : LogS} {n ep : Nat} (h : LogAt w d first size k L) {g : Nat} (hg : ¬ k.all g ∨ g = k.l) : ∀ j y, ¬ numS k L n ep g j y := by
  rintro j y (⟨h1, -⟩ | ⟨h1, -⟩) <;> rcases hg with hg | rfl
  · exact hg (.inr (.inl h1))
  · exact h.ne1 h1
  · exact hg (.inr (.inr h1))
  · exact h.ne2 h1
theorem numS_new {w : World} {d first size : Nat} {k : LBk} {L : LogS} {n ep : Nat} (h : LogAt w d first size k L) {g : Nat} (hg : w.heap.size ≤ g) : ∀ j y, ¬ numS k L n ep g j y :=
  numS_not h (.inl fun hk => by have := h.lt g hk; omega)
/-- what a slice of one number is -/
def oneN (B : Nat) (n : Nat) (v : Value) (w : World) : Prop := ∃ g, v = .slice (some ⟨g, 0, none⟩) 1 1 ∧ B ≤ g ∧ w.cell? ⟨g, 0, none⟩ = some (.int .u64 n)
theorem oneN_stab {w : World} {d first size : Nat} {k : LBk} {L : LogS} {n ep m : Nat} (h : LogAt w d first size k L) : Spec.stab (growS (numS k L n ep)) (oneN w.heap.size m) := by
  rintro v w1 w2 ⟨g, rfl, hg, hc⟩ hr
  exact ⟨g, rfl, hg, SetsR.cell (p := ⟨g, 0, none⟩) hr hc (numS_new h hg)⟩
/-- what the first append gives -/
def appS (B : Nat) (k : LBk) (L : LogS) (n : Nat) (v : Value) (w : World) : Prop := w.ownsRow 0 28 1 v (L.starts.length + 1) (nums (L.starts ++ [n])) ∧ ∀ j, v.ownBlock = some j → k.s.ownBlock = some j ∨ B ≤ j
/-- and the second one, where the first one's value is u -/
def appE (B : Nat) (k : LBk) (L : LogS) (ep : Nat) (u v : Value) (w : World) : Prop := w.ownsRow 0 28 1 v (L.epochs.length + 1) (nums (L.epochs ++ [ep])) ∧ (∀ j, v.ownBlock = some j → k.e.ownBlock = some j ∨ B ≤ j) ∧ ∀ j, u.ownBlock = some j → v.ownBlock ≠ some j
theorem nums_append (a : List Nat) (n : Nat) : nums (a ++ [n]) = nums a ++ [.int .u64 n] := by simp [nums]
theorem appS_stab {w : World} {d first size : Nat} {k : LBk} {L : LogS} {n ep : Nat} (h : LogAt w d first size k L) : Spec.stab (growS (numS k L n ep)) (appS w.heap.size k L n) := by
  rintro v w1 w2 ⟨h1, h2⟩ hr
  refine ⟨SetsR.owns hr h1 fun g j y hg hs => ?_, h2⟩
  rcases h2 g hg with h3 | h3
  · rcases hs with ⟨-, rfl, rfl⟩ | ⟨h4, -⟩
    · right
      rw [nums_append, List.getElem?_append_right (by rw [nums_length]; exact Nat.le_refl _), nums_length, Nat.sub_self]
      rfl
    · exact absurd h4 (h.ne3 g h3)
  · exact absurd hs (numS_new h h3 j y)
theorem appE_stab {w : World} {d first size : Nat} {k : LBk} {L : LogS} {n ep : Nat} (h : LogAt w d first size k L) (u : Value) : Spec.stab (growS (numS k L n ep)) (appE w.heap.size k L ep u) := by
  rintro v w1 w2 ⟨h1, h2, h5⟩ hr
  refine ⟨SetsR.owns hr h1 fun g j y hg hs => ?_, h2, h5⟩
  rcases h2 g hg with h3 | h3
  · rcases hs with ⟨h4, -⟩ | ⟨-, rfl, rfl⟩
    · exact absurd h3 (h.ne3 g h4)
    · right
      rw [nums_append, List.getElem?_append_right (by rw [nums_length]; exact Nat.le_refl _), nums_length, Nat.sub_self]
      rfl
  · exact absurd hs (numS_new h h3 j y)
theorem SetsR.logExt {w w' : World} {k : LBk} {L : LogS} {n ep : Nat} (h : SetsR (numS k L n ep) w w') : Ext k.all w w' := h.ext.mono fun g _ ⟨j, y, hs⟩ => by
  rcases hs with ⟨h1, -⟩ | ⟨h1, -⟩
  · exact .inr (.inl h1)
  · exact .inr (.inr h1)
theorem LSys.num {wr w19 w20 : World} {b : Bks} {x : Dsk} {N first size n ep : Nat} {k : LBk} {LL L' : LogS} {v8 v19 : Value} (h : LSys wr b x N first size k LL) (hr : Ext k.all wr w19) (hS : appS wr.heap.size k LL n v8 w19) (hE : appE wr.heap.size k LL ep v8 v19 w19) (hX : Ext (· = k.l) w19 w20)
    (hc : w20.heap[k.l]? = some (.cells (logCells b.d first size ⟨k.l, v8, v19⟩ L') 134 (0, 0))) (hs : L'.starts = LL.starts ++ [n]) (he : L'.epochs = LL.epochs ++ [ep]) : LPost wr b k x N first size L' w20 := by
  have hlt := h.log.lt
  have hbl := h.sys.dsk.lt
  have hkl := hlt k.l (.inl rfl)
  have hXa : Ext k.all wr w20 := hr.trans hX fun j _ e => by subst e; exact .inl rfl
  have h8 : ∀ j, v8.ownBlock = some j → k.all j ∨ wr.heap.size ≤ j := fun j e => (hS.2 j e).imp (fun h => .inr (.inl h)) id
  have h19 : ∀ j, v19.ownBlock = some j → k.all j ∨ wr.heap.size ≤ j := fun j e => (hE.2.1 j e).imp (fun h => .inr (.inr h)) id
  have h8l : v8.ownBlock ≠ some k.l := fun e => by
    rcases hS.2 _ e with h1 | h1
    · exact h.log.ne1 h1
    · omega
  have h19l : v19.ownBlock ≠ some k.l := fun e => by
    rcases hE.2.1 _ e with h1 | h1
    · exact h.log.ne2 h1
    · omega
  have hall : ∀ j, (⟨k.l, v8, v19⟩ : LBk).all j → k.all j ∨ wr.heap.size ≤ j := by
    rintro j (rfl | e | e)
    · exact .inl (.inl rfl)
    · exact h8 j e
    · exact h19 j e
  refine ⟨b, ⟨k.l, v8, v19⟩, rfl, rfl, fun j hj => ?_, hXa.mono fun j _ e => .inr e, ?_, ?_, fun j hj hb => ?_, h.big, h.fit⟩
  · rcases hj with hj | hj
    · exact .inl (.inl hj)
    · exact (hall j hj).imp .inr id
  · exact h.sys.ext hXa fun j hj => ⟨h.log.far j hj, h.apart j hj⟩
  · refine ⟨hc, ?_, ?_, h8l, h19l, hE.2.2, fun j hj => ?_⟩
    · rw [hs, List.length_append]
      exact owns_ext hS.1 hX fun j e e2 => h8l (by rw [← e2]; exact e)
    · rw [he, List.length_append]
      exact owns_ext hE.1 hX fun j e e2 => h19l (by rw [← e2]; exact e)
    · rcases hall j hj with h1 | h1
      · exact h.log.far j h1
      · exact Nat.le_trans h.sys.pkg.lt h1
  · rcases hall j hj with h1 | h1
    · exact h.apart j h1 hb
    · have := hbl j hb; omega
theorem build_num (n : Nat) (w : World) : (Instr.buildSlice 101 1 #[(0, .int .u64 n)]).run Tryz.prog w = .ok (.slice (some ⟨w.heap.size, 0, none⟩) 1 1) (w.alloc (.cells #[.int .u64 n] 28)) := by
  kernel_rfl
theorem gcell {S : Nat → Nat → Value → Prop} {W : World} {p : Addr} {v : Value} (c : W.cell? p = some v) (hS : ∀ j y, ¬ S p.block j y) : ∀ w2, (growS S).r W w2 → w2.cell? p = some v := fun w2 h => SetsR.cell h c hS
end Go.Proofs.YtbjofbhhnmehgaaGreatDoor.TT
namespace Go.Proofs.YtbjofbhhnmehgaaGreatDoor.TT
open Go.RowKit Go.RG Go.Hp Go.Proofs.YtbjofbhhnmehgaaGreatDoor


theorem posU_lt : ∀ {l : List Nat} {x : Nat}, x ∈ l → posU l x < l.length
  | [], _, h => by cases h
  | y :: l, x, h => by
    unfold posU
    rcases Nat.lt_or_ge y x with h1 | h1
    · rw [List.countP_cons_of_pos (by simpa using h1), List.length_cons]
      have : x ∈ l := by
        rcases List.mem_cons.1 h with h | h
        · omega
        · exact h
      exact Nat.succ_lt_succ (posU_lt this)
    · rw [List.countP_cons_of_neg (by simp; omega), List.length_cons]
      exact Nat.lt_succ_of_le List.countP_le_length
/-- the head that is written -/
def turnH (L : LogS) (h : Head) : Head := ⟨h.gen, h.epoch, h.first, if h.first ∈ L.starts then L.epochs.getD (posU L.starts h.first) 0 else h.epoch⟩
def turnI (first : Nat) (h : Head) : Nat := first + h.gen % 2
def turnE (x : Dsk) (first size : Nat) (L : LogS) (h : Head) : Int := layE x (turnI first h) (headText (turnH L h) size)
def turnX (x : Dsk) (first size : Nat) (L : LogS) (h : Head) : Dsk := layX x (turnI first h) (headText (turnH L h) size)
def turnN (x : Dsk) (first size : Nat) (L : LogS) (h : Head) (N : Nat) : Nat := layN x (turnI first h) (headText (turnH L h) size) N
def turnL (x : Dsk) (first size : Nat) (L : LogS) (h : Head) : LogS := if turnE x first size L h = 0 then { L with head := turnH L h } else L.fall true
theorem goesE_two (x : Dsk) : goesE x = 0 ∨ goesE x = 5 := by unfold goesE; split <;> simp
theorem layE_two (x : Dsk) (i : Nat) (bs : List Int) : layE x i bs = 0 ∨ layE x i bs = 5 := by
  unfold layE
  split
  · exact goesE_two _
  · exact .inr rfl
theorem turnH_eq {L : LogS} {hg he hf hl v : Nat} (h : (if hf ∈ L.starts then L.epochs.getD (posU L.starts hf) 0 else he) = v) : turnH L ⟨hg, he, hf, hl⟩ = ⟨hg, he, hf, v⟩ := by
  unfold turnH
  simp only
  rw [h]
theorem turnH_ok {L : LogS} {hg he hf hl : Nat} (h1 : hg < 281474976710656) (h2 : he < 281474976710656) (h3 : hf ≤ 281474976710656) (hep : ∀ n ∈ L.epochs, n < 281474976710656) : (turnH L ⟨hg, he, hf, hl⟩).ok := by
  refine ⟨by show hg < _; omega, by show he < _; omega, by show hf < _; omega, ?_⟩
  show (if hf ∈ L.starts then L.epochs.getD (posU L.starts hf) 0 else he) < _
  split
  · rw [List.getD_eq_getElem?_getD]
    cases hq : L.epochs[posU L.starts hf]? with
    | none => decide
    | some v => have := hep v (List.mem_of_getElem? hq); show v < _; omega
  · omega
set_option maxHeartbeats 2000000 in
set_option maxRecDepth 100000 in
theorem turn_any (b : Bks) (x : Dsk) (N first size : Nat) (k : LBk) (L : LogS) (hd : Head) (w : World) (h : LSys w b x N first size k L) (hN : N ≤ 1099511627775)
    (h1 : hd.gen < 281474976710656) (h2 : hd.epoch < 281474976710656) (h3 : hd.first ≤ 281474976710656) (hr : L.starts.Pairwise (· < ·)) (hle : L.epochs.length = L.starts.length) (hsh : L.starts.length ≤ 65536) (hep : ∀ n ∈ L.epochs, n < 281474976710656) :
    Calls Tryz.prog 83 #[.pointer (some ⟨k.l, 0, none⟩), headV hd] w fun e w' => e = .returned (.int .i64 (turnE x first size L hd)) ∧ LPost w b k (turnX x first size L hd) (turnN x first size L hd N) first size (turnL x first size L hd) w' := by
  obtain ⟨hg, he, hf, hl⟩ := hd
  have hb0 := below_box w (.cells #[.int .u64 hg, .int .u64 he, .int .u64 hf, .int .u64 he] 128)
  have g0 := World.alloc_heap_new w (.cells #[.int .u64 hg, .int .u64 he, .int .u64 hf, .int .u64 he] 128)
  simp only at h1 h2 h3
  have hlt := h.log.lt
  have HB := Lib.hid h.sys.dsk.lt
  have hkl := hlt k.l (.inl rfl)
  have H := Lib.hid h; clear h
  unfold headV
  simp only
  go_enter Tryz.func83, Tryz.ntmps83
  go_wp2_with fail
  generalize World.alloc w _ = w1 at hb0 g0 ⊢
  have H1 := Lib.hid (H.out.below hb0)
  obtain ⟨y0, y1, y2, -, -, -, -, -, y8, y9, -⟩ := H1.out.log.cs
  obtain ⟨p0, p1, p2, p3⟩ := box4 g0
  obtain ⟨sa, sc, hks, -⟩ := owns_shape H1.out.log.starts
  obtain ⟨ea, ec, hke, -⟩ := owns_shape H1.out.log.epochs
  rw [hks] at y8
  rw [hke] at y9
  have HBS := Lib.hid (fun W (hW : Below w1.heap.size w1 W) => search_any k.s L.starts hr hf W (Src.of_owns (H1.out.below hW).log.starts) (by omega))
  rw [hks] at HBS
  refine wp_region_rg (fun i => if i = 6 then some (fun v _ => v = .tuple #[.int .i64 (posU L.starts hf), .bool (decide (hf ∈ L.starts))]) else none) fol (by kernel_rfl) (fun W hW hh => ?_)
  clear hh
  have q8 := rcell hW y8
  have z2 := rcell hW p2
  repeat ((first | refine lex_move _ (by first | exact Or.inl rfl | exact Or.inr rfl) rfl rfl ?_ | (refine lex_float ?_ rfl rfl (fun w1 hb1 hf1 => ?_) ?_; rotate_left; (go_simp; (try simp (disch := omega) only [IntWalk.i64_quo, IntWalk.rem_in, IntWalk.i64_in, IntWalk.u64_in, IntWalk.u32_in, IntWalk.u8_in, IntWalk.toNatUp, IntWalk.iteOmega]); (try go_simp); rfl)) | refine lex_skip rfl ?_); simp only [Act.put, Act.eval, Array.getD_eq_getD_getElem?, List.getElem?_toArray, List.getElem?_cons_zero, List.getElem?_cons_succ, Option.getD_some, List.setIfInBounds_toArray, List.set_cons_succ, List.set_cons_zero])
  refine lex_make _ rfl (by exact fun _ _ _ h _ => h) rfl (fun w1 hb1 hf1 => ?_) ?_
  · have hb1' := hb1
    (unfold makes; go_simp; simp only [makesUpon])
    refine (HBS.out _ (below_trans hW hb1')).mono ?_
    rintro e w' ⟨rfl, hB⟩
    exact ⟨_, rfl, hB, rfl⟩
  rintro v W2 hB2 rfl
  simp only [Act.put, Act.eval, Array.getD_eq_getD_getElem?, List.getElem?_toArray, List.getElem?_cons_zero, List.getElem?_cons_succ, Option.getD_some, List.setIfInBounds_toArray, List.set_cons_succ, List.set_cons_zero]
  repeat ((first | refine lex_move _ (by first | exact Or.inl rfl | exact Or.inr rfl) rfl rfl ?_ | (refine lex_float ?_ rfl rfl (fun w1 hb1 hf1 => ?_) ?_; rotate_left; (go_simp; (try simp (disch := omega) only [IntWalk.i64_quo, IntWalk.rem_in, IntWalk.i64_in, IntWalk.u64_in, IntWalk.u32_in, IntWalk.u8_in, IntWalk.toNatUp, IntWalk.iteOmega]); (try go_simp); rfl)) | refine lex_skip rfl ?_); simp only [Act.put, Act.eval, Array.getD_eq_getD_getElem?, List.getElem?_toArray, List.getElem?_cons_zero, List.getElem?_cons_succ, Option.getD_some, List.setIfInBounds_toArray, List.set_cons_succ, List.set_cons_zero])
  refine lex_nil ?_
  clear q8 z2 HBS
  have hW2 := below_trans hW hB2
  have HW := Lib.hid (H1.out.below hW2)
  have GW := Lib.hid (below_heap hW2 g0)
  have BW := Lib.hid (below_trans hb0 hW2)
  clear y0 y1 y2 y8 y9 p0 p1 p2 p3 hW hB2
  obtain ⟨y0, y1, y2, -, -, -, -, -, -, y9, -⟩ := HW.out.log.cs
  obtain ⟨p0, p1, p2, p3⟩ := box4 GW.out
  by_cases hin : hf ∈ L.starts
  · have hp := posU_lt hin
    have hps : ∃ ps, posU L.starts hf = ps := ⟨_, rfl⟩
    obtain ⟨ps, hps⟩ := hps
    obtain ⟨ev, hev⟩ : ∃ ev, L.epochs.getD ps 0 = ev := ⟨_, rfl⟩
    have hpe : ps < L.epochs.length := by rw [hle, ← hps]; exact hp
    have hge : L.epochs[ps]? = some ev := by rw [← hev, List.getD_eq_getElem?_getD, List.getElem?_eq_getElem hpe]; rfl
    obtain ⟨g, c, hkg, -, -, hc, -, hcell, -⟩ := owns_parts HW.out.log.epochs (Nat.lt_of_le_of_lt (Nat.zero_le _) hpe)
    have hce : W2.cell? ⟨g, ps, none⟩ = some (.int .u64 ev) := by rw [hcell ps (by omega)]; exact nums_get hge
    rw [hkg] at y9
    have HI := Lib.hid (show (if hf ∈ L.starts then L.epochs.getD (posU L.starts hf) 0 else he) = ev by rw [if_pos hin, hps, hev])
    rw [decide_eq_true hin, hps]
    have hpe' : (ps : Int) < (L.epochs.length : Int) := by omega
    have hX := Ext.setCell (S := (· = w.heap.size)) (w := W2) (p := ⟨w.heap.size, 3, none⟩) rfl (.int .u64 ev)
    have hg4 := heap_cell (j := 3) GW.out (.int .u64 ev)
    have fr : W2.frozen? ⟨w.heap.size, 3, none⟩ = false := by simp [World.frozen?, GW.out]
    have HX := Lib.hid (And.intro hX hg4)
    have Hps := Lib.hid hps
    clear hin hp hps hev hge hcell hkg hc hX hg4
    go_wp2_with fail
    have hX := HX.out.1
    have hg4 := HX.out.2
    clear HX hce fr
    generalize World.setCell W2 _ _ = W3 at hX hg4 ⊢
    have hW3 : LSys W3 b x N first size k L := HW.out.ext hX fun j e => by
      subst e
      refine ⟨Nat.le_trans H.out.sys.pkg.lt (Nat.le_refl _), fun h => Nat.lt_irrefl _ (HB.out _ h), fun h => Nat.lt_irrefl _ (hlt _ h)⟩
    have hB3 : Below w.heap.size w W3 := BW.out.trans (hX.to_belowAt BW.out.size fun j hj => by omega)
    clear HW GW BW y0 y1 y2 y9 p0 p1 p2 p3 hX
    have HW := Lib.hid hW3
    have GW := Lib.hid hg4
    have BW := Lib.hid hB3
    clear hW3 hg4 hB3
    obtain ⟨y0, y1, y2, -⟩ := HW.out.log.cs
    obtain ⟨p0, p1, p2, p3⟩ := box4 GW.out
    have HL := Lib.hid (HI.out)
    refine wp_region_rg_tail 5 (fun _ => none) fol (by kernel_rfl) (fun U hU hh => ?_)
    clear hh
    have q0 := rcell hU y0
    have q1 := rcell hU y1
    have q2 := rcell hU y2
    have z0 := rcell hU p0
    have z1 := rcell hU p1
    have z2 := rcell hU p2
    have z3 := rcell hU p3
    simp only [List.take_succ_cons, List.take_zero, List.drop_succ_cons, List.drop_zero]
    repeat ((first | refine lex_move _ (by first | exact Or.inl rfl | exact Or.inr rfl) rfl rfl ?_ | (refine lex_float ?_ rfl rfl (fun w1 hb1 hf1 => ?_) ?_; rotate_left; (go_simp; (try simp (disch := omega) only [IntWalk.i64_quo, IntWalk.rem_in, IntWalk.i64_in, IntWalk.u64_in, IntWalk.u32_in, IntWalk.u8_in, IntWalk.toNatUp, IntWalk.iteOmega]); (try go_simp); rfl)) | refine lex_skip rfl ?_); simp only [Act.put, Act.eval, Array.getD_eq_getD_getElem?, List.getElem?_toArray, List.getElem?_cons_zero, List.getElem?_cons_succ, Option.getD_some, List.setIfInBounds_toArray, List.set_cons_succ, List.set_cons_zero])
    refine lex_nil ?_
    clear q0 q1 q2 z0 z1 z2 z3
    have HU := Lib.hid (And.intro (HW.out.below hU) (And.intro (below_heap hU GW.out) (below_trans BW.out hU)))
    have HC := Lib.hid (writeH_any b x N first size (turnH L ⟨hg, he, hf, hl⟩) (turnH_ok h1 h2 h3 hep) (by have := HU.out.1.fit; have := HU.out.1.big; omega) (by have := HU.out.1.le; omega) U HU.out.1.sys hN)
    have hth := turnH_eq (hg := hg) (hl := hl) HL.out
    rw [hth] at HC
    unfold headV placeV at HC
    simp only at HC
    clear y0 y1 y2 p0 p1 p2 p3 hth
    go_wp2_with fail
    refine HC.out.mono ?_
    rintro e V ⟨rfl, hP⟩
    have hth := turnH_eq (hg := hg) (hl := hl) HL.out
    have HT := Lib.hid (show turnE x first size L ⟨hg, he, hf, hl⟩ = layE x (first + hg % 2) (headText ⟨hg, he, hf, ev⟩ size) ∧ turnX x first size L ⟨hg, he, hf, hl⟩ = layX x (first + hg % 2) (headText ⟨hg, he, hf, ev⟩ size) ∧ turnN x first size L ⟨hg, he, hf, hl⟩ N = layN x (first + hg % 2) (headText ⟨hg, he, hf, ev⟩ size) N by
      unfold turnE turnX turnN turnI; rw [hth]; exact ⟨rfl, rfl, rfl⟩)
    obtain ⟨b2, k2, hd2, hl2, ha2, hX2, hS2⟩ := HU.out.1.disked hP (layX_len _ _ _)
    have hnot : ¬ (b.all w.heap.size ∨ k.all w.heap.size) := fun h => by
      rcases h with h | h
      · exact Nat.lt_irrefl _ (HB.out _ h)
      · exact Nat.lt_irrefl _ (hlt _ h)
    have gV := hX2.heap HU.out.2.1 hnot
    obtain ⟨p0, p1, p2, p3⟩ := box4 gV
    rcases layE_two x (first + hg % 2) (headText ⟨hg, he, hf, ev⟩ size) with hE | hE
    · rw [hE]
      have hcs := hS2.log.cs
      rw [hl2] at hcs
      obtain ⟨y0, y1, y2, y3, y4, y5, y6, -, -, -, -, fr⟩ := hcs
      have HTE := Lib.hid (HT.out.1.trans hE)
      have HS := Lib.hid (And.intro hS2 (And.intro hX2 ha2))
      clear hE hS2 hX2 hP
      have hX3 : Ext (· = k.l) V ((((V.setCell ⟨k.l, 3, none⟩ (.int .u64 hg)).setCell ⟨k.l, 4, none⟩ (.int .u64 he)).setCell ⟨k.l, 5, none⟩ (.int .u64 hf)).setCell ⟨k.l, 6, none⟩ (.int .u64 ev)) :=
        (((Ext.setCell (S := (· = k.l)) (p := ⟨k.l, 3, none⟩) rfl _).trans (Ext.setCell (S := (· = k.l)) (p := ⟨k.l, 4, none⟩) rfl _) (fun _ _ h => h)).trans (Ext.setCell (S := (· = k.l)) (p := ⟨k.l, 5, none⟩) rfl _) (fun _ _ h => h)).trans (Ext.setCell (S := (· = k.l)) (p := ⟨k.l, 6, none⟩) rfl _) (fun _ _ h => h)
      have hc3 := heap_cell (j := 6) (heap_cell (j := 5) (heap_cell (j := 4) (heap_cell (j := 3) (by have := HS.out.1.log.cells; rw [hl2] at this; exact this) (.int .u64 hg)) (.int .u64 he)) (.int .u64 hf)) (.int .u64 ev)
      have HX3 := Lib.hid (And.intro hX3 hc3)
      clear hX3 hc3 gV
      go_wp2_with fail
      go_ret
      have hX3 := HX3.out.1
      rw [← hl2] at hX3
      have hL3 := HS.out.1.log.heads (L' := turnL x first size L ⟨hg, he, hf, hl⟩) hX3 (by
        rw [hl2]
        refine HX3.out.2.trans ?_
        unfold turnL
        rw [if_pos HTE.out]
        have hth := turnH_eq (hg := hg) (hl := hl) HL.out
        rw [hth]
        rfl) (by unfold turnL; split <;> rfl) (by unfold turnL; split <;> rfl)
      rw [hl2] at hL3 hX3
      refine ⟨HTE.out.symm ▸ rfl, ?_⟩
      rw [HT.out.2.1, HT.out.2.2]
      refine .of_below HU.out.2.2 (.trans hd2 hl2 HS.out.2.2 HS.out.2.1 ?_)
      have hX3' := HX3.out.1.mono (S' := (· = k2.l)) fun j _ e => e.trans hl2.symm
      exact HS.out.1.headed hX3' hL3
    · rw [hE]
      have HF := Lib.hid (falls_any b2.d first size k2 L true V hS2.log)
      rw [hl2] at HF
      have HTE := Lib.hid (HT.out.1.trans hE)
      have HS := Lib.hid (And.intro hS2 (And.intro hX2 ha2))
      clear hE hS2 hX2 hP gV p0 p1 p2 p3
      go_wp2_with fail
      refine HF.out.mono ?_
      rintro e V3 ⟨rfl, hL3, hX3⟩
      have hne : turnL x first size L ⟨hg, he, hf, hl⟩ = L.fall true := by unfold turnL; rw [if_neg (by rw [HTE.out]; decide)]
      rw [Bool.or_true]
      have HNE := Lib.hid (And.intro hne (And.intro hL3 hX3))
      clear hne hL3 hX3
      go_wp2_with fail
      go_ret
      refine ⟨HTE.out.symm ▸ rfl, ?_⟩
      rw [HT.out.2.1, HT.out.2.2, HNE.out.1]
      refine .of_below HU.out.2.2 (.trans hd2 hl2 HS.out.2.2 HS.out.2.1 ?_)
      have hX3 := HNE.out.2.2
      rw [← hl2] at hX3
      exact HS.out.1.headed hX3 HNE.out.2.1
  · have HI := Lib.hid (show (if hf ∈ L.starts then L.epochs.getD (posU L.starts hf) 0 else he) = he by rw [if_neg hin])
    rw [decide_eq_false hin]
    clear hin y9
    go_wp2_with fail
    have HL := Lib.hid (HI.out)
    refine wp_region_rg_tail 5 (fun _ => none) fol (by kernel_rfl) (fun U hU hh => ?_)
    clear hh
    have q0 := rcell hU y0
    have q1 := rcell hU y1
    have q2 := rcell hU y2
    have z0 := rcell hU p0
    have z1 := rcell hU p1
    have z2 := rcell hU p2
    have z3 := rcell hU p3
    simp only [List.take_succ_cons, List.take_zero, List.drop_succ_cons, List.drop_zero]
    repeat ((first | refine lex_move _ (by first | exact Or.inl rfl | exact Or.inr rfl) rfl rfl ?_ | (refine lex_float ?_ rfl rfl (fun w1 hb1 hf1 => ?_) ?_; rotate_left; (go_simp; (try simp (disch := omega) only [IntWalk.i64_quo, IntWalk.rem_in, IntWalk.i64_in, IntWalk.u64_in, IntWalk.u32_in, IntWalk.u8_in, IntWalk.toNatUp, IntWalk.iteOmega]); (try go_simp); rfl)) | refine lex_skip rfl ?_); simp only [Act.put, Act.eval, Array.getD_eq_getD_getElem?, List.getElem?_toArray, List.getElem?_cons_zero, List.getElem?_cons_succ, Option.getD_some, List.setIfInBounds_toArray, List.set_cons_succ, List.set_cons_zero])
    refine lex_nil ?_
    clear q0 q1 q2 z0 z1 z2 z3
    have HU := Lib.hid (And.intro (HW.out.below hU) (And.intro (below_heap hU GW.out) (below_trans BW.out hU)))
    have HC := Lib.hid (writeH_any b x N first size (turnH L ⟨hg, he, hf, hl⟩) (turnH_ok h1 h2 h3 hep) (by have := HU.out.1.fit; have := HU.out.1.big; omega) (by have := HU.out.1.le; omega) U HU.out.1.sys hN)
    have hth := turnH_eq (hg := hg) (hl := hl) HL.out
    rw [hth] at HC
    unfold headV placeV at HC
    simp only at HC
    clear y0 y1 y2 p0 p1 p2 p3 hth
    go_wp2_with fail
    refine HC.out.mono ?_
    rintro e V ⟨rfl, hP⟩
    have hth := turnH_eq (hg := hg) (hl := hl) HL.out
    have HT := Lib.hid (show turnE x first size L ⟨hg, he, hf, hl⟩ = layE x (first + hg % 2) (headText ⟨hg, he, hf, he⟩ size) ∧ turnX x first size L ⟨hg, he, hf, hl⟩ = layX x (first + hg % 2) (headText ⟨hg, he, hf, he⟩ size) ∧ turnN x first size L ⟨hg, he, hf, hl⟩ N = layN x (first + hg % 2) (headText ⟨hg, he, hf, he⟩ size) N by
      unfold turnE turnX turnN turnI; rw [hth]; exact ⟨rfl, rfl, rfl⟩)
    obtain ⟨b2, k2, hd2, hl2, ha2, hX2, hS2⟩ := HU.out.1.disked hP (layX_len _ _ _)
    have hnot : ¬ (b.all w.heap.size ∨ k.all w.heap.size) := fun h => by
      rcases h with h | h
      · exact Nat.lt_irrefl _ (HB.out _ h)
      · exact Nat.lt_irrefl _ (hlt _ h)
    have gV := hX2.heap HU.out.2.1 hnot
    obtain ⟨p0, p1, p2, p3⟩ := box4 gV
    rcases layE_two x (first + hg % 2) (headText ⟨hg, he, hf, he⟩ size) with hE | hE
    · rw [hE]
      have hcs := hS2.log.cs
      rw [hl2] at hcs
      obtain ⟨y0, y1, y2, y3, y4, y5, y6, -, -, -, -, fr⟩ := hcs
      have HTE := Lib.hid (HT.out.1.trans hE)
      have HS := Lib.hid (And.intro hS2 (And.intro hX2 ha2))
      clear hE hS2 hX2 hP
      have hX3 : Ext (· = k.l) V ((((V.setCell ⟨k.l, 3, none⟩ (.int .u64 hg)).setCell ⟨k.l, 4, none⟩ (.int .u64 he)).setCell ⟨k.l, 5, none⟩ (.int .u64 hf)).setCell ⟨k.l, 6, none⟩ (.int .u64 he)) :=
        (((Ext.setCell (S := (· = k.l)) (p := ⟨k.l, 3, none⟩) rfl _).trans (Ext.setCell (S := (· = k.l)) (p := ⟨k.l, 4, none⟩) rfl _) (fun _ _ h => h)).trans (Ext.setCell (S := (· = k.l)) (p := ⟨k.l, 5, none⟩) rfl _) (fun _ _ h => h)).trans (Ext.setCell (S := (· = k.l)) (p := ⟨k.l, 6, none⟩) rfl _) (fun _ _ h => h)
      have hc3 := heap_cell (j := 6) (heap_cell (j := 5) (heap_cell (j := 4) (heap_cell (j := 3) (by have := HS.out.1.log.cells; rw [hl2] at this; exact this) (.int .u64 hg)) (.int .u64 he)) (.int .u64 hf)) (.int .u64 he)
      have HX3 := Lib.hid (And.intro hX3 hc3)
      clear hX3 hc3 gV
      go_wp2_with fail
      go_ret
      have hX3 := HX3.out.1
      rw [← hl2] at hX3
      have hL3 := HS.out.1.log.heads (L' := turnL x first size L ⟨hg, he, hf, hl⟩) hX3 (by
        rw [hl2]
        refine HX3.out.2.trans ?_
        unfold turnL
        rw [if_pos HTE.out]
        have hth := turnH_eq (hg := hg) (hl := hl) HL.out
        rw [hth]
        rfl) (by unfold turnL; split <;> rfl) (by unfold turnL; split <;> rfl)
      rw [hl2] at hL3 hX3
      refine ⟨HTE.out.symm ▸ rfl, ?_⟩
      rw [HT.out.2.1, HT.out.2.2]
      refine .of_below HU.out.2.2 (.trans hd2 hl2 HS.out.2.2 HS.out.2.1 ?_)
      have hX3' := HX3.out.1.mono (S' := (· = k2.l)) fun j _ e => e.trans hl2.symm
      exact HS.out.1.headed hX3' hL3
    · rw [hE]
      have HF := Lib.hid (falls_any b2.d first size k2 L true V hS2.log)
      rw [hl2] at HF
      have HTE := Lib.hid (HT.out.1.trans hE)
      have HS := Lib.hid (And.intro hS2 (And.intro hX2 ha2))
      clear hE hS2 hX2 hP gV p0 p1 p2 p3
      go_wp2_with fail
      refine HF.out.mono ?_
      rintro e V3 ⟨rfl, hL3, hX3⟩
      have hne : turnL x first size L ⟨hg, he, hf, hl⟩ = L.fall true := by unfold turnL; rw [if_neg (by rw [HTE.out]; decide)]
      rw [Bool.or_true]
      have HNE := Lib.hid (And.intro hne (And.intro hL3 hX3))
      clear hne hL3 hX3
      go_wp2_with fail
      go_ret
      refine ⟨HTE.out.symm ▸ rfl, ?_⟩
      rw [HT.out.2.1, HT.out.2.2, HNE.out.1]
      refine .of_below HU.out.2.2 (.trans hd2 hl2 HS.out.2.2 HS.out.2.1 ?_)
      have hX3 := HNE.out.2.2
      rw [← hl2] at hX3
      exact HS.out.1.headed hX3 HNE.out.2.1
end Go.Proofs.YtbjofbhhnmehgaaGreatDoor.TT
namespace Go.Proofs.YtbjofbhhnmehgaaGreatDoor.TT
open Go.RowKit Go.RG Go.Hp Go.Proofs.YtbjofbhhnmehgaaGreatDoor


/-- the bytes of a record that its i-th piece has -/
def chunk (rec : List Int) (i : Nat) : List Int := (rec.drop (i * 104)).take 104
def pieceText (n epoch : Nat) (rec : List Int) (i : Nat) : List Int := sealed' (pieceRaw ⟨n + i, epoch, rec.length, i, chunk rec i⟩)
/-- the first pieces are written: the disk, and whether it went -/
def appX (x : Dsk) (first size n epoch : Nat) (rec : List Int) : Nat → Dsk × Bool
  | 0 => (x, true)
  | j + 1 => match appX x first size n epoch rec j with
    | (y, true) => (writeX y (ringN first size (n + j)) (pieceText n epoch rec j), goesB y)
    | (y, false) => (y, false)
/-- what Append leaves and tells -/
def appendR (x : Dsk) (first size : Nat) (L : LogS) (rec : List Int) : Dsk × LogS × Nat × Int :=
  if L.fallen || x.off then (x, L.fall x.off, 0, 5) else
  if 281474976710655 < L.next + need rec.length - 1 then (x, L.fall x.off, 0, 6) else
  if L.free size < need rec.length then (x, L.fall x.off, 0, 2) else
  match appX x first size L.next L.head.epoch rec (need rec.length) with
  | (y, true) => (y, ⟨L.head, L.next + need rec.length, L.starts ++ [L.next], L.epochs ++ [L.head.epoch], L.fallen || x.off⟩, L.next, 0)
  | (y, false) => (y, L.fall true, 0, 5)
theorem pieceRaw_len {p : Piece} (hb : isBytes p.data) (hl : p.data.length ≤ 104) : (sealed' (pieceRaw p)).length = 128 ∧ isBytes (sealed' (pieceRaw p)) := by
  have h0 : (pieceMark ++ zeros 120).length = 124 := by simp [pieceMark, zeros_length]
  have b0 : isBytes (pieceMark ++ zeros 120) := marks_isBytes.2.append (zeros_isBytes _)
  have s1 : ∀ {bs : List Int} {at' : Nat} {D : List Int}, bs.length = 124 → at' + D.length ≤ 124 → (layB bs at' D).length = 124 := fun h1 h2 => by rw [layB_length (by omega), h1]
  have h1 : (pieceRaw p).length = 124 := by
    unfold pieceRaw
    refine s1 (s1 (s1 (s1 (s1 h0 ?_) ?_) ?_) ?_) (by omega) <;> rw [leBytes_length] <;> decide
  refine ⟨by simp [sealed', h1, sealOf_length], ?_⟩
  unfold sealed' pieceRaw
  exact (((((b0.lay (leBytes_isBytes _ _)).lay (leBytes_isBytes _ _)).lay (leBytes_isBytes _ _)).lay (leBytes_isBytes _ _)).lay hb).append (sealOf_isBytes _)
theorem appX_stop {x : Dsk} {first size n epoch : Nat} {rec : List Int} {y : Dsk} {i K : Nat} (h : appX x first size n epoch rec i = (y, false)) (hK : i ≤ K) : appX x first size n epoch rec K = (y, false) := by
  induction K with
  | zero => rw [Nat.le_zero.1 hK] at h; exact h
  | succ K ih =>
    rcases Nat.eq_or_lt_of_le hK with rfl | hK
    · exact h
    · unfold appX
      rw [ih (Nat.lt_succ_iff.1 hK)]
theorem chunk_len (rec : List Int) (i : Nat) : (chunk rec i).length = min 104 (rec.length - i * 104) := by unfold chunk; rw [List.length_take, List.length_drop]
theorem LogS.ok.fall {L : LogS} {size : Nat} (h : L.ok size) (now : Bool) : (L.fall now).ok size := ⟨h.gen, h.epoch, h.first, h.least, h.next, h.order, h.ring, h.rise, h.len, h.short, h.low, h.ep⟩
set_option maxHeartbeats 2000000 in
set_option maxRecDepth 100000 in
theorem append_any (b : Bks) (x : Dsk) (N first size : Nat) (k : LBk) (L : LogS) (v : Value) (rec : List Int) (w : World) (h : LSys w b x N first size k L) (hN : N ≤ 1099511627600) (ho : L.ok size)
    (hv : Src w v (u8s rec)) (hfar : ∀ j, v.ownBlock = some j → ¬ b.all j ∧ ¬ k.all j) (hb : isBytes rec) (h0 : 0 < rec.length) (hl : rec.length ≤ 8192) :
    Calls Tryz.prog 46 #[.pointer (some ⟨k.l, 0, none⟩), v] w fun e w' => e = .returned (.tuple #[.int .u64 (appendR x first size L rec).2.2.1, .int .i64 (appendR x first size L rec).2.2.2]) ∧ LPost w b k (appendR x first size L rec).1 (N + 79) first size (appendR x first size L rec).2.1 w' := by
  obtain ⟨c0, -⟩ := h.log.cs
  obtain ⟨m, hm⟩ : ∃ m, rec.length = m := ⟨_, rfl⟩
  obtain ⟨g, o, c, rfl, hc, hr⟩ : ∃ g o c, v = .slice (some ⟨g, o, none⟩) m c ∧ m ≤ c ∧ ∀ j u, (u8s rec)[j]? = some u → w.cell? ⟨g, o + j, none⟩ = some u := by
    rcases hv with ⟨g, o, c, rfl, hc, hr⟩ | ⟨-, h2⟩
    · rw [u8s_length, hm] at hc ⊢
      exact ⟨g, o, c, rfl, hc, hr⟩
    · have := congrArg List.length h2
      rw [u8s_length] at this
      simp at this
      subst this
      cases h0
  have Hm := Lib.hid hm
  rw [hm] at hl h0
  have hl' : (m : Int) ≤ 8192 := by omega
  have HR := Lib.hid (lready_any b x N first size k L w h)
  have HP : ∀ q, appendR x first size L rec = q → appendR x first size L rec = q := fun _ h => h
  have Hhr := Lib.hid hr
  have Hfar := Lib.hid (hfar g rfl)
  clear hfar
  clear hv hm hr HP
  go_enter Tryz.func46, Tryz.ntmps46
  go_wp2_with fail
  refine HR.out.mono ?_
  rintro e w1 ⟨rfl, hP1⟩
  cases hf : (L.fallen || x.off)
  · obtain ⟨b1, k1, hd1, hl1, ha1, hX1, hS1⟩ := hP1
    have hcs := hS1.log.cs
    rw [hl1] at hcs
    obtain ⟨y0, y1, y2, y3, y4, y5, y6, y7, -⟩ := hcs
    have HNd := Lib.hid fun w' => need_any m (by omega) w'
    have Hf := Lib.hid hf
    clear hf c0
    unfold fallE
    rw [if_neg (by decide)]
    go_wp2_with fail
    refine wp_region_rg (fun i => if i = 6 then some (fun v _ => v = .int .i64 (need m)) else none) fol (by kernel_rfl) (fun W hW hh => ?_)
    clear hh
    have q7 := rcell hW y7
    repeat ((first | refine lex_move _ (by first | exact Or.inl rfl | exact Or.inr rfl) rfl rfl ?_ | (refine lex_float ?_ rfl rfl (fun w1 hb1 hf1 => ?_) ?_; rotate_left; (go_simp; (try simp (disch := omega) only [IntWalk.i64_quo, IntWalk.rem_in, IntWalk.i64_in, IntWalk.u64_in, IntWalk.u32_in, IntWalk.u8_in, IntWalk.toNatUp, IntWalk.iteOmega]); (try go_simp); rfl)) | refine lex_skip rfl ?_); simp only [Act.put, Act.eval, Array.getD_eq_getD_getElem?, List.getElem?_toArray, List.getElem?_cons_zero, List.getElem?_cons_succ, Option.getD_some, List.setIfInBounds_toArray, List.set_cons_succ, List.set_cons_zero])
    refine lex_make _ rfl (by exact fun _ _ _ h _ => h) rfl (fun w1 hb1 hf1 => ?_) ?_
    · have hb1' := hb1
      (unfold makes; go_simp; simp only [makesUpon])
      refine (HNd.out _).mono ?_
      rintro e w' ⟨rfl, rfl⟩
      exact ⟨_, rfl, Below.refl _ _, rfl⟩
    rintro v W2 hB2 rfl
    simp only [Act.put, Act.eval, Array.getD_eq_getD_getElem?, List.getElem?_toArray, List.getElem?_cons_zero, List.getElem?_cons_succ, Option.getD_some, List.setIfInBounds_toArray, List.set_cons_succ, List.set_cons_zero]
    repeat ((first | refine lex_move _ (by first | exact Or.inl rfl | exact Or.inr rfl) rfl rfl ?_ | (refine lex_float ?_ rfl rfl (fun w1 hb1 hf1 => ?_) ?_; rotate_left; (go_simp; (try simp (disch := omega) only [IntWalk.i64_quo, IntWalk.rem_in, IntWalk.i64_in, IntWalk.u64_in, IntWalk.u32_in, IntWalk.u8_in, IntWalk.toNatUp, IntWalk.iteOmega]); (try go_simp); rfl)) | refine lex_skip rfl ?_); simp only [Act.put, Act.eval, Array.getD_eq_getD_getElem?, List.getElem?_toArray, List.getElem?_cons_zero, List.getElem?_cons_succ, Option.getD_some, List.setIfInBounds_toArray, List.set_cons_succ, List.set_cons_zero])
    refine lex_nil ?_
    clear q7 HNd
    have hW2 := below_trans hW hB2
    have HS := Lib.hid (And.intro (hS1.below hW2) (And.intro (hX1.trans (Ext.of_below (S := fun j => b.all j ∨ k.all j) hW2) (fun _ _ h => h)) ha1))
    have hnd := need_pos m hl
    obtain ⟨K, hK⟩ : ∃ K, need m = K := ⟨_, rfl⟩
    rw [hK] at hnd ⊢
    have HK := Lib.hid hK
    have hnx := ho.next
    have hnx' : (L.fall x.off).next = L.next := rfl
    rw [hnx']
    obtain ⟨n, hn⟩ : ∃ n, L.next = n := ⟨_, rfl⟩
    rw [hn] at hnx ⊢
    have Hn := Lib.hid hn
    clear hn hnx' hK hW2 hW hB2 hS1 hX1 ha1 y0 y1 y2 y3 y4 y5 y6 y7
    have e1 := IntWalk.u64_in ((n : Int) + (K : Int)) (by omega)
    have e2 := IntWalk.u64_in ((n : Int) + (K : Int) - 1) (by omega)
    by_cases hend : 281474976710655 < n + K - 1
    · have hend' : (281474976710655 : Int) < (n : Int) + (K : Int) - 1 := by omega
      have hR : appendR x first size L rec = (x, L.fall x.off, 0, 6) := by
        unfold appendR
        rw [if_neg (by rw [Hf.out]; decide), Hm.out, HK.out, Hn.out, if_pos hend]
      have HRR := Lib.hid hR
      clear hR
      go_wp2_with fail
      go_ret2
      rw [HRR.out]
      exact ⟨rfl, (LPost.same (b := b) (k := k) (w := w) h (Below.refl _ _) |> fun _ => ⟨b1, k1, hd1, hl1, HS.out.2.2, HS.out.2.1, HS.out.1.mono (by omega)⟩)⟩
    · have hend' : ¬ (281474976710655 : Int) < (n : Int) + (K : Int) - 1 := by omega
      have HFr := Lib.hid (free_any b1.d first size k1 (L.fall x.off) W2 HS.out.1.log HS.out.1.big (by have := HS.out.1.le; omega) (ho.fall _))
      rw [hl1] at HFr
      have hfr : (L.fall x.off).free size = L.free size := rfl
      rw [hfr] at HFr
      obtain ⟨F, hF⟩ : ∃ F, L.free size = F := ⟨_, rfl⟩
      rw [hF] at HFr
      have HF := Lib.hid hF
      clear hF hfr
      go_wp2_with fail
      refine HFr.out.mono ?_
      rintro e W3 ⟨rfl, hB3⟩
      have HS3 := Lib.hid (And.intro (HS.out.1.below hB3) (HS.out.2.1.trans (Ext.of_below (S := fun j => b.all j ∨ k.all j) hB3) (fun _ _ h => h)))
      clear HFr hB3
      by_cases hfull : F < K
      · have hfull' : (F : Int) < (K : Int) := by omega
        have hR : appendR x first size L rec = (x, L.fall x.off, 0, 2) := by
          unfold appendR
          rw [if_neg (by rw [Hf.out]; decide), Hm.out, HK.out, Hn.out, if_neg hend, HF.out, if_pos hfull]
        have HRR := Lib.hid hR
        clear hR
        go_wp2_with fail
        go_ret2
        rw [HRR.out]
        exact ⟨rfl, b1, k1, hd1, hl1, HS.out.2.2, HS3.out.2, HS3.out.1.mono (by omega)⟩
      · have hfull' : ¬ (F : Int) < (K : Int) := by omega
        have hR : appendR x first size L rec = match appX x first size n L.head.epoch rec K with
          | (y, true) => (y, ⟨L.head, n + K, L.starts ++ [n], L.epochs ++ [L.head.epoch], L.fallen || x.off⟩, n, 0)
          | (y, false) => (y, L.fall true, 0, 5) := by
          unfold appendR
          rw [if_neg (by rw [Hf.out]; decide), Hm.out, HK.out, Hn.out, if_neg hend, HF.out, if_neg hfull]
        have HRR := Lib.hid hR
        clear hR
        obtain ⟨ep, hep⟩ : ∃ ep, L.head.epoch = ep := ⟨_, rfl⟩
        have hepb := ho.epoch
        rw [hep] at HRR hepb
        have Hep := Lib.hid hep
        clear hep
        go_wp2_with fail
        go_loopw [52] (fun vi wr => ∃ i : Nat, vi = .int .i64 i ∧ i ≤ K ∧ (appX x first size n ep rec i).2 = true ∧ LPost w b k (appX x first size n ep rec i).1 (N + i) first size (L.fall x.off) wr)
          (fun vi _ => K - (intOf vi).toNat)
        case atStart => exact ⟨0, rfl, Nat.zero_le _, rfl, b1, k1, hd1, hl1, HS.out.2.2, HS3.out.2, HS3.out.1⟩
        case round =>
          obtain ⟨i, rfl, hi, hap, b2, k2, hd2, hl2, ha2, hX2, hS2⟩ := hrel
          clear HS HS3 hd1 hl1
          by_cases hik : i < K
          · have hik' : (i : Int) < (K : Int) := by omega
            have hcs := hS2.log.cs
            rw [hl2, hd2] at hcs
            obtain ⟨y0, y1, y2, -, y4, -⟩ := hcs
            have y4 : wr.cell? ⟨k.l, 4, none⟩ = some (.int .u64 (ep : Int)) := by rw [← Hep.out]; exact y4
            have hi104 : i * 104 < m := by
              have hk := HK.out
              unfold need at hk
              rw [if_pos hl] at hk
              omega
            obtain ⟨d, hd⟩ : ∃ d, min 104 (m - i * 104) = d := ⟨_, rfl⟩
            have hdI : (if ((i : Int) + 1) * 104 < (m : Int) then ((i : Int) + 1) * 104 else (m : Int)) = (i : Int) * 104 + (d : Int) := by rw [← hd]; split <;> omega
            have hd1 : d ≤ 104 := by omega
            have hd2' : i * 104 + d ≤ m := by omega
            have hd3 : 1 ≤ d := by omega
            have hi1 : (i : Int) ≤ 79 := by omega
            have q1 : (i : Int) * 104 ≤ (m : Int) := by omega
            have q2 : (i : Int) * 104 + (d : Int) ≤ (m : Int) := by omega
            have HD := Lib.hid hd
            clear hd
            go_wp2_with fail
            refine wp_region_rg_tail 24 (fun i => if i = 23 then some (fun v w' => ∃ n, v = .pointer (some ⟨n, 0, none⟩) ∧ wr.heap.size ≤ n ∧ w'.heap[n]? = some (.cells #[.int .u64 0, .int .u64 0, .int .i64 0, .int .i64 0, .slice none 0 0] 138 (0, 0))) else none) fol (by kernel_rfl) (fun V hV hh => ?_)
            clear hh
            have z4 := rcell hV y4
            simp only [List.take_succ_cons, List.take_zero, List.drop_succ_cons, List.drop_zero]
            repeat ((first | refine lex_move _ (by first | exact Or.inl rfl | exact Or.inr rfl) rfl rfl ?_ | (refine lex_float ?_ rfl rfl (fun w1 hb1 hf1 => ?_) ?_; rotate_left; (go_simp; (try simp (disch := omega) only [IntWalk.i64_quo, IntWalk.rem_in, IntWalk.i64_in, IntWalk.u64_in, IntWalk.u32_in, IntWalk.u8_in, IntWalk.toNatUp, IntWalk.iteOmega]); (try go_simp); rfl)) | refine lex_skip rfl ?_); simp only [Act.put, Act.eval, Array.getD_eq_getD_getElem?, List.getElem?_toArray, List.getElem?_cons_zero, List.getElem?_cons_succ, Option.getD_some, List.setIfInBounds_toArray, List.set_cons_succ, List.set_cons_zero])
            refine lex_make _ rfl (by exact fun _ _ _ ⟨n, h1, h2, h3⟩ hb => ⟨n, h1, h2, below_heap hb h3⟩) rfl (fun w1 hb1 hf1 => ?_) ?_
            · have hsz1 := (below_trans hV hb1).size
              (unfold makes; go_simp; simp only [makesUpon])
              exact ⟨below_box _ _, _, rfl, by omega, World.alloc_heap_new _ _⟩
            rintro v5 V5 hV5 ⟨pm, rfl, hpm, gpm⟩
            simp only [Act.put, Act.eval, Array.getD_eq_getD_getElem?, List.getElem?_toArray, List.getElem?_cons_zero, List.getElem?_cons_succ, Option.getD_some, List.setIfInBounds_toArray, List.set_cons_succ, List.set_cons_zero]
            repeat ((first | refine lex_move _ (by first | exact Or.inl rfl | exact Or.inr rfl) rfl rfl ?_ | (refine lex_float ?_ rfl rfl (fun w1 hb1 hf1 => ?_) ?_; rotate_left; (go_simp; (try simp (disch := omega) only [IntWalk.i64_quo, IntWalk.rem_in, IntWalk.i64_in, IntWalk.u64_in, IntWalk.u32_in, IntWalk.u8_in, IntWalk.toNatUp, IntWalk.iteOmega]); (try go_simp); rfl)) | refine lex_skip rfl ?_); simp only [Act.put, Act.eval, Array.getD_eq_getD_getElem?, List.getElem?_toArray, List.getElem?_cons_zero, List.getElem?_cons_succ, Option.getD_some, List.setIfInBounds_toArray, List.set_cons_succ, List.set_cons_zero])
            refine lex_nil ?_
            clear z4
            have hW5 : Below wr.heap.size wr V5 := below_trans hV hV5
            obtain ⟨z0, z1, z2, z3, z4⟩ := box5 gpm
            have fn : ∀ j, V5.frozen? ⟨pm, j, none⟩ = false := fun j => by simp [World.frozen?, gpm]
            have hset := heap_set5 (.int .u64 ((n : Int) + (i : Int))) (.int .u64 (ep : Int)) (.int .i64 (m : Int)) (.int .i64 (i : Int)) (.slice (some ⟨g, o + i * 104, none⟩) d (c - i * 104)) gpm
            have hXm := ext_set5 V5 pm (.int .u64 ((n : Int) + (i : Int))) (.int .u64 (ep : Int)) (.int .i64 (m : Int)) (.int .i64 (i : Int)) (.slice (some ⟨g, o + i * 104, none⟩) d (c - i * 104))
            have HS5 := Lib.hid (And.intro hset hXm)
            clear gpm y0 y1 y2 y4 hset hXm
            go_wp2_with fail
            have hset := HS5.out.1
            have hXm := HS5.out.2
            clear HS5 z0 z1 z2 z3 z4 fn
            generalize World.setCell _ ⟨pm, 4, none⟩ _ = V6 at hset hXm ⊢
            have hB6 : Below wr.heap.size wr V6 := hW5.trans (hXm.to_belowAt hW5.size fun j hj => by omega)
            have HS6 := Lib.hid (And.intro (hS2.below hB6) hB6)
            clear hXm hW5 hV5 hV hB6
            have hcs := HS6.out.1.log.cs
            rw [hl2, hd2] at hcs
            obtain ⟨y0, y1, y2, -⟩ := hcs
            obtain ⟨z0, z1, z2, z3, z4⟩ := box5 hset
            have hle := HS6.out.1.le
            have hbig := HS6.out.1.big
            have HRg := Lib.hid fun w' => ring_any (some ⟨b.d, 0, none⟩) first size (n + i) w' (by omega) (by omega) (by omega) (by omega)
            have hlrec := Hm.out
            have hsrc : Src wr (.slice (some ⟨g, o + i * 104, none⟩) d (c - i * 104)) (u8s (chunk rec i)) := by
              have hcl : (u8s (chunk rec i)).length = d := by rw [u8s_length, chunk_len, hlrec, HD.out]
              refine .inl ⟨g, o + i * 104, c - i * 104, by rw [hcl], by rw [hcl]; omega, fun j u hu => ?_⟩
              have hj : j < d := by
                have := (List.getElem?_eq_some_iff.1 hu).1
                rwa [hcl] at this
              have hu2 : (u8s rec)[i * 104 + j]? = some u := by
                rw [← hu]
                unfold chunk
                rw [u8s_take, u8s_drop, List.getElem?_take_of_lt (by omega), List.getElem?_drop]
              have h5 := Hhr.out _ _ hu2
              rw [Nat.add_assoc]
              exact hX2.cell_some h5 (by rintro (h | h); exact Hfar.out.1 h; exact Hfar.out.2 h)
            have HPt := Lib.hid fun W (hW : Below wr.heap.size wr W) => ptext_any ⟨n + i, ep, m, i, chunk rec i⟩ (.slice (some ⟨g, o + i * 104, none⟩) d (c - i * 104)) (by show n + i < _; omega) (by show ep < _; omega) (by show m ≤ _; omega) (by show i ≤ _; omega) ((hb.drop _).take _) (by show (chunk rec i).length ≤ _; rw [chunk_len]; omega) W (hS2.sys.pkg.below hW) (hsrc.below hW)
            have hpt : sealed' (pieceRaw ⟨n + i, ep, m, i, chunk rec i⟩) = pieceText n ep rec i := by unfold pieceText; rw [hlrec]
            rw [hpt] at HPt
            have hok := pieceRaw_len (p := ⟨n + i, ep, m, i, chunk rec i⟩) ((hb.drop _).take _) (by show (chunk rec i).length ≤ _; rw [chunk_len]; omega)
            rw [hpt] at hok
            have Hok := Lib.hid hok
            clear hpt hok hsrc hlrec hset
            simp only at HPt
            refine wp_region_rg_tail 14 (fun j => if j = 11 then some (fun v _ => v = .int .i64 (ringN first size (n + i))) else if j = 13 then some (fun v w' => ∃ ad c, v = .slice ad 128 c ∧ Src w' v (u8s (pieceText n ep rec i))) else none) fol (by kernel_rfl) (fun V hV hh => ?_)
            clear hh
            have r0 := rcell hV y0
            have r1 := rcell hV y1
            have r2 := rcell hV y2
            have t0 := rcell hV z0
            have t1 := rcell hV z1
            have t2 := rcell hV z2
            have t3 := rcell hV z3
            have t4 := rcell hV z4
            simp only [List.take_succ_cons, List.take_zero, List.drop_succ_cons, List.drop_zero]
            repeat ((first | refine lex_move _ (by first | exact Or.inl rfl | exact Or.inr rfl) rfl rfl ?_ | (refine lex_float ?_ rfl rfl (fun w1 hb1 hf1 => ?_) ?_; rotate_left; (go_simp; (try simp (disch := omega) only [IntWalk.i64_quo, IntWalk.rem_in, IntWalk.i64_in, IntWalk.u64_in, IntWalk.u32_in, IntWalk.u8_in, IntWalk.toNatUp, IntWalk.iteOmega]); (try go_simp); rfl)) | refine lex_skip rfl ?_); simp only [Act.put, Act.eval, Array.getD_eq_getD_getElem?, List.getElem?_toArray, List.getElem?_cons_zero, List.getElem?_cons_succ, Option.getD_some, List.setIfInBounds_toArray, List.set_cons_succ, List.set_cons_zero])
            refine lex_make _ rfl (by exact fun _ _ _ h _ => h) rfl (fun w1 hb1 hf1 => ?_) ?_
            · (unfold makes; go_simp; simp only [makesUpon])
              refine (HRg.out _).mono ?_
              rintro e w' ⟨rfl, hbb⟩
              exact ⟨_, rfl, hbb, rfl⟩
            rintro v9 W9 hB9 rfl
            simp only [Act.put, Act.eval, Array.getD_eq_getD_getElem?, List.getElem?_toArray, List.getElem?_cons_zero, List.getElem?_cons_succ, Option.getD_some, List.setIfInBounds_toArray, List.set_cons_succ, List.set_cons_zero]
            repeat ((first | refine lex_move _ (by first | exact Or.inl rfl | exact Or.inr rfl) rfl rfl ?_ | (refine lex_float ?_ rfl rfl (fun w1 hb1 hf1 => ?_) ?_; rotate_left; (go_simp; (try simp (disch := omega) only [IntWalk.i64_quo, IntWalk.rem_in, IntWalk.i64_in, IntWalk.u64_in, IntWalk.u32_in, IntWalk.u8_in, IntWalk.toNatUp, IntWalk.iteOmega]); (try go_simp); rfl)) | refine lex_skip rfl ?_); simp only [Act.put, Act.eval, Array.getD_eq_getD_getElem?, List.getElem?_toArray, List.getElem?_cons_zero, List.getElem?_cons_succ, Option.getD_some, List.setIfInBounds_toArray, List.set_cons_succ, List.set_cons_zero])
            refine lex_make _ rfl (by exact fun _ _ _ ⟨ad, c, h1, h2⟩ hb => ⟨ad, c, h1, h2.below hb⟩) rfl (fun w1 hb1 hf1 => ?_) ?_
            · have hbb1 := below_trans HS6.out.2 (below_trans hV hb1)
              (unfold makes; go_simp; simp only [makesUpon])
              refine (HPt.out _ hbb1).mono ?_
              rintro e w' ⟨u, rfl, hown, hbb⟩
              obtain ⟨g, c, rfl, -⟩ := owns_parts hown (by decide)
              exact ⟨_, rfl, hbb, ⟨_, _, rfl⟩, Src.of_owns hown⟩
            rintro v10 W10 hB10 ⟨ad, pc, rfl, hsrc⟩
            simp only [Act.put, Act.eval, Array.getD_eq_getD_getElem?, List.getElem?_toArray, List.getElem?_cons_zero, List.getElem?_cons_succ, Option.getD_some, List.setIfInBounds_toArray, List.set_cons_succ, List.set_cons_zero]
            repeat ((first | refine lex_move _ (by first | exact Or.inl rfl | exact Or.inr rfl) rfl rfl ?_ | (refine lex_float ?_ rfl rfl (fun w1 hb1 hf1 => ?_) ?_; rotate_left; (go_simp; (try simp (disch := omega) only [IntWalk.i64_quo, IntWalk.rem_in, IntWalk.i64_in, IntWalk.u64_in, IntWalk.u32_in, IntWalk.u8_in, IntWalk.toNatUp, IntWalk.iteOmega]); (try go_simp); rfl)) | refine lex_skip rfl ?_); simp only [Act.put, Act.eval, Array.getD_eq_getD_getElem?, List.getElem?_toArray, List.getElem?_cons_zero, List.getElem?_cons_succ, Option.getD_some, List.setIfInBounds_toArray, List.set_cons_succ, List.set_cons_zero])
            refine lex_nil ?_
            clear r0 r1 r2 t0 t1 t2 t3 t4 y0 y1 y2 z0 z1 z2 z3 z4 HRg HPt
            have hB10' := below_trans hV (below_trans hB9 hB10)
            have HS10 := Lib.hid (And.intro (HS6.out.1.below hB10') (below_trans HS6.out.2 hB10'))
            have hri : ringN first size (n + i) < (appX x first size n ep rec i).1.dur.length := by
              have h1 := Nat.mod_lt (n + i) (show 0 < size - 2 by omega)
              have h2 := HS10.out.1.fit
              unfold ringN
              omega
            have HWr := Lib.hid (write_sys b2 (appX x first size n ep rec i).1 (N + i) (ringN first size (n + i)) hri (.slice ad 128 pc) (pieceText n ep rec i) Hok.out.1 Hok.out.2 W10 HS10.out.1.sys (by omega) hsrc)
            rw [hd2] at HWr
            clear hsrc hri
            go_wp2_with fail
            refine HWr.out.mono ?_
            rintro e W11 ⟨rfl, hP11⟩
            have hP := HS10.out.1.disked hP11 (by rw [writeX_dur])
            have hstep : appX x first size n ep rec (i + 1) = (writeX (appX x first size n ep rec i).1 (ringN first size (n + i)) (pieceText n ep rec i), goesB (appX x first size n ep rec i).1) := by
              show (match appX x first size n ep rec i with | (y, true) => _ | (y, false) => _) = _
              generalize appX x first size n ep rec i = q at hap ⊢
              obtain ⟨y, t⟩ := q
              simp only at hap
              subst hap
              rfl
            obtain ⟨b3, k3, hd3, hl3, ha3, hX3, hS3⟩ : LPost w b k (appX x first size n ep rec (i + 1)).1 (N + (i + 1)) first size (L.fall x.off) W11 := by
              rw [hstep]
              exact .trans hd2 hl2 ha2 hX2 (.of_below HS10.out.2 hP)
            clear hP hP11
            cases hgo : goesB (appX x first size n ep rec i).1
            · have hge : goesE (appX x first size n ep rec i).1 = 5 := by simp [goesE, hgo]
              rw [hge]
              have hfin : appX x first size n ep rec K = (writeX (appX x first size n ep rec i).1 (ringN first size (n + i)) (pieceText n ep rec i), false) := by
                rw [hgo] at hstep
                exact appX_stop hstep (by omega)
              have hRR := HRR.out
              rw [hfin] at hRR
              simp only at hRR
              have HRR2 := Lib.hid hRR
              have hst1 : (appX x first size n ep rec (i + 1)).1 = writeX (appX x first size n ep rec i).1 (ringN first size (n + i)) (pieceText n ep rec i) := by rw [hstep]
              rw [hst1] at hS3
              have HF := Lib.hid (falls_any b3.d first size k3 (L.fall x.off) true W11 hS3.log)
              rw [hl3] at HF
              have HS3 := Lib.hid (And.intro hS3 (And.intro ha3 hX3))
              clear hst1 hstep hfin hRR HRR hge hgo hS3 ha3 hX3 hap
              go_wp2_with fail
              refine HF.out.mono ?_
              rintro e W12 ⟨rfl, hL12, hX12⟩
              rw [Bool.or_true]
              have HL12 := Lib.hid (And.intro hL12 hX12)
              clear hL12 hX12 HF
              go_wp2_with fail
              go_ret2
              rw [HRR2.out]
              refine ⟨rfl, .mono (.trans hd3 hl3 HS3.out.2.1 HS3.out.2.2 ?_) (show N + (i + 1) ≤ N + 79 by omega)⟩
              have hff : (L.fall x.off).fall true = L.fall true := by unfold LogS.fall; simp
              have h12 := HL12.out.1
              rw [hff] at h12
              exact HS3.out.1.headed (HL12.out.2.mono fun j _ e => e.trans hl3.symm) h12
            · have hge : goesE (appX x first size n ep rec i).1 = 0 := by simp [goesE, hgo]
              rw [hge]
              have HS3 := Lib.hid (And.intro hS3 (And.intro ha3 hX3))
              have Hst := Lib.hid (show (appX x first size n ep rec (i + 1)).2 = true by rw [hstep]; exact hgo)
              clear hstep hge hgo hS3 ha3 hX3 hap
              go_wp2_with fail
              refine ⟨⟨i + 1, by simp, by omega, Hst.out, b3, k3, hd3, hl3, HS3.out.2.1, HS3.out.2.2, HS3.out.1⟩, ?_⟩
              show K - ((i : Int) + 1).toNat < K - (i : Int).toNat
              omega
          · have hik' : ¬ (i : Int) < (K : Int) := by omega
            obtain rfl : i = K := by omega
            have hcs := hS2.log.cs
            rw [hl2, hd2] at hcs
            obtain ⟨y0, y1, y2, y3, y4, y5, y6, y7, y8, y9, -, -⟩ := hcs
            have hlg := hS2.log
            obtain ⟨sa, sc, hks, -⟩ := owns_shape hlg.starts
            obtain ⟨ea, ec, hke, -⟩ := owns_shape hlg.epochs
            rw [hks] at y8
            rw [hke] at y9
            have y4 : wr.cell? ⟨k.l, 4, none⟩ = some (.int .u64 (ep : Int)) := by rw [← Hep.out]; exact y4
            have y7 : wr.cell? ⟨k.l, 7, none⟩ = some (.int .u64 (n : Int)) := by rw [← Hn.out]; exact y7
            have hls := ho.short
            have hle := ho.len
            obtain ⟨LL, hLL⟩ : ∃ LL, L.fall x.off = LL := ⟨_, rfl⟩
            have hLs : LL.starts = L.starts := by rw [← hLL]; rfl
            have hLe : LL.epochs = L.epochs := by rw [← hLL]; rfl
            rw [hLL] at hlg hks hke y8 y9 hS2
            have hno : ∀ j y, ¬ numS k2 LL n ep k.l j y := by rw [← hl2]; exact numS_not hlg (.inr rfl)
            have HG := Lib.hid hlg
            have HSt := Lib.hid (And.intro (And.intro hLs hLe) (And.intro hks hke))
            have hlls : LL.starts.length ≤ 65536 := by rw [hLs]; exact ho.short
            have hlle : LL.epochs.length ≤ 65536 := by rw [hLe, ho.len]; exact ho.short
            have HS2 := Lib.hid (And.intro hS2 (And.intro hX2 ha2))
            have Hap := Lib.hid hap
            clear hlg hS2 hX2 ha2 hls hle hLs hLe hks hke hap y0 y1 y2 y3 y5 y6
            go_wp2_with fail
            refine wp_region_latex (growS (numS k2 LL n ep)) 23 [1] (fun i => if i = 7 then some (fun _ => oneN wr.heap.size n) else if i = 8 then some (fun _ => appS wr.heap.size k2 LL n) else if i = 18 then some (fun _ => oneN wr.heap.size ep) else if i = 19 then some (fun sn => appE wr.heap.size k2 LL ep (sn 106)) else none) (fun _ => True) (fun _ _ => True) fol (by kernel_rfl) (fun _ _ _ _ _ => trivial) (fun W hW hh => ?_)
            clear hh
            have HGW := Lib.hid (HG.out.below hW)
            have q4 := gcell (S := numS k2 LL n ep) (below_cell hW y4) hno
            have q7 := gcell (S := numS k2 LL n ep) (below_cell hW y7) hno
            have q8 := gcell (S := numS k2 LL n ep) (below_cell hW y8) hno
            have q9 := gcell (S := numS k2 LL n ep) (below_cell hW y9) hno
            have HSZ := Lib.hid hW.size
            have hstarts : ∀ w1, (growS (numS k2 LL n ep)).r W w1 → w1.ownsRow 0 28 1 k2.s LL.starts.length (nums LL.starts) := fun w1 hr => SetsR.owns hr HGW.out.starts fun g j y hg hs => by
              rcases hs with ⟨-, rfl, -⟩ | ⟨h4, -⟩
              · left; omega
              · exact absurd h4 (HGW.out.ne3 g hg)
            have hepochs : ∀ w1, (growS (numS k2 LL n ep)).r W w1 → w1.ownsRow 0 28 1 k2.e LL.epochs.length (nums LL.epochs) := fun w1 hr => SetsR.owns hr HGW.out.epochs fun g j y hg hs => by
              rcases hs with ⟨h4, -⟩ | ⟨-, rfl, -⟩
              · exact absurd hg (HGW.out.ne3 g h4)
              · left; omega
            have Hstarts := Lib.hid hstarts
            have Hepochs := Lib.hid hepochs
            clear hstarts hepochs
            simp only [List.take_succ_cons, List.take_zero, List.drop_succ_cons, List.drop_zero]
            repeat (first
              | (refine rx_move _ (by first | exact Or.inl rfl | exact Or.inr rfl) (by first | exact Or.inl rfl | exact Or.inr rfl) rfl ?_
                 simp only [Act.put, Act.eval, Array.getD_eq_getD_getElem?, List.getElem?_toArray, List.getElem?_cons_zero, List.getElem?_cons_succ, Option.getD_some, List.setIfInBounds_toArray, List.set_cons_succ, List.set_cons_zero]
                )
              | (refine rx_small ?_ rfl rfl (fun w1 hb1 hf1 => ?_) ?_
                 rotate_left
                 (go_simp; (try simp (disch := omega) only [IntWalk.i64_quo, IntWalk.rem_in, IntWalk.i64_in, IntWalk.u64_in, IntWalk.u32_in, IntWalk.u8_in, IntWalk.toNatUp, IntWalk.iteOmega]); (try go_simp); rfl)
                 simp only [Act.put, Act.eval, Array.getD_eq_getD_getElem?, List.getElem?_toArray, List.getElem?_cons_zero, List.getElem?_cons_succ, Option.getD_some, List.setIfInBounds_toArray, List.set_cons_succ, List.set_cons_zero]
                )
              | (refine rx_skip (by first | exact Or.inl rfl | exact Or.inr rfl) rfl ?_
                 simp only [Act.put, Act.eval, Array.getD_eq_getD_getElem?, List.getElem?_toArray, List.getElem?_cons_zero, List.getElem?_cons_succ, Option.getD_some, List.setIfInBounds_toArray, List.set_cons_succ, List.set_cons_zero]
                ))
            refine rx_make _ rfl (oneN_stab HG.out) rfl (fun w1 hr1 hf1 => ?_) (fun v7 w7 hr7 hS7 => ?_)
            · exact makes_of (exec_build_one 101 1 (.tmp 104) rfl (build_num n w1)) ⟨SetsR.of_below (below_box _ _), _, rfl, Nat.le_trans HSZ.out hr1.size, box11 (World.alloc_heap_new _ _) 0 _ rfl⟩
            obtain ⟨g7, rfl, hg7, hc7⟩ := hS7
            simp only [Act.put, Act.eval, Array.getD_eq_getD_getElem?, List.getElem?_toArray, List.getElem?_cons_zero, List.getElem?_cons_succ, Option.getD_some, List.setIfInBounds_toArray, List.set_cons_succ, List.set_cons_zero]
            refine rx_make _ rfl (appS_stab HG.out) rfl (fun w1 hr1 hf1 => ?_) (fun v8 w8 hr8 hS8 => ?_)
            · have h7 : oneN wr.heap.size n (.slice (some ⟨g7, 0, none⟩) 1 1) w1 := hf1 105 (.inl (by decide)) (by simp)
              obtain ⟨g7', e7, -, hc7'⟩ := h7
              injection e7 with e7
              injection e7 with e7
              injection e7 with e7
              subst e7
              obtain ⟨v', w', r1, r2, r3, r4⟩ := app_num w1 k2.s _ _ (Hstarts.out w1 hr1) (by omega) g7 1 _ hc7' rfl 101
              rw [HSt.out.2.1] at r1
              refine makes_of (exec_append (.tmp 103) (.tmp 105) 101 101 rfl r1) ⟨r3.mono fun k j y h => .inl h, by rw [nums_append]; exact r2, fun j hj => (r4 j hj).imp id fun h => Nat.le_trans HSZ.out (Nat.le_trans hr1.size h)⟩
            simp only [Act.put, Act.eval, Array.getD_eq_getD_getElem?, List.getElem?_toArray, List.getElem?_cons_zero, List.getElem?_cons_succ, Option.getD_some, List.setIfInBounds_toArray, List.set_cons_succ, List.set_cons_zero]
            repeat (first
              | (refine rx_move _ (by first | exact Or.inl rfl | exact Or.inr rfl) (by first | exact Or.inl rfl | exact Or.inr rfl) rfl ?_
                 simp only [Act.put, Act.eval, Array.getD_eq_getD_getElem?, List.getElem?_toArray, List.getElem?_cons_zero, List.getElem?_cons_succ, Option.getD_some, List.setIfInBounds_toArray, List.set_cons_succ, List.set_cons_zero]
                )
              | (refine rx_small ?_ rfl rfl (fun w1 hb1 hf1 => ?_) ?_
                 rotate_left
                 (go_simp; (try simp (disch := omega) only [IntWalk.i64_quo, IntWalk.rem_in, IntWalk.i64_in, IntWalk.u64_in, IntWalk.u32_in, IntWalk.u8_in, IntWalk.toNatUp, IntWalk.iteOmega]); (try go_simp); rfl)
                 simp only [Act.put, Act.eval, Array.getD_eq_getD_getElem?, List.getElem?_toArray, List.getElem?_cons_zero, List.getElem?_cons_succ, Option.getD_some, List.setIfInBounds_toArray, List.set_cons_succ, List.set_cons_zero]
                )
              | (refine rx_skip (by first | exact Or.inl rfl | exact Or.inr rfl) rfl ?_
                 simp only [Act.put, Act.eval, Array.getD_eq_getD_getElem?, List.getElem?_toArray, List.getElem?_cons_zero, List.getElem?_cons_succ, Option.getD_some, List.setIfInBounds_toArray, List.set_cons_succ, List.set_cons_zero]
                ))
            refine rx_make _ rfl (oneN_stab HG.out) rfl (fun w1 hr1 hf1 => ?_) (fun v18 w18 hr18 hS18 => ?_)
            · exact makes_of (exec_build_one 101 1 (.tmp 115) rfl (build_num ep w1)) ⟨SetsR.of_below (below_box _ _), _, rfl, Nat.le_trans HSZ.out hr1.size, box11 (World.alloc_heap_new _ _) 0 _ rfl⟩
            obtain ⟨g18, rfl, hg18, hc18⟩ := hS18
            simp only [Act.put, Act.eval, Array.getD_eq_getD_getElem?, List.getElem?_toArray, List.getElem?_cons_zero, List.getElem?_cons_succ, Option.getD_some, List.setIfInBounds_toArray, List.set_cons_succ, List.set_cons_zero]
            refine rx_make _ rfl (appE_stab HG.out _) rfl (fun w1 hr1 hf1 => ?_) (fun v19 w19 hr19 hS19 => ?_)
            · have h7 : oneN wr.heap.size ep (.slice (some ⟨g18, 0, none⟩) 1 1) w1 := hf1 116 (.inl (by decide)) (by simp)
              have h8 : appS wr.heap.size k2 LL n v8 w1 := hf1 106 (.inr (by decide)) (by simp)
              obtain ⟨g7', e7, -, hc7'⟩ := h7
              injection e7 with e7
              injection e7 with e7
              injection e7 with e7
              subst e7
              obtain ⟨v', w', r1, r2, r3, r4⟩ := app_num w1 k2.e _ _ (Hepochs.out w1 hr1) (by omega) g18 1 _ hc7' rfl 101
              rw [HSt.out.2.2] at r1
              refine makes_of (exec_append (.tmp 110) (.tmp 116) 101 101 rfl r1) ⟨r3.mono fun k j y h => .inr h, by rw [nums_append]; exact r2, fun j hj => (r4 j hj).imp id fun h => Nat.le_trans HSZ.out (Nat.le_trans hr1.size h), ?_⟩
              rw [seen_of (t := 106) (v := v8) ?s1 ?s2]
              case s1 => exact .inr (by decide)
              case s2 => rfl
              intro j hj hj2
              have hlt8 := owns_lt h8.1 hj
              rcases r4 j hj2 with h | h
              · rcases h8.2 j hj with h9 | h9
                · exact HG.out.ne3 j h9 h
                · have := HG.out.lt j (.inr (.inr h)); omega
              · omega
            rw [seen_of (t := 106) (v := v8) ?s1 ?s2] at hS19
            case s1 => exact .inr (by decide)
            case s2 => rfl
            have hrW := (growS (numS k2 LL n ep)).trans hr7 ((growS (numS k2 LL n ep)).trans hr8 ((growS (numS k2 LL n ep)).trans hr18 hr19))
            have hS8' := appS_stab HG.out v8 _ _ hS8 ((growS (numS k2 LL n ep)).trans hr18 hr19)
            have hc19 : w19.heap[k.l]? = some (.cells (logCells b2.d first size k2 LL) 134 (0, 0)) := by
              have := SetsR.heap hrW HGW.out.cells (by rw [hl2]; exact hno)
              rwa [hl2] at this
            have fr19 : ∀ j, w19.frozen? ⟨k.l, j, none⟩ = false := fun j => by simp [World.frozen?, hc19]
            have d7 := q7 w19 hrW
            have d8 := box11 hc19 8 _ rfl
            have d9 := box11 hc19 9 _ rfl
            obtain ⟨a8, c8, rfl, -⟩ := owns_shape hS8.1
            obtain ⟨a19, c19, rfl, -⟩ := owns_shape hS19.1
            simp only [Act.put, Act.eval, Array.getD_eq_getD_getElem?, List.getElem?_toArray, List.getElem?_cons_zero, List.getElem?_cons_succ, Option.getD_some, List.setIfInBounds_toArray, List.set_cons_succ, List.set_cons_zero]
            repeat (first
              | (refine rx_move _ (by first | exact Or.inl rfl | exact Or.inr rfl) (by first | exact Or.inl rfl | exact Or.inr rfl) rfl ?_
                 simp only [Act.put, Act.eval, Array.getD_eq_getD_getElem?, List.getElem?_toArray, List.getElem?_cons_zero, List.getElem?_cons_succ, Option.getD_some, List.setIfInBounds_toArray, List.set_cons_succ, List.set_cons_zero]
                )
              | (refine rx_small ?_ rfl rfl (fun w1 hb1 hf1 => ?_) ?_
                 rotate_left
                 (go_simp; (try simp (disch := omega) only [IntWalk.i64_quo, IntWalk.rem_in, IntWalk.i64_in, IntWalk.u64_in, IntWalk.u32_in, IntWalk.u8_in, IntWalk.toNatUp, IntWalk.iteOmega]); (try go_simp); rfl)
                 simp only [Act.put, Act.eval, Array.getD_eq_getD_getElem?, List.getElem?_toArray, List.getElem?_cons_zero, List.getElem?_cons_succ, Option.getD_some, List.setIfInBounds_toArray, List.set_cons_succ, List.set_cons_zero]
                )
              | (refine rx_skip (by first | exact Or.inl rfl | exact Or.inr rfl) rfl ?_
                 simp only [Act.put, Act.eval, Array.getD_eq_getD_getElem?, List.getElem?_toArray, List.getElem?_cons_zero, List.getElem?_cons_succ, Option.getD_some, List.setIfInBounds_toArray, List.set_cons_succ, List.set_cons_zero]
                ))
            refine rx_late (fun _ w' => w' = w19.setCell ⟨k.l, 8, none⟩ (.slice a8 (LL.starts.length + 1) c8)) _ rfl rfl ?_ ?_
            · clear hr8 hr18 hr19 hrW hS8' hS19 q4 q7 q8 q9
              (unfold makes; go_simp; simp only [makesUpon])
            rintro v22 w22 - rfl
            simp only [Act.put, Act.eval, Array.getD_eq_getD_getElem?, List.getElem?_toArray, List.getElem?_cons_zero, List.getElem?_cons_succ, Option.getD_some, List.setIfInBounds_toArray, List.set_cons_succ, List.set_cons_zero]
            refine rx_nil ?_
            have hc20 := heap_cell (j := 9) (heap_cell (j := 8) hc19 (.slice a8 (LL.starts.length + 1) c8)) (.slice a19 (LL.epochs.length + 1) c19)
            have hX20 : Ext (· = k.l) w19 ((w19.setCell ⟨k.l, 8, none⟩ (.slice a8 (LL.starts.length + 1) c8)).setCell ⟨k.l, 9, none⟩ (.slice a19 (LL.epochs.length + 1) c19)) :=
              (Ext.setCell (S := (· = k.l)) (p := ⟨k.l, 8, none⟩) rfl _).trans (Ext.setCell (S := (· = k.l)) (p := ⟨k.l, 9, none⟩) rfl _) (fun _ _ h => h)
            have H20 := Lib.hid (And.intro hc20 (And.intro hX20 (And.intro hrW (And.intro hS8' hS19))))
            clear q4 q7 q8 q9 hc20 hX20 hrW hS8' hS19 hS8 hr7 hr8 hr18 hr19 hc7 hc18 hc19
            have hRR := HRR.out
            have hpair : appX x first size n ep rec i = ((appX x first size n ep rec i).1, true) := by rw [← Hap.out]
            rw [hpair] at hRR
            simp only at hRR
            have HR2 := Lib.hid hRR
            clear hRR hpair
            go_wp2_with fail
            go_ret2
            rw [HR2.out]
            refine ⟨rfl, .mono (.trans hd2 hl2 HS2.out.2.2 HS2.out.2.1 ?_) (show N + i ≤ N + 79 by omega)⟩
            have hX7 := Ext.setCell (S := (· = k2.l)) (w := (w19.setCell ⟨k.l, 8, none⟩ (.slice a8 (LL.starts.length + 1) c8)).setCell ⟨k.l, 9, none⟩ (.slice a19 (LL.epochs.length + 1) c19)) (p := ⟨k.l, 7, none⟩) hl2.symm (.int .u64 ((n : Int) + (i : Int)))
            have hc7 := heap_cell (j := 7) H20.out.1 (.int .u64 ((n : Int) + (i : Int)))
            have hrr : Ext k2.all wr w19 := (Ext.of_below hW).trans (SetsR.logExt H20.out.2.2.1) fun _ _ h => h
            have hXX := (H20.out.2.1.mono (S' := (· = k2.l)) fun j _ e => e.trans hl2.symm).trans hX7 fun _ _ h => h
            rw [← hl2] at hc7
            refine HS2.out.1.num hrr H20.out.2.2.2.1 H20.out.2.2.2.2 hXX ?_ (by rw [HSt.out.1.1]) (by rw [HSt.out.1.2])
            rw [hl2] at hc7 ⊢
            refine hc7.trans ?_
            rw [← hLL]
            rfl
  · have hR : appendR x first size L rec = (x, L.fall x.off, 0, 5) := by unfold appendR; rw [if_pos hf]
    have HRR := Lib.hid (And.intro hR hP1)
    clear hR hP1 hf
    go_wp2_with fail
    go_ret2
    rw [HRR.out.1]
    exact ⟨rfl, HRR.out.2.mono (by omega)⟩
end Go.Proofs.YtbjofbhhnmehgaaGreatDoor.TT
namespace Go.Proofs.YtbjofbhhnmehgaaGreatDoor.TT
open Go.RowKit Go.RG Go.Hp Go.Proofs.YtbjofbhhnmehgaaGreatDoor


/-- what Flush leaves and tells -/
def lflushR (x : Dsk) (L : LogS) : Dsk × LogS × Int :=
  if L.fallen || x.off then (x, L.fall x.off, 5) else (flushX x, L.fall (!goesB x), fallE (!goesB x))
def lflushN (x : Dsk) (L : LogS) (N : Nat) : Nat := if L.fallen || x.off then N else flushN x N
theorem goesE_ne (x : Dsk) : (goesE x != 0) = !goesB x := by unfold goesE; cases goesB x <;> rfl
theorem fall_fall {L : LogS} {o : Bool} (h : (L.fallen || o) = false) (now : Bool) : (L.fall o).fall now = L.fall now := by
  unfold LogS.fall
  simp only [Bool.or_eq_false_iff] at h
  simp [h.1, h.2]
set_option maxRecDepth 100000 in
theorem lflush_any (b : Bks) (x : Dsk) (N first size : Nat) (k : LBk) (L : LogS) (w : World) (h : LSys w b x N first size k L) :
    Calls Tryz.prog 48 #[.pointer (some ⟨k.l, 0, none⟩)] w fun e w' => e = .returned (.int .i64 (lflushR x L).2.2) ∧ LPost w b k (lflushR x L).1 (lflushN x L N) first size (lflushR x L).2.1 w' := by
  have HR := Lib.hid (lready_any b x N first size k L w h)
  clear h
  go_enter Tryz.func48, Tryz.ntmps48
  go_wp2_with fail
  refine HR.out.mono ?_
  rintro e w1 ⟨rfl, b1, k1, hd1, hl1, ha1, hX1, hS1⟩
  cases hf : (L.fallen || x.off)
  · have hcs := hS1.log.cs
    rw [hl1, hd1] at hcs
    obtain ⟨y0, -⟩ := hcs
    have HF := Lib.hid (flush_sys b1 x N w1 hS1.sys)
    rw [hd1] at HF
    have HRR := Lib.hid (show lflushR x L = (flushX x, L.fall (!goesB x), fallE (!goesB x)) ∧ lflushN x L N = flushN x N by unfold lflushR lflushN; rw [if_neg (by rw [hf]; decide), if_neg (by rw [hf]; decide)]; exact ⟨rfl, rfl⟩)
    have Hf := Lib.hid hf
    have HS1 := Lib.hid (And.intro hS1 (And.intro ha1 hX1))
    clear hf hS1 ha1 hX1
    go_wp2_with fail
    refine HF.out.mono ?_
    rintro e w2 ⟨rfl, hP⟩
    obtain ⟨b2, k2, hd2, hl2, ha2, hX2, hS2⟩ := LPost.trans hd1 hl1 HS1.out.2.1 HS1.out.2.2 (HS1.out.1.disked hP (flushX_len x))
    have HFa := Lib.hid (falls_any b2.d first size k2 (L.fall x.off) (!goesB x) w2 hS2.log)
    rw [hl2] at HFa
    have HS2 := Lib.hid (And.intro hS2 (And.intro ha2 hX2))
    have hge := goesE_ne x
    clear hS2 ha2 hX2 hP y0
    go_wp2_with fail
    refine HFa.out.mono ?_
    rintro e w3 ⟨rfl, hL3, hX3⟩
    have HL3 := Lib.hid (And.intro hL3 hX3)
    clear hL3 hX3 hge
    go_wp2_with fail
    go_ret
    rw [HRR.out.1, HRR.out.2]
    have hff := fall_fall Hf.out (!goesB x)
    have h3 := HL3.out.1
    rw [hff] at h3
    refine ⟨?_, .trans hd2 hl2 HS2.out.2.1 HS2.out.2.2 (HS2.out.1.headed (HL3.out.2.mono fun j _ e => e.trans hl2.symm) h3)⟩
    show Ending.returned (.int .i64 (fallE ((L.fallen || x.off) || !goesB x))) = _
    rw [Hf.out]
    rfl
  · have HRR := Lib.hid (show lflushR x L = (x, L.fall x.off, 5) ∧ lflushN x L N = N by unfold lflushR lflushN; rw [if_pos hf, if_pos hf]; exact ⟨rfl, rfl⟩)
    have HS1 := Lib.hid (And.intro hS1 (And.intro ha1 hX1))
    clear hf hS1 ha1 hX1
    go_wp2_with fail
    go_ret
    rw [HRR.out.1, HRR.out.2]
    exact ⟨rfl, b1, k1, hd1, hl1, HS1.out.2.1, HS1.out.2.2, HS1.out.1⟩
/-- what Read tells -/
def lreadR (x : Dsk) (first size : Nat) (L : LogS) (n : Nat) : Except Int (List Int) :=
  if L.fallen || x.off then .error 5 else if n ∈ L.starts then (match recordR x first size n 0 L.head.epoch with
    | .ok d => .ok d.1
    | .error c => .error c) else .error 4
def LReadPost (r : Except Int (List Int)) (B : Nat) (e : Ending) (w' : World) : Prop := match r with
  | .ok d => ∃ u, e = .returned (.tuple #[u, .int .i64 0]) ∧ Win w' B u (u8s d)
  | .error k => k ≠ 0 ∧ e = .returned (.tuple #[.slice none 0 0, .int .i64 k])
end Go.Proofs.YtbjofbhhnmehgaaGreatDoor.TT
