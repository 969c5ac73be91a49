/-
  A region whose order is drawn, some of whose operations (the late ones, of which any two wait for each other) change memory that was there, while what all the others tell is alike whatever these did. Conditions: the program follows mixedOrders; the order's static checks.
-/
import Derived.Test.YtagcohpghgnalaaCGC
set_option linter.unusedSimpArgs false
set_option linter.unusedVariables false
namespace Go.RG
open Go.RowKit

section
variable (P : Program) (ops : Array Oper) (CB : World → Prop) (lt : Nat → Option Spec)

def qStep (i : Nat) (o : Oper) (K : Act → World → Prop) (a : Act) (w : World) : Prop :=
  match lt i with
  | none => ∃ v, YB P ops CB o a v ∧ K (a.put o.dst v) w
  | some R => Region.wanted o (yielded ops a.tmps) = true ∧ makes P o a w (fun v w' => CB w' ∧ R v w') ∧ ∀ v w', CB w' → R v w' → K (a.put o.dst v) w'

def rqAny (md : Region.Mode) (n : Nat) (L : Array Bool → Act → World → Prop) : Nat → Array Bool → Act → World → Prop
  | 0, listed, a, w => L listed a w
  | f + 1, listed, a, w =>
    Region.ready md ops listed ≠ [] ∧ ∀ i ∈ Region.ready md ops listed, i < n ∧ ∃ o, ops[i]? = some o ∧
      qStep P ops CB lt i o (rqAny md n L f (listed.setIfInBounds i true)) a w

def rqLex (Q : Act → World → Prop) : List Oper → Nat → Act → World → Prop
  | [], _, a, w => Q a w
  | o :: rest, k, a, w => qStep P ops CB lt k o (rqLex Q rest (k + 1)) a w
end

section
variable {P : Program} {ops : Array Oper} {CB : World → Prop} {lt : Nat → Option Spec} {md : Region.Mode} {n : Nat}

structure QSides (md : Region.Mode) (ops : Array Oper) (lt : Nat → Option Spec) (n : Nat) : Prop where
  sel : ∀ (j : Nat) (o : Oper) cs b, ops[j]? = some o → o.op ≠ .select cs b
  head : ∀ i, i < n → ∀ listed, HeadInv md ops n listed → listed.getD i true = false → ∀ j ∈ Region.ready md ops listed, j < n
  one : ∀ i j, i < n → j < n → i ≠ j → (lt i).isSome = true → (lt j).isSome = true → ∀ listed, HeadInv md ops n listed → i ∈ Region.ready md ops listed → j ∉ Region.ready md ops listed

theorem wpAny_of_rq {g : Nat} {L : Array Bool → Act → World → Prop} {Q : Exit → Act → World → Prop}
    (hL : ∀ listed a w, L listed a w → wpAny P md ops Q g listed a w) :
    ∀ (f : Nat) (listed : Array Bool) (a : Act) (w : World), HeadInv md ops n listed → CB w → rqAny P ops CB lt md n L f listed a w → wpAny P md ops Q (f + g) listed a w
  | 0, listed, a, w, _, _, h => by rw [Nat.zero_add]; exact hL _ _ _ h
  | f + 1, listed, a, w, inv, hcb, h => by
    rw [show f + 1 + g = (f + g) + 1 by omega]
    refine ⟨fun h0 => absurd h0 h.1, fun i hi => ?_⟩
    obtain ⟨hin, o, ho, hs⟩ := h.2 i hi
    have hgo := fun a' w' => wpAny_of_rq hL f (listed.setIfInBounds i true) a' w' (inv.set hi hin)
    unfold wpOp
    simp only [ho]
    unfold qStep at hs
    split at hs
    · obtain ⟨v, hy, hK⟩ := hs
      have hnext := hgo _ _ hcb hK
      rcases hy with ⟨hw, hr⟩ | ⟨hw, rfl⟩
      · rw [if_pos hw]
        refine .inl ?_
        unfold Oper.wp
        rw [hr w hcb]
        exact hnext
      · rw [if_neg (by simp [hw])]
        exact hnext
    · obtain ⟨hw, hm, hK⟩ := hs
      rw [if_pos hw]
      exact .inl (wp_of_makes hm fun v w' ⟨hb, hS⟩ => hgo _ _ hb (hK v w' hb hS))

theorem rq_first {i : Nat} {oi : Oper} {L : Array Bool → Act → World → Prop} (sd : QSides md ops lt n) (hi : ops[i]? = some oi) (hin : i < n)
    (hdone : ∀ listed a w, L listed a w → ∀ j ∈ Region.ready md ops listed, n ≤ j) :
    ∀ (f : Nat) (listed : Array Bool) (a : Act) (w : World), HeadInv md ops n listed →
      (∀ j oj, ops[j]? = some oj → j ≠ i → listed.getD j true = false → (∀ e ∈ oj.after, Region.binds md e = true → e.on ≠ i) → oi.apart ops oj = true) →
      i ∈ Region.ready md ops listed → CB w →
      qStep P ops CB lt i oi (rqAny P ops CB lt md n L f (listed.setIfInBounds i true)) a w → rqAny P ops CB lt md n L (f + 1) listed a w := by
  have ex : ∀ (K : Act → World → Prop) (a : Act) (w : World), CB w → qStep P ops CB lt i oi K a w → ∃ a' w', CB w' ∧ K a' w' := by
    intro K a w hcb H
    unfold qStep at H
    split at H
    · obtain ⟨v, _, h⟩ := H; exact ⟨_, _, hcb, h⟩
    · obtain ⟨_, hm, hK⟩ := H
      obtain ⟨v, w', hb, hS⟩ := makes_exists hm
      exact ⟨_, _, hb, hK v w' hb hS⟩
  intro f
  induction f with
  | zero =>
    intro listed a w inv _ hr hcb H
    have hun := (mem_ready.1 hr).1
    refine ⟨fun h => (by rw [h] at hr; cases hr), fun j hj => ?_⟩
    have hjn : j < n := sd.head i hin listed inv hun j hj
    refine ⟨hjn, ?_⟩
    by_cases hji : j = i
    · subst hji; exact ⟨oi, hi, H⟩
    · exfalso
      obtain ⟨a', w', _, hL⟩ := ex _ a w hcb H
      have := hdone _ _ _ hL j (ready_mono hj hji)
      omega
  | succ f ih =>
    intro listed a w inv hfree hr hcb H
    have hun := (mem_ready.1 hr).1
    refine ⟨fun h => (by rw [h] at hr; cases hr), fun j hj => ?_⟩
    have hjn : j < n := sd.head i hin listed inv hun j hj
    refine ⟨hjn, ?_⟩
    by_cases hji : j = i
    · subst hji; exact ⟨oi, hi, H⟩
    obtain ⟨hjun, oj, hoj, hall⟩ := mem_ready.1 hj
    refine ⟨oj, hoj, ?_⟩
    have hnot : ∀ e ∈ oj.after, Region.binds md e = true → e.on ≠ i := fun e he hb heq => by
      have h1 := hall e he hb
      rw [heq, getD_both hun] at h1
      cases h1
    obtain ⟨ap1, ap2, ap3⟩ := Oper.apart_spec (hfree j oj hoj hji hjun hnot)
    have hsi := fun cs b => sd.sel i oi cs b hi
    have hsj := fun cs b => sd.sel j oj cs b hoj
    have hfree' : ∀ k ok, ops[k]? = some ok → k ≠ i → (listed.setIfInBounds j true).getD k true = false →
        (∀ e ∈ ok.after, Region.binds md e = true → e.on ≠ i) → oi.apart ops ok = true := fun k ok hk hki hun hno => by
      refine hfree k ok hk hki ?_ hno
      by_cases hjk : j = k
      · subst hjk; exact hjun
      · rw [getD_set_ne true hjk] at hun; exact hun
    have inv' := inv.set hj hjn
    have IH := fun a' w' => ih (listed.setIfInBounds j true) a' w' inv' hfree' (ready_mono hr (Ne.symm hji))
    have hjr := ready_mono hj hji
    have hcomm : (listed.setIfInBounds j true).setIfInBounds i true = (listed.setIfInBounds i true).setIfInBounds j true := Array.setIfInBounds_comm _ _ hji
    cases hki : lt i with
    | none =>
      unfold qStep at H
      rw [hki] at H
      obtain ⟨v, hy, hK⟩ := H
      obtain ⟨oj', hoj', hj1⟩ := (hK.2 j hjr).2
      obtain rfl : oj' = oj := Option.some.inj (hoj'.symm.trans hoj)
      have back : ∀ (u : Value) (w' : World), rqAny P ops CB lt md n L f ((listed.setIfInBounds i true).setIfInBounds j true) ((a.put oi.dst v).put oj'.dst u) w' →
          qStep P ops CB lt i oi (rqAny P ops CB lt md n L f ((listed.setIfInBounds j true).setIfInBounds i true)) (a.put oj'.dst u) w' := by
        intro u w' h
        unfold qStep
        rw [hki]
        refine ⟨v, (YB_put hsi ap3).2 hy, ?_⟩
        rw [hcomm, ← Act.put_comm a v u ap2]; exact h
      cases hkj : lt j with
      | none =>
        unfold qStep at hj1 ⊢
        rw [hkj] at hj1 ⊢
        obtain ⟨u, hyj, hKj⟩ := hj1
        exact ⟨u, (YB_put hsj ap1).1 hyj, IH _ _ hcb (back u w hKj)⟩
      | some R =>
        unfold qStep at hj1 ⊢
        rw [hkj] at hj1 ⊢
        obtain ⟨hw, hm, hKj⟩ := hj1
        exact ⟨by rw [wanted_put oj' a oi.dst v ap1] at hw; exact hw, (makes_put hsj ap1).1 hm, fun u w' hb hT => IH _ _ hb (back u w' (hKj u w' hb hT))⟩
    | some R =>
      have hkj : lt j = none := by
        cases h : lt j with
        | none => rfl
        | some R' => exact absurd hj (sd.one i j hin hjn (Ne.symm hji) (by rw [hki]; rfl) (by rw [h]; rfl) listed inv hr)
      unfold qStep at H
      rw [hki] at H
      obtain ⟨hw, hm, hK⟩ := H
      obtain ⟨v0, w0, hb0, hS0⟩ := makes_exists hm
      obtain ⟨oj', hoj', hj1⟩ := ((hK v0 w0 hb0 hS0).2 j hjr).2
      obtain rfl : oj' = oj := Option.some.inj (hoj'.symm.trans hoj)
      unfold qStep at hj1 ⊢
      rw [hkj] at hj1 ⊢
      obtain ⟨u, hyj, -⟩ := hj1
      have hyj' := (YB_put hsj ap1).1 hyj
      refine ⟨u, hyj', IH _ _ hcb ?_⟩
      unfold qStep
      rw [hki]
      refine ⟨by rw [wanted_put oi a oj'.dst u ap3]; exact hw, (makes_put hsi ap3).2 hm, fun v w' hb hS => ?_⟩
      obtain ⟨oj2, hoj2, hj2⟩ := ((hK v w' hb hS).2 j hjr).2
      obtain rfl : oj2 = oj' := Option.some.inj (hoj2.symm.trans hoj)
      unfold qStep at hj2
      rw [hkj] at hj2
      obtain ⟨u', hyu, hKu⟩ := hj2
      have e : u' = u := YB_unique hb ((YB_put hsj ap1).1 hyu) hyj'
      subst e
      rw [hcomm, ← Act.put_comm a v u' ap2]
      exact hKu

theorem rq_lex {g : Nat} {Lq : Act → World → Prop} (sd : QSides md ops lt n) (L : Array Bool → Act → World → Prop)
    (hdone : ∀ listed a w, L listed a w → ∀ j ∈ Region.ready md ops listed, n ≤ j)
    (hend : ∀ listed a w, Region.seqB md ops g n listed = true → Lq a w → L listed a w) :
    ∀ (ls : List Oper) (k : Nat) (listed : Array Bool) (a : Act) (w : World), (∀ j, j < ls.length → ls[j]? = ops[k + j]?) → k + ls.length = n → HeadInv md ops n listed →
    Region.lexHead md ops g ls.length k listed = true → CB w → rqLex P ops CB lt Lq ls k a w → rqAny P ops CB lt md n L ls.length listed a w
  | [], k, listed, a, w, _, hk, _, hB, _, h => by
    have : k = n := by simpa using hk
    subst this
    exact hend _ _ _ (by simpa [Region.lexHead] using hB) h
  | o :: ls, k, listed, a, w, hl, hk, inv, hB, hcb, h => by
    have h0 : ops[k]? = some o := by simpa using (hl 0 (by simp)).symm
    simp only [List.length_cons, Region.lexHead, Bool.and_eq_true] at hB
    obtain ⟨⟨hr, hf⟩, hB'⟩ := hB
    have hkn : k < n := by simp only [List.length_cons] at hk; omega
    have hr' : k ∈ Region.ready md ops listed := by simpa using hr
    have hgo := fun a' w' => rq_lex sd L hdone hend ls (k + 1) (listed.setIfInBounds k true) a' w' (fun j hj => by have := hl (j + 1) (by simp; omega); simpa [Nat.add_assoc, Nat.add_comm 1 j] using this)
      (by simp only [List.length_cons] at hk; omega) (inv.set hr' hkn) hB'
    have h' : qStep P ops CB lt k o (rqLex P ops CB lt Lq ls (k + 1)) a w := h
    refine rq_first sd h0 hkn hdone ls.length listed a w inv (Region.free_spec h0 hf) hr' hcb ?_
    unfold qStep at h' ⊢
    split at h'
    · obtain ⟨v, h1, h2⟩ := h'
      exact ⟨v, h1, hgo _ _ hcb h2⟩
    · exact ⟨h'.1, h'.2.1, fun v w' hb hS => hgo _ _ hb (h'.2.2 v w' hb hS)⟩
end

section
variable {P : Program} {id : Nat} {Q : Exit → Act → World → Prop} {a : Act} {w : World} {ls : List Oper}

/-- the static checks: n operations ahead of the forced tail, the late ones of which wait for each other -/
def seqLateB (ops : Array Oper) (lates : List Nat) (n : Nat) : Bool :=
  Region.lexTailB .any ops n && lates.all fun i => lates.all fun j => i == j || behind ops .any j ops.size i || behind ops .any i ops.size j

def latesOf (lates : List Nat) (R : Nat → Spec) (i : Nat) : Option Spec := if lates.contains i then some (R i) else none

/-- **A region that draws; of the first n operations the late ones change what was there; then the forced tail.** -/
theorem wp_region_seq (n : Nat) (lates : List Nat) (CB : World → Prop) (R : Nat → Spec) (hm : P.follows .mixedOrders = true) (hB : seqLateB ls.toArray lates n = true)
    (h : ∀ b, Below w.heap.size w b → b.heap = w.heap → CB b ∧ rqLex P ls.toArray CB (latesOf lates R) (fun a' w' => wpList P ls.toArray Q (ls.drop n) a' w') (ls.take n) 0 a b) :
    (Code.region id ls.toArray true).wp P Q a w := by
  simp only [seqLateB, Bool.and_eq_true] at hB
  obtain ⟨hB1, hone⟩ := hB
  simp only [Region.lexTailB, Bool.and_eq_true, decide_eq_true_eq] at hB1
  obtain ⟨⟨⟨⟨hsel, hn⟩, hs⟩, hc⟩, hlex⟩ := hB1
  have htl : (ls.take n).length = n := by simp at hn; simp; omega
  have hdl : (ls.drop n).length = ls.toArray.size - n := by simp
  have inv0 : HeadInv .any ls.toArray n (Array.replicate ls.toArray.size false) :=
    ⟨by simp, fun j oj _ hl => (by rw [getD_replicate_false] at hl; cases hl), fun t _ ht => getD_in (by simpa using ht) (getD_replicate_false _ _)⟩
  have sd : QSides .any ls.toArray (latesOf lates R) n := by
    refine ⟨Region.noSelect_spec hsel, fun i hin listed inv hun j hj => ?_, fun i j hin hjn hij hi hj listed inv hr hr2 => ?_⟩
    · rcases Nat.lt_or_ge j n with h | h
      · exact h
      · exact absurd hj (tail_waits hs hc hn inv _ i rfl hin hun j h)
    · have h1 : lates.contains i = true := by
        unfold latesOf at hi
        split at hi
        · assumption
        · cases hi
      have h2 : lates.contains j = true := by
        unfold latesOf at hj
        split at hj
        · assumption
        · cases hj
      have := List.all_eq_true.1 (List.all_eq_true.1 hone i (by simpa using h1)) j (by simpa using h2)
      simp only [Bool.or_eq_true, beq_iff_eq] at this
      rcases this with (h3 | h3) | h3
      · exact hij h3
      · exact (behind_spec inv _ i h3 (un_of (mem_ready.1 hr).1)).2 hr2
      · exact (behind_spec inv _ j h3 (un_of (mem_ready.1 hr2).1)).2 hr
  have hw0 : Below w.heap.size w { w with drawn := w.drawn + 1 } := (Below.refl _ w).drew
  obtain ⟨hcb, hlx⟩ := h { w with drawn := w.drawn + 1 } hw0 rfl
  have H := rq_lex (md := .any) (g := ls.toArray.size - n) (Lq := fun a' w' => wpList P ls.toArray Q (ls.drop n) a' w') sd
    (fun listed' a' w' => Region.seqB .any ls.toArray (ls.toArray.size - n) n listed' = true ∧ wpList P ls.toArray Q (ls.drop n) a' w')
    (fun listed a w hL => seqB_ready hL.1) (fun _ _ _ h1 h2 => ⟨h1, h2⟩)
    (ls.take n) 0 _ a { w with drawn := w.drawn + 1 } (fun j hj => by
      have hj' : j < n := by rw [htl] at hj; exact hj
      simp [hj']) (by simpa using htl) inv0 (by rw [htl]; exact hlex) hcb hlx
  refine wp_region_any hm ?_
  have := wpAny_of_rq (Q := Q) (g := ls.toArray.size - n) (CB := CB) (fun listed a' w' hL => by
    have := wpAny_of_seq (md := .any) (Q' := Q) (ls.drop n) n listed a' w' (fun j => by simp [List.getElem?_drop]) (by rw [hdl]; exact hL.1) hL.2
    rwa [hdl] at this) _ _ _ _ inv0 hcb H
  rw [htl, show n + (ls.toArray.size - n) = ls.toArray.size by simp at hn; simp; omega] at this
  exact this

variable {ops : Array Oper} {q : Act → World → Prop} {o : Oper} {rest : List Oper} {k : Nat} {CB : World → Prop} {lt : Nat → Option Spec}
theorem rq_nil (h : q a w) : rqLex P ops CB lt q [] k a w := h
theorem rq_big (v : Value) (hs : lt k = none) (hw : Region.wanted o (yielded ops a.tmps) = true) (h : ∀ w1, CB w1 → (execOp a.eval o).run P w1 = .ok (.value v) w1)
    (hn : rqLex P ops CB lt q rest (k + 1) (a.put o.dst v) w) : rqLex P ops CB lt q (o :: rest) k a w := by
  show qStep _ _ _ _ _ _ _ _ _
  unfold qStep
  rw [hs]
  exact ⟨v, .inl ⟨hw, h⟩, hn⟩
theorem rq_skip (hs : lt k = none) (hw : Region.wanted o (yielded ops a.tmps) = false)
    (hn : rqLex P ops CB lt q rest (k + 1) (a.put o.dst undef) w) : rqLex P ops CB lt q (o :: rest) k a w := by
  show qStep _ _ _ _ _ _ _ _ _
  unfold qStep
  rw [hs]
  exact ⟨undef, .inr ⟨hw, rfl⟩, hn⟩
theorem rq_move (x : Operand) (ho : o.op = .move x ∨ o.op = .assign x) (hs : lt k = none) (hw : Region.wanted o (yielded ops a.tmps) = true)
    (hn : rqLex P ops CB lt q rest (k + 1) (a.put o.dst (a.eval x)) w) : rqLex P ops CB lt q (o :: rest) k a w :=
  rq_big (a.eval x) hs hw (fun w1 _ => by rcases ho with h | h <;> simp [execOp, h]) hn
theorem rq_late (R : Spec) (hs : lt k = some R) (hw : Region.wanted o (yielded ops a.tmps) = true) (h : makes P o a w fun v w' => CB w' ∧ R v w')
    (hn : ∀ v w', CB w' → R v w' → rqLex P ops CB lt q rest (k + 1) (a.put o.dst v) w') : rqLex P ops CB lt q (o :: rest) k a w := by
  show qStep _ _ _ _ _ _ _ _ _
  unfold qStep
  rw [hs]
  exact ⟨hw, h, hn⟩
end
end Go.RG
