/-
  A region that draws its order of evaluation, within a round of a loop over a function. No program.
-/
import Derived.RangeFuncCalls
import Derived.OrdersIn
import Derived.Test.YtagcohpghgnalaaCGA
set_option linter.unusedSimpArgs false
set_option linter.unusedVariables false
namespace Go.RG
open Go.RowKit

section
variable {P : Program} {ops : Array Oper} {base : World} {sp : Nat → Option Spec} {md : Region.Mode} {l0 n0 : Nat}

theorem wpIn_of_makes {o : Oper} {a : Act} {w : World} {R : Value → World → Prop} {K : Act → World → Prop} {Q : Exit → Act → World → Prop}
    (hd : ∀ c, o.op ≠ .defer c) (h : makes P o a w R) (hK : ∀ v w', R v w' → K (a.put o.dst v) w') : o.wpIn (Fence.wide.inRound l0) n0 P a w K Q := by
  unfold makes at h
  unfold Oper.wpIn
  refine ⟨fun f _ => trivial, ?_⟩
  rw [Oper.semAt_eq _ _ _ hd]
  generalize (execOp a.eval o).run P w = r at *
  cases r with
  | ok n w' =>
    cases n <;> simp only [makesUpon] at h <;> simp only [Oper.uponIn]
    case value v => exact hK _ _ h
    case skip => exact hK _ _ h
    case enter f args => exact ⟨(fun h => by cases h), CallsIn.inRound l0 (callsIn_wide.2 (h.mono fun e w'' ⟨v, he, hv⟩ => by subst he; exact hK _ _ hv))⟩
  | halt x w' => simp only [makesUpon] at h

theorem wpAnyIn_of_rg {n g : Nat} {L : Array Bool → Act → World → Prop} {Q : Exit → Act → World → Prop} (hnd : ∀ (i : Nat) (o : Oper), ops[i]? = some o → ∀ c, o.op ≠ .defer c)
    (hL : ∀ listed a w, L listed a w → wpAnyIn (Fence.wide.inRound l0) n0 P md ops Q g listed a w) :
    ∀ (f : Nat) (listed : Array Bool) (Γ : Facts) (a : Act) (w : World), Below base.heap.size base w → Γ.ok a w → Γ.stable →
      rgAny P ops base sp md n L f listed Γ a w → wpAnyIn (Fence.wide.inRound l0) n0 P md ops Q (f + g) listed a w
  | 0, listed, Γ, a, w, _, _, _, h => by rw [Nat.zero_add]; exact hL _ _ _ h
  | f + 1, listed, Γ, a, w, hC, hok, hst, h => by
    rw [show f + 1 + g = (f + g) + 1 by omega]
    refine ⟨fun h0 => absurd h0 h.1, fun i hi => ?_⟩
    obtain ⟨_, o, ho, hs⟩ := h.2 i hi
    have hfacts : facts ops o Γ a w := fun t _ ht => hok t ht
    unfold wpOpIn
    simp only [ho]
    rcases hs with ⟨_, v, hy, hK⟩ | ⟨S, _, ⟨hw, hSs, hm⟩, hK⟩
    · have hgo := wpAnyIn_of_rg hnd hL f _ _ _ _ hC (Facts.ok_set (S := Spec.any) hok trivial) (Facts.set_stable hst Spec.any_stable) hK
      rcases hy with ⟨hw, hr⟩ | ⟨hw, rfl⟩
      · rw [if_pos hw]
        unfold Oper.wpIn
        refine ⟨fun f _ => trivial, ?_⟩
        rw [Oper.semAt_eq _ _ _ (hnd i o ho), hr w hC hfacts]
        exact hgo
      · rw [if_neg (by simp [hw])]
        exact ⟨fun f _ => trivial, hgo⟩
    · rw [if_pos hw]
      refine wpIn_of_makes (hnd i o ho) (hm w hC hfacts) fun v w' ⟨hb, hS⟩ => ?_
      exact wpAnyIn_of_rg hnd hL f _ _ _ _ (below_trans hC hb) (Facts.ok_set (Facts.ok_grow hok hst hb) hS) (Facts.set_stable hst hSs) (hK v w' hb hS)

/-- no defer statement among a region's operations -/
def noDeferB (ops : Array Oper) : Bool := ops.toList.all fun o => match o.op with | .defer _ => false | _ => true
theorem noDefer {ops : Array Oper} (h : noDeferB ops = true) : ∀ (i : Nat) (o : Oper), ops[i]? = some o → ∀ c, o.op ≠ .defer c := by
  intro i o ho c hc
  have h := List.all_eq_true.1 h o (by rw [Array.mem_toList_iff]; exact Array.mem_of_getElem? ho)
  rw [hc] at h
  cases h

/-- **A region that draws, within a round, all its operations in any order.** -/
theorem wpIn_region_rg {l : List Oper} {Q : Exit → Act → World → Prop} {a : Act} {w : World} {id : Nat} (sp : Nat → Option Spec) (hm : P.follows .mixedOrders = true) (hB : (noDeferB l.toArray && lexAllB l.toArray) = true)
    (h : ∀ b, Below w.heap.size w b → b.heap = w.heap → rgLex P l.toArray b sp (fun a' w' => Q .normal a' w') l 0 Facts.empty a b) :
    (Code.region id l.toArray true).wpIn (Fence.wide.inRound l0) n0 P Q a w := by
  simp only [lexAllB, Bool.and_eq_true] at hB
  obtain ⟨hdf, hsel, hlex⟩ := hB
  have hsz : l.toArray.size = l.length := by simp
  have H := rg_lex (md := .any) (n := l.length) (g := 0) (Lq := fun a' w' => Q .normal a' w') hsel
    (fun listed' a' w' => Region.ready .any l.toArray listed' = [] ∧ Q .normal a' w')
    (fun _ => True) (fun _ _ _ _ _ => trivial) (fun i _ listed _ _ j hj => by
      obtain ⟨_, o, ho, _⟩ := mem_ready.1 hj
      have := (Array.getElem?_eq_some_iff.1 ho).1
      simpa using this)
    (fun listed a w hL j hj => by rw [hL.1] at hj; cases hj) (fun listed a' w' h1 h2 => ⟨by simpa [Region.seqB] using h1, h2⟩)
    l 0 _ Facts.empty a { w with drawn := w.drawn + 1 } (fun j _ => by simp) (by simp) trivial (by rw [← hsz]; exact hlex) (Below.refl _ _) (Facts.empty_ok _ _) Facts.empty_stable
    (h { w with drawn := w.drawn + 1 } ((Below.refl _ _).drew) rfl)
  refine wpIn_region_any hm ?_
  have := wpAnyIn_of_rg (Q := Q) (g := 0) (l0 := l0) (n0 := n0) (noDefer hdf) (fun listed a' w' hL => ⟨hL.1, hL.2⟩) _ _ _ _ _ (Below.refl _ _) (Facts.empty_ok _ _) Facts.empty_stable H
  rw [hsz]
  simpa using this
end
end Go.RG
