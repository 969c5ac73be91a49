
/-
 A region whose order is drawn, walked once in the order of the text, where some of its operations make memory (rely and guarantee): every operation either yields one value in every world that has grown out of the region's first world, or yE a value that meets a predicate which growth keeps. Conditions: the program follows mixedOrders; the order's static checks.
-/
import Derived.StillTail
import Derived.Below
import Derived.WalkKit
import Derived.ProofKit
import Derived.Lib.Hide
import Derived.WalkSpells
import Derived.Laws.CopyRow
import Derived.Laws.CopyOwn
import Derived.Laws.AppendOwn
import Derived.Lib.AppendZerosOnto
import Derived.Test.YtbjofbhhnmehgaaGreatDoorRows
import Derived.Laws.AppendOwnNone
import Derived.RangeFuncRecord
import Derived.LoopN
import Derived.Lib.EndianBits
import Derived.WalkMore
import Derived.Maps.OwnSet
import Derived.Maps.RangeWalk
import Derived.Laws.MakeOwn
import Derived.Lib.Hide
import Derived.BigQuiet
import Derived.IntWalk
namespace Go
theorem zD : (∀ (a : Act) (t : Tmp) (v : Value), Act.put a (some t) v = { a with tmps := a.tmps.setIfInBounds t v }) ∧ (∀ (a : Act) (v : Value), Act.put a none v = a) ∧
  (∀ (a : Act) (t : Tmp), Act.eval a (.tmp t) = a.tmps.getD t undef) ∧ (∀ (a : Act) (v : Value), Act.eval a (.const v) = v) ∧ (∀ (a : Act) (g : Nat), Act.eval a (.global g) = .pointer (some ⟨g, 0, none⟩)) ∧ (∀ (a : Act) (f : FuncId), Act.eval a (.func f) = .func (.func f) #[] #[]) ∧
  (∀ (l : Array Value) (i : Nat) (d : Value), l.getD i d = l[i]?.getD d) ∧ (∀ (l : List Value) (i : Nat), l.toArray[i]? = l[i]?) ∧ (∀ (v : Value) (l : List Value), (v :: l)[0]? = some v) ∧ (∀ (v : Value) (l : List Value) (i : Nat), (v :: l)[i + 1]? = l[i]?) ∧
  (∀ (v d : Value), (some v).getD d = v) ∧ (∀ (l : List Value) (i : Nat) (v : Value), l.toArray.setIfInBounds i v = (l.set i v).toArray) ∧ (∀ (v u : Value) (l : List Value) (i : Nat), (v :: l).set (i + 1) u = v :: l.set i u) ∧ (∀ (v u : Value) (l : List Value), (v :: l).set 0 u = u :: l) :=
  ⟨fun _ _ _ => rfl, fun _ _ => rfl, fun _ _ => rfl, fun _ _ => rfl, fun _ _ => rfl, fun _ _ => rfl, fun _ _ _ => Array.getD_eq_getD_getElem? .., fun _ _ => List.getElem?_toArray .., fun _ _ => rfl, fun _ _ _ => List.getElem?_cons_succ .., fun _ _ => rfl, fun _ _ _ => List.setIfInBounds_toArray .., fun _ _ _ _ => rfl, fun _ _ _ => rfl⟩
theorem zE : (∀ (x y : Int), 0 ≤ x ∧ x ≤ 9223372036854775807 ∧ 1 ≤ y → IntKind.i64.wrap (x.tdiv y) = x / y) ∧ (∀ (x y : Int), 0 ≤ x → x.tmod y = x % y) ∧ (∀ n : Int, -9223372036854775808 ≤ n ∧ n ≤ 9223372036854775807 → IntKind.i64.wrap n = n) ∧
  (∀ n : Int, 0 ≤ n ∧ n ≤ 18446744073709551615 → IntKind.u64.wrap n = n) ∧ (∀ n : Int, 0 ≤ n ∧ n ≤ 4294967295 → IntKind.u32.wrap n = n) ∧ (∀ n : Int, 0 ≤ n ∧ n ≤ 255 → IntKind.u8.wrap n = n) :=
  ⟨IntWalk.i64_quo, IntWalk.rem_in, IntWalk.i64_in, IntWalk.u64_in, IntWalk.u32_in, IntWalk.u8_in⟩
theorem fT : (∀ (n : Nat) (a : Oper) (l : List Oper), (a :: l).take (n + 1) = a :: l.take n) ∧ (∀ l : List Oper, l.take 0 = []) ∧ (∀ (n : Nat) (a : Oper) (l : List Oper), (a :: l).drop (n + 1) = l.drop n) ∧ (∀ l : List Oper, l.drop 0 = l) := ⟨fun _ _ _ => rfl, fun _ => rfl, fun _ _ _ => rfl, fun _ => rfl⟩
theorem zB {p : Prop} (h : p) : RowKit.Hid p := h
theorem zC {p q : Prop} (h : p) (k : q) : p ∧ q := ⟨h, k⟩
end Go
open Go.IntWalk (toNatUp iteOmega)
set_option linter.unusedSimpArgs false
set_option linter.unusedVariables false
set_option maxHeartbeats 2000000
set_option maxRecDepth 100000
namespace Go.RG
open Go.RowKit
abbrev Spec := Value -> World -> Prop
abbrev zX := Nat -> Spec
def zX.empty : zX := λ _ _ _ => True
def zX.set (Γ : zX) (d : Option Tmp) (S : Spec) : zX := λ t => if d = some t then S else Γ t
def Spec.any : Spec := λ _ _ => True
def Spec.stable (S : Spec) : Prop := ∀ v w w', S v w -> Below w.heap.size w w' -> S v w'
def zX.stable (Γ : zX) : Prop := ∀ t, Spec.stable (Γ t)
def zX.ok (Γ : zX) (a : Act) (w : World) : Prop := ∀ t, t < a.tmps.size -> Γ t (a.tmps.getD t undef) w
theorem Spec.any_stable : Spec.stable Spec.any := λ _ _ _ _ _ => trivial
theorem zX.empty_stable : zX.stable zX.empty := λ _ _ _ _ _ _ => trivial
theorem zX.empty_ok (a : Act) (w : World) : zX.empty.ok a w := λ _ _ => trivial
theorem zX.set_stable {Γ : zX} {d : Option Tmp} {S : Spec} (h : Γ.stable) (hS : Spec.stable S) : (Γ.set d S).stable := by
 intro t;unfold zX.set
 split
 . exact hS
 . exact h t
theorem zX.ok_grow {Γ : zX} {a : Act} {w w' : World} (h : Γ.ok a w) (hs : Γ.stable) (hb : Below w.heap.size w w') : Γ.ok a w' :=
 λ t ht => hs t _ _ _ (h t ht) hb
theorem Act.size_put (a : Act) (d : Option Tmp) (v : Value) : (a.put d v).tmps.size = a.tmps.size := by
 cases d <;> simp [Act.put]
theorem Act.getD_put_ne {a : Act} {d : Option Tmp} {v : Value} {t : Nat} (h : d ≠ some t) : (a.put d v).tmps.getD t undef = a.tmps.getD t undef := by
 cases d with
 | none => rfl
 | some d =>
  have : d ≠ t := λ e => h (by rw [e]);simp [Act.put, Array.getElem?_setIfInBounds_ne this]
theorem Act.getD_put_eq {a : Act} {v : Value} {t : Nat} (h : t < a.tmps.size) : (a.put (some t) v).tmps.getD t undef = v := by
 simp [Act.put, h]
theorem zX.ok_set {Γ : zX} {a : Act} {w : World} {d : Option Tmp} {S : Spec} {v : Value} (h : Γ.ok a w) (hS : S v w) : (Γ.set d S).ok (a.put d v) w := by
 intro t ht;rw [Act.size_put] at ht;unfold zX.set;by_cases hd : d = some t
 . rw [if_pos hd];subst hd;rw [Act.getD_put_eq ht];exact hS
 . rw [if_neg hd, Act.getD_put_ne hd];exact h t ht
section
variable (P : Program) (ops : Array Oper)
def iD (o : Oper) (Γ : zX) (a : Act) (w : World) : Prop := ∀ t, t ∈ o.looksAt ops -> t < a.tmps.size -> Γ t (a.tmps.getD t undef) w
def zN (R : Value -> World -> Prop) : Result Next -> Prop
 | .ok (.value v) w' => R v w'
 | .ok .skip w' => R undef w'
 | .ok (.enter f args) w' => Calls P f args w' λ e w'' => ∃ v, e = .returned v /\ R v w''
 | _ => False
def yE (o : Oper) (a : Act) (w : World) (R : Value -> World -> Prop) : Prop := zN P R ((execOp a.eval o).run P w)
def YF (base : World) (Γ : zX) (o : Oper) (a : Act) (v : Value) : Prop :=
 (Region.wanted o (yielded ops a.tmps) = true /\ ∀ w, Below base.heap.size base w -> iD ops o Γ a w -> (execOp a.eval o).run P w = .ok (.value v) w) \/
 (Region.wanted o (yielded ops a.tmps) = false /\ v = undef)
def YM (base : World) (Γ : zX) (o : Oper) (a : Act) (S : Spec) : Prop :=
 Region.wanted o (yielded ops a.tmps) = true /\ Spec.stable S /\
 ∀ w, Below base.heap.size base w -> iD ops o Γ a w -> yE P o a w λ v w' => Below w.heap.size w w' /\ S v w'
variable (base : World) (sp : Nat -> Option Spec)
def sStep (i : Nat) (o : Oper) (K : zX -> Act -> World -> Prop) (Γ : zX) (a : Act) (w : World) : Prop :=
 ((sp i = none \/ Region.wanted o (yielded ops a.tmps) = false) /\ ∃ v, YF P ops base Γ o a v /\ K (Γ.set o.dst Spec.any) (a.put o.dst v) w) \/
 (∃ S, sp i = some S /\ YM P ops base Γ o a S /\ ∀ v w', Below w.heap.size w w' -> S v w' -> K (Γ.set o.dst S) (a.put o.dst v) w')
def rgAny (md : Region.Mode) (n : Nat) (L : Array Bool -> Act -> World -> Prop) : Nat -> Array Bool -> zX -> Act -> World -> Prop
 | 0, listed, _, a, w => L listed a w
 | f + 1, listed, Γ, a, w =>
  Region.ready md ops listed ≠ [] /\ ∀ i ∈ Region.ready md ops listed, i < n /\ ∃ o, ops[i]? = some o /\
   sStep P ops base sp i o (rgAny md n L f (listed.setIfInBounds i true)) Γ a w
def lP (Q : Act -> World -> Prop) : List Oper -> Nat -> zX -> Act -> World -> Prop
 | [], _, _, a, w => Q a w
 | o :: rest, k, Γ, a, w => sStep P ops base sp k o (lP Q rest (k + 1)) Γ a w
end
section
variable {P : Program} {ops : Array Oper} {base : World} {sp : Nat -> Option Spec} {md : Region.Mode}
theorem zF {a b c : World} (h : Below a.heap.size a b) (k : Below b.heap.size b c) : Below a.heap.size a c := h.trans (k.mono h.size)
theorem tB {o : Oper} {a : Act} {w : World} {R : Value -> World -> Prop} {K : Act -> World -> Prop} {Q : Exit -> Act -> World -> Prop}
 (h : yE P o a w R) (hK : ∀ v w', R v w' -> K (a.put o.dst v) w') : o.wp P a w K Q := by
 unfold yE at h;unfold Oper.wp;generalize (execOp a.eval o).run P w = r at *
 cases r with
 | ok n w' =>
  cases n <;> simp only [zN] at h <;> simp only [Oper.upon]
  case value v => exact hK _ _ h
  case skip => exact hK _ _ h
  case enter f args => exact h.mono λ e w'' ⟨v, he, hv⟩ => by subst he; exact hK _ _ hv
 | halt x w' => simp only [zN] at h
theorem vS {o : Oper} {a : Act} {w : World} {R : Value -> World -> Prop} (h : yE P o a w R) : ∃ v w', R v w' := by
 unfold yE at h;generalize (execOp a.eval o).run P w = r at *
 cases r with
 | ok n w' =>
  cases n <;> simp only [zN] at h
  case value v => exact ⟨_, _, h⟩
  case skip => exact ⟨_, _, h⟩
  case enter f args =>
   obtain ⟨e, w'', fr, ⟨v, _, hv⟩, _⟩ := h [];exact ⟨v, w'', hv⟩
 | halt x w' => simp only [zN] at h
theorem pM {n g : Nat} {L : Array Bool -> Act -> World -> Prop} {Q : Exit -> Act -> World -> Prop}
 (hL : ∀ listed a w, L listed a w -> wpAny P md ops Q g listed a w) :
 ∀ (f : Nat) (listed : Array Bool) (Γ : zX) (a : Act) (w : World), Below base.heap.size base w -> Γ.ok a w -> Γ.stable ->
  rgAny P ops base sp md n L f listed Γ a w -> wpAny P md ops Q (f + g) listed a w
 | 0, listed, Γ, a, w, _, _, _, h => by rw [Nat.zero_add]; exact hL _ _ _ h
 | f + 1, listed, Γ, a, w, hC, hok, hst, h => by
  rw [show f + 1 + g = (f + g) + 1 by omega];refine ⟨λ h0 => absurd h0 h.1, λ i hi => ?_⟩;obtain ⟨_, o, ho, hs⟩ := h.2 i hi;have hfacts : iD ops o Γ a w := λ t _ ht => hok t ht;unfold wpOp;simp only [ho];rcases hs with ⟨_, v, hy, hK⟩ | ⟨S, _, ⟨hw, hSs, hm⟩, hK⟩
  . have hgo := pM hL f _ _ _ _ hC (zX.ok_set (S := Spec.any) hok trivial) (zX.set_stable hst Spec.any_stable) hK;rcases hy with ⟨hw, hr⟩ | ⟨hw, rfl⟩
    . rw [if_pos hw];refine .inl ?_;unfold Oper.wp;rw [hr w hC hfacts];exact hgo
    . rw [if_neg (by simp [hw])];exact hgo
  . rw [if_pos hw];refine .inl (tB (hm w hC hfacts) λ v w' ⟨hb, hS⟩ => ?_);exact pM hL f _ _ _ _ (zF hC hb) (zX.ok_set (zX.ok_grow hok hst hb) hS) (zX.set_stable hst hSs) (hK v w' hb hS)
theorem facts_put {oi oj : Oper} {Γ : zX} {S : Spec} {a : Act} {v : Value} {w : World} (h : ∀ d, oi.dst = some d -> d ∉ oj.looksAt ops) :
 iD ops oj (Γ.set oi.dst S) (a.put oi.dst v) w ↔ iD ops oj Γ a w := by
 unfold iD;constructor
 . intro hf t ht hlt;have hne : oi.dst ≠ some t := λ e => h t e ht;have := hf t ht (by rw [Act.size_put]; exact hlt)
   rwa [Act.getD_put_ne hne, zX.set, if_neg hne] at this
 . intro hf t ht hlt;have hne : oi.dst ≠ some t := λ e => h t e ht;rw [Act.size_put] at hlt;have := hf t ht hlt
   rwa [Act.getD_put_ne hne, zX.set, if_neg hne]
theorem mF {oi oj : Oper} {Γ : zX} {S : Spec} {a : Act} {v u : Value} (hsj : ∀ cs b, oj.op ≠ .select cs b) (h : ∀ d, oi.dst = some d -> d ∉ oj.looksAt ops) :
 YF P ops base (Γ.set oi.dst S) oj (a.put oi.dst v) u ↔ YF P ops base Γ oj a u := by
 unfold YF;rw [wanted_put oj a oi.dst v h, execOp_put oj hsj a oi.dst v h];simp only [facts_put h]
theorem nG {oi oj : Oper} {Γ : zX} {S T : Spec} {a : Act} {v : Value} (hsj : ∀ cs b, oj.op ≠ .select cs b) (h : ∀ d, oi.dst = some d -> d ∉ oj.looksAt ops) :
 YM P ops base (Γ.set oi.dst S) oj (a.put oi.dst v) T ↔ YM P ops base Γ oj a T := by
 unfold YM yE;rw [wanted_put oj a oi.dst v h, execOp_put oj hsj a oi.dst v h];simp only [facts_put h]
theorem zX.set_comm {Γ : zX} {d e : Option Tmp} {S T : Spec} (h : ∀ x, d = some x -> e ≠ some x) : (Γ.set d S).set e T = (Γ.set e T).set d S := by
 funext t
 unfold zX.set;by_cases h1 : e = some t
 . have h2 : d ≠ some t := λ hd => h t hd h1;rw [if_pos h1, if_neg h2, if_pos h1]
 . rw [if_neg h1, if_neg h1]
theorem YF_unique {o : Oper} {Γ Γ' : zX} {a : Act} {v u : Value} {w : World} (hC : Below base.heap.size base w) (hf : iD ops o Γ a w) (hf' : iD ops o Γ' a w)
 (h : YF P ops base Γ o a v) (h' : YF P ops base Γ' o a u) : v = u := by
 rcases h with ⟨hw, h⟩ | ⟨hw, rfl⟩ <;> rcases h' with ⟨hw', h'⟩ | ⟨hw', rfl⟩
 . have e := (h w hC hf).symm.trans (h' w hC hf');injection e with e1 _;injection e1
 . rw [hw] at hw'; cases hw'
 . rw [hw] at hw'; cases hw'
 . rfl
theorem rg_first {n i : Nat} {oi : Oper} {L : Array Bool -> Act -> World -> Prop} (hi : ops[i]? = some oi)
 (hsel : ∀ (j : Nat) (o : Oper) cs b, ops[j]? = some o -> o.op ≠ .select cs b)
 (Inv : Array Bool -> Prop) (hInv : ∀ listed j, Inv listed -> j ∈ Region.ready md ops listed -> j < n -> Inv (listed.setIfInBounds j true))
 (hhead : ∀ listed, Inv listed -> listed.getD i true = false -> ∀ j ∈ Region.ready md ops listed, j < n)
 (hdone : ∀ listed a w, L listed a w -> ∀ j ∈ Region.ready md ops listed, n <= j) :
 ∀ (f : Nat) (listed : Array Bool) (Γ : zX) (a : Act) (w : World), Inv listed ->
  (∀ j oj, ops[j]? = some oj -> j ≠ i -> listed.getD j true = false -> (∀ e ∈ oj.after, Region.binds md e = true -> e.on ≠ i) -> oi.apart ops oj = true) ->
  i ∈ Region.ready md ops listed -> Below base.heap.size base w -> Γ.ok a w -> Γ.stable ->
  sStep P ops base sp i oi (rgAny P ops base sp md n L f (listed.setIfInBounds i true)) Γ a w -> rgAny P ops base sp md n L (f + 1) listed Γ a w := by
 intro f
 induction f with
 | zero =>
  intro listed Γ a w inv _ hr hC hok hst H;have hun := (mem_ready.1 hr).1;refine ⟨λ h => (by rw [h] at hr; cases hr), λ j hj => ?_⟩;have hjn : j < n := hhead listed inv hun j hj;refine ⟨hjn, ?_⟩;by_cases hji : j = i
  . subst hji; exact ⟨oi, hi, H⟩
  . exfalso
    have hex : ∃ a w, L (listed.setIfInBounds i true) a w := by
     rcases H with ⟨_, v, _, hK⟩ | ⟨S, _, ⟨_, _, hm⟩, hK⟩
     . exact ⟨_, _, hK⟩
     . obtain ⟨v, w', hb, hS⟩ := vS (hm w hC (λ t _ ht => hok t ht));exact ⟨_, _, hK v w' hb hS⟩
    obtain ⟨a', w', hL⟩ := hex;have := hdone _ _ _ hL j (ready_mono hj hji);omega
 | succ f ih =>
  intro listed Γ a w inv hfree hr hC hok hst H;have hun := (mem_ready.1 hr).1;refine ⟨λ h => (by rw [h] at hr; cases hr), λ j hj => ?_⟩;have hjn : j < n := hhead listed inv hun j hj;refine ⟨hjn, ?_⟩;by_cases hji : j = i
  . subst hji; exact ⟨oi, hi, H⟩
  obtain ⟨hjun, oj, hoj, hall⟩ := mem_ready.1 hj;refine ⟨oj, hoj, ?_⟩;have hnot : ∀ e ∈ oj.after, Region.binds md e = true -> e.on ≠ i := λ e he hb heq => by
   have h1 := hall e he hb;rw [heq, getD_both hun] at h1
   cases h1
  obtain ⟨ap1, ap2, ap3⟩ := Oper.apart_spec (hfree j oj hoj hji hjun hnot);have hsi := λ cs b => hsel i oi cs b hi;have hsj := λ cs b => hsel j oj cs b hoj;have hfree' : ∀ k ok, ops[k]? = some ok -> k ≠ i -> (listed.setIfInBounds j true).getD k true = false ->
   (∀ e ∈ ok.after, Region.binds md e = true -> e.on ≠ i) -> oi.apart ops ok = true := λ k ok hk hki hun hno => by
   refine hfree k ok hk hki ?_ hno;by_cases hjk : j = k
   . subst hjk; exact hjun
   . rw [getD_set_ne true hjk] at hun; exact hun
  have IH := λ Γ' a' w' => ih (listed.setIfInBounds j true) Γ' a' w' (hInv _ _ inv hj hjn) hfree' (ready_mono hr (Ne.symm hji));have hjr := ready_mono hj hji;have hcomm : (listed.setIfInBounds j true).setIfInBounds i true = (listed.setIfInBounds i true).setIfInBounds j true := Array.setIfInBounds_comm _ _ hji
  -- what i's step leaves
  rcases H with ⟨hspi, v, hy, hK⟩ | ⟨S, hspi, hy, hK⟩
  . obtain ⟨oj', hoj', hj1⟩ := (hK.2 j hjr).2;obtain rfl : oj' = oj := Option.some.inj (hoj'.symm.trans hoj);rcases hj1 with ⟨hspj, u, hyj, hKj⟩ | ⟨T, hspj, hyj, hKj⟩
    . refine .inl ⟨by rw [wanted_put oj' a oi.dst v ap1] at hspj; exact hspj, u, (mF hsj ap1).1 hyj, ?_⟩;refine IH _ _ _ hC (zX.ok_set (S := Spec.any) hok trivial) (zX.set_stable hst Spec.any_stable) (.inl ⟨?_, v, ?_, ?_⟩)
      . rw [wanted_put oi a oj'.dst u ap3]; exact hspi
      . exact (mF hsi ap3).2 hy
      . rw [hcomm, <- Act.put_comm a v u ap2, <- zX.set_comm ap2]; exact hKj
    . refine .inr ⟨T, hspj, (nG hsj ap1).1 hyj, λ u w' hb hT => ?_⟩;refine IH _ _ _ (zF hC hb) (zX.ok_set (zX.ok_grow hok hst hb) hT) (zX.set_stable hst hyj.2.1) (.inl ⟨?_, v, ?_, ?_⟩)
      . rw [wanted_put oi a oj'.dst u ap3]; exact hspi
      . exact (mF hsi ap3).2 hy
      . rw [hcomm, <- Act.put_comm a v u ap2, <- zX.set_comm ap2]; exact hKj u w' hb hT
  . obtain ⟨vs, ws, hbs, hSs⟩ := vS (hy.2.2 w hC (λ t _ ht => hok t ht));obtain ⟨oj', hoj', hj1⟩ := ((hK vs ws hbs hSs).2 j hjr).2;obtain rfl : oj' = oj := Option.some.inj (hoj'.symm.trans hoj);rcases hj1 with ⟨hspj, u, hyj, hKj⟩ | ⟨T, hspj, hyj, hKj⟩
    . have hyj' := (mF hsj ap1).1 hyj;have hspj' : sp j = none \/ Region.wanted oj' (yielded ops a.tmps) = false := by rw [wanted_put oj' a oi.dst vs ap1] at hspj; exact hspj
      refine .inl ⟨hspj', u, hyj', ?_⟩;refine IH _ _ _ hC (zX.ok_set (S := Spec.any) hok trivial) (zX.set_stable hst Spec.any_stable) (.inr ⟨S, hspi, (nG hsi ap3).2 hy, λ v w' hb hS => ?_⟩);rw [hcomm, <- Act.put_comm a v u ap2, <- zX.set_comm ap2];obtain ⟨oj'', hoj'', hj2⟩ := ((hK v w' hb hS).2 j hjr).2;obtain rfl : oj'' = oj' := Option.some.inj (hoj''.symm.trans hoj);rcases hj2 with ⟨_, u', hyj2, hKj2⟩ | ⟨T, hspT, hyj2, _⟩
      . have hyj2' := (mF hsj ap1).1 hyj2;obtain rfl : u = u' := YF_unique hC (λ t _ ht => hok t ht) (λ t _ ht => hok t ht) hyj' hyj2';exact hKj2
      . exfalso
        have hw2 := ((nG (S := S) (v := v) hsj ap1).1 hyj2).1;rcases hspj' with h | h
        . rw [h] at hspT; cases hspT
        . rw [h] at hw2; cases hw2
    . have hyj' := (nG hsj ap1).1 hyj;refine .inr ⟨T, hspj, hyj', λ u w' hb hT => ?_⟩;refine IH _ _ _ (zF hC hb) (zX.ok_set (zX.ok_grow hok hst hb) hT) (zX.set_stable hst hyj'.2.1) (.inr ⟨S, hspi, (nG hsi ap3).2 hy, λ v w'' hb2 hS => ?_⟩);rw [hcomm, <- Act.put_comm a v u ap2, <- zX.set_comm ap2];have hbb : Below w.heap.size w w'' := zF hb hb2;obtain ⟨oj'', hoj'', hj2⟩ := ((hK v w'' hbb hS).2 j hjr).2;obtain rfl : oj'' = oj' := Option.some.inj (hoj''.symm.trans hoj);rcases hj2 with ⟨hsp2, _, _, _⟩ | ⟨T', hspT, hyj2, hKj2⟩
      . exfalso
        rw [wanted_put oj'' a oi.dst v ap1] at hsp2;have hw2 := hyj'.1;rcases hsp2 with h | h
        . rw [h] at hspj; cases hspj
        . rw [h] at hw2; cases hw2
      . obtain rfl : T' = T := Option.some.inj (hspT.symm.trans hspj);exact hKj2 u w'' (Below.refl _ _) (hyj'.2.1 _ _ _ hT hb2)
theorem rg_lex {n g : Nat} {Lq : Act -> World -> Prop} (hsel : Region.noSelect ops = true) (L : Array Bool -> Act -> World -> Prop)
 (Inv : Array Bool -> Prop) (hInv : ∀ listed j, Inv listed -> j ∈ Region.ready md ops listed -> j < n -> Inv (listed.setIfInBounds j true))
 (hhead : ∀ i, i < n -> ∀ listed, Inv listed -> listed.getD i true = false -> ∀ j ∈ Region.ready md ops listed, j < n)
 (hdone : ∀ listed a w, L listed a w -> ∀ j ∈ Region.ready md ops listed, n <= j)
 (hend : ∀ listed a w, Region.seqB md ops g n listed = true -> Lq a w -> L listed a w) :
 ∀ (l : List Oper) (k : Nat) (listed : Array Bool) (Γ : zX) (a : Act) (w : World), (∀ j, j < l.length -> l[j]? = ops[k + j]?) -> k + l.length = n -> Inv listed ->
 Region.lexHead md ops g l.length k listed = true -> Below base.heap.size base w -> Γ.ok a w -> Γ.stable -> lP P ops base sp Lq l k Γ a w ->
 rgAny P ops base sp md n L l.length listed Γ a w
 | [], k, listed, Γ, a, w, _, hk, _, hB, _, _, _, h => by
  have : k = n := by simpa using hk
  subst this;exact hend _ _ _ (by simpa [Region.lexHead] using hB) h
 | o :: l, k, listed, Γ, a, w, hl, hk, inv, hB, hC, hok, hst, h => by
  have h0 : ops[k]? = some o := by simpa using (hl 0 (by simp)).symm
  simp only [List.length_cons, Region.lexHead, Bool.and_eq_true] at hB;obtain ⟨⟨hr, hf⟩, hB'⟩ := hB;have hkn : k < n := by simp only [List.length_cons] at hk; omega
  have hr' : k ∈ Region.ready md ops listed := by simpa using hr
  have hgo := λ Γ' a' w' => rg_lex hsel L Inv hInv hhead hdone hend l (k + 1) (listed.setIfInBounds k true) Γ' a' w' (λ j hj => by have := hl (j + 1) (by simp; omega); simpa [Nat.add_assoc, Nat.add_comm 1 j] using this)
   (by simp only [List.length_cons] at hk; omega) (hInv _ _ inv hr' hkn) hB'
  refine rg_first h0 (Region.noSelect_spec hsel) Inv hInv (hhead k hkn) hdone l.length listed Γ a w inv (Region.free_spec h0 hf) hr' hC hok hst ?_;have h' : sStep P ops base sp k o (lP P ops base sp Lq l (k + 1)) Γ a w := h;rcases h' with ⟨h1, v, h2, h3⟩ | ⟨S, h1, h2, h3⟩
  . exact .inl ⟨h1, v, h2, hgo _ _ _ hC (zX.ok_set (S := Spec.any) hok trivial) (zX.set_stable hst Spec.any_stable) h3⟩
  . exact .inr ⟨S, h1, h2, λ v w' hb hS => hgo _ _ _ (zF hC hb) (zX.ok_set (zX.ok_grow hok hst hb) hS) (zX.set_stable hst h2.2.1) (h3 v w' hb hS)⟩
end
section
variable {P : Program} {sp : Nat -> Option Spec} {id : Nat} {Q : Exit -> Act -> World -> Prop} {a : Act} {w : World} {l : List Oper}
theorem zR (n : Nat) (sp : Nat -> Option Spec) (hm : P.follows .mixedOrders = true) (hB : Region.lexTailB .any l.toArray n = true)
 (h : ∀ b, Below w.heap.size w b -> b.heap = w.heap -> lP P l.toArray b sp (λ a' w' => wpList P l.toArray Q (l.drop n) a' w') (l.take n) 0 zX.empty a b) :
 (Code.region id l.toArray true).wp P Q a w := by
 simp only [Region.lexTailB, Bool.and_eq_true, decide_eq_true_eq] at hB;obtain ⟨⟨⟨⟨hsel, hn⟩, hs⟩, hc⟩, hlex⟩ := hB;have htl : (l.take n).length = n := by simp at hn; simp; omega
 have hdl : (l.drop n).length = l.toArray.size - n := by simp
 have inv0 : HeadInv .any l.toArray n (Array.replicate l.toArray.size false) :=
  ⟨by simp, λ j oj _ hl => (by rw [getD_replicate_false] at hl; cases hl), λ t _ ht => getD_in (by simpa using ht) (getD_replicate_false _ _)⟩
 have H := rg_lex (md := .any) (g := l.toArray.size - n) (Lq := λ a' w' => wpList P l.toArray Q (l.drop n) a' w') hsel
  (λ listed' a' w' => Region.seqB .any l.toArray (l.toArray.size - n) n listed' = true /\ wpList P l.toArray Q (l.drop n) a' w')
  (HeadInv .any l.toArray n) (λ listed j inv hj hjn => inv.set hj hjn) (λ i hin listed inv hun j hj => by
   rcases Nat.lt_or_ge j n with h | h
   . exact h
   . exact absurd hj (tail_waits hs hc hn inv _ i rfl hin hun j h))
  (λ listed a w hL => seqB_ready hL.1) (λ _ _ _ h1 h2 => ⟨h1, h2⟩)
  (l.take n) 0 _ zX.empty a { w with drawn := w.drawn + 1 } (λ j hj => by
   have hj' : j < n := by rw [htl] at hj; exact hj
   simp [hj']) (by simpa using htl) inv0 (by rw [htl]; exact hlex) (Below.refl _ _) (zX.empty_ok _ _) zX.empty_stable
  (h { w with drawn := w.drawn + 1 } ((Below.refl _ _).drew) rfl)
 refine wp_region_any hm ?_;have := pM (Q := Q) (g := l.toArray.size - n) (λ listed a' w' hL => by
  have := wpAny_of_seq (md := .any) (Q' := Q) (l.drop n) n listed a' w' (λ j => by simp [List.getElem?_drop]) (by rw [hdl]; exact hL.1) hL.2
  rwa [hdl] at this) _ _ _ _ _ (Below.refl _ _) (zX.empty_ok _ _) zX.empty_stable H
 rw [htl, show n + (l.toArray.size - n) = l.toArray.size by simp at hn; simp; omega] at this;exact this
def lexAllB (ops : Array Oper) : Bool := Region.noSelect ops && Region.lexHead .any ops 0 ops.size 0 (Array.replicate ops.size false)
theorem zY (sp : Nat -> Option Spec) (hm : P.follows .mixedOrders = true) (hB : lexAllB l.toArray = true)
 (h : ∀ b, Below w.heap.size w b -> b.heap = w.heap -> lP P l.toArray b sp (λ a' w' => Q .normal a' w') l 0 zX.empty a b) :
 (Code.region id l.toArray true).wp P Q a w := by
 simp only [lexAllB, Bool.and_eq_true] at hB;obtain ⟨hsel, hlex⟩ := hB;have hsz : l.toArray.size = l.length := by simp
 have H := rg_lex (md := .any) (n := l.length) (g := 0) (Lq := λ a' w' => Q .normal a' w') hsel
  (λ listed' a' w' => Region.ready .any l.toArray listed' = [] /\ Q .normal a' w')
  (λ _ => True) (λ _ _ _ _ _ => trivial) (λ i _ listed _ _ j hj => by
   obtain ⟨_, o, ho, _⟩ := mem_ready.1 hj;have := (Array.getElem?_eq_some_iff.1 ho).1;simpa using this)
  (λ listed a w hL j hj => by rw [hL.1] at hj; cases hj) (λ listed a' w' h1 h2 => ⟨by simpa [Region.seqB] using h1, h2⟩)
  l 0 _ zX.empty a { w with drawn := w.drawn + 1 } (λ j _ => by simp) (by simp) trivial (by rw [<- hsz]; exact hlex) (Below.refl _ _) (zX.empty_ok _ _) zX.empty_stable
  (h { w with drawn := w.drawn + 1 } ((Below.refl _ _).drew) rfl)
 refine wp_region_any hm ?_;have := pM (Q := Q) (g := 0) (λ listed a' w' hL => ⟨hL.1, hL.2⟩) _ _ _ _ _ (Below.refl _ _) (zX.empty_ok _ _) zX.empty_stable H;rw [hsz];simpa using this
variable {ops : Array Oper} {b : World} {q : Act -> World -> Prop} {o : Oper} {rest : List Oper} {k : Nat} {Γ : zX}
theorem zZ (h : q a w) : lP P ops b sp q [] k Γ a w := h
theorem zJ (v : Value) (hs : sp k = none) (hw : Region.wanted o (yielded ops a.tmps) = true)
 (h : ∀ w1, Below b.heap.size b w1 -> iD ops o Γ a w1 -> (execOp a.eval o).run P w1 = .ok (.value v) w1)
 (hn : lP P ops b sp q rest (k + 1) (Γ.set o.dst Spec.any) (a.put o.dst v) w) : lP P ops b sp q (o :: rest) k Γ a w :=
 .inl ⟨.inl hs, v, .inl ⟨hw, h⟩, hn⟩
theorem lex_move (x : Operand) (ho : o.op = .move x \/ o.op = .assign x) (hs : sp k = none) (hw : Region.wanted o (yielded ops a.tmps) = true)
 (hn : lP P ops b sp q rest (k + 1) (Γ.set o.dst Spec.any) (a.put o.dst (a.eval x)) w) : lP P ops b sp q (o :: rest) k Γ a w :=
 zJ (a.eval x) hs hw (λ w1 _ _ => by rcases ho with h | h <;> simp [execOp, h]) hn
theorem zM (hw : Region.wanted o (yielded ops a.tmps) = false)
 (hn : lP P ops b sp q rest (k + 1) (Γ.set o.dst Spec.any) (a.put o.dst undef) w) : lP P ops b sp q (o :: rest) k Γ a w :=
 .inl ⟨.inr hw, undef, .inr ⟨hw, rfl⟩, hn⟩
theorem lxM {x : Operand} (hn : lP P ops b sp q rest (k + 1) (Γ.set o.dst Spec.any) (a.put o.dst (a.eval x)) w) (ho : o.op = .move x \/ o.op = .assign x := by first | exact .inl rfl | exact .inr rfl) (hs : sp k = none := by exact rfl) (hw : Region.wanted o (yielded ops a.tmps) = true := by exact rfl) : lP P ops b sp q (o :: rest) k Γ a w := lex_move x ho hs hw hn
theorem lxF {v : Value} (hn : lP P ops b sp q rest (k + 1) (Γ.set o.dst Spec.any) (a.put o.dst v) w) (hs : sp k = none := by exact rfl) (hw : Region.wanted o (yielded ops a.tmps) = true := by exact rfl) (h : ∀ w1, Below b.heap.size b w1 -> iD ops o Γ a w1 -> (execOp a.eval o).run P w1 = .ok (.value v) w1 := by intro w1 hb1 hf1; go_simp; (try simp (disch := omega) only [zE, toNatUp, iteOmega]); (try go_simp); rfl) : lP P ops b sp q (o :: rest) k Γ a w := zJ v hs hw h hn
theorem zW (S : Spec) (hs : sp k = some S) (hst : Spec.stable S) (hw : Region.wanted o (yielded ops a.tmps) = true)
 (h : ∀ w1, Below b.heap.size b w1 -> iD ops o Γ a w1 -> yE P o a w1 λ v w' => Below w1.heap.size w1 w' /\ S v w')
 (hn : ∀ v w', Below w.heap.size w w' -> S v w' -> lP P ops b sp q rest (k + 1) (Γ.set o.dst S) (a.put o.dst v) w') : lP P ops b sp q (o :: rest) k Γ a w :=
 .inr ⟨S, hs, ⟨hw, hst, h⟩, hn⟩
end
end Go.RG
namespace Go.Hp
open Go.RowKit Go.RG
structure Ext (S : Nat -> Prop) (w w' : World) : Prop where
 os : w'.os = w.os
 tape : w'.tape = w.tape
 output : w'.output = w.output
 size : w.heap.size <= w'.heap.size
 block : ∀ k, k < w.heap.size -> ¬ S k -> w'.heap[k]? = w.heap[k]?
theorem Ext.refl (S : Nat -> Prop) (w : World) : Ext S w w := ⟨rfl, rfl, rfl, Nat.le_refl _, λ _ _ _ => rfl⟩
theorem Ext.of_below {S : Nat -> Prop} {w w' : World} (h : Below w.heap.size w w') : Ext S w w' := ⟨h.os, h.tape, h.output, h.size, λ k hk _ => h.block k hk⟩
theorem Ext.to_belowAt {w w' : World} {S : Nat -> Prop} {B : Nat} (h : Ext S w w') (hB : B <= w.heap.size) (hS : ∀ k, k < B -> ¬ S k) : Below B w w' :=
 ⟨h.os, h.tape, h.output, h.size, λ k hk => h.block k (Nat.lt_of_lt_of_le hk hB) (hS k hk)⟩
theorem Ext.mono {S S' : Nat -> Prop} {w w' : World} (h : Ext S w w') (hS : ∀ k, k < w.heap.size -> S k -> S' k) : Ext S' w w' :=
 ⟨h.os, h.tape, h.output, h.size, λ k hk hn => h.block k hk (λ hs => hn (hS k hk hs))⟩
theorem Ext.trans {S S' : Nat -> Prop} {a b c : World} (h : Ext S a b) (k : Ext S' b c) (hS : ∀ k, k < a.heap.size -> S' k -> S k) : Ext S a c :=
 ⟨k.os.trans h.os, k.tape.trans h.tape, k.output.trans h.output, Nat.le_trans h.size k.size, λ i hi hn => (k.block i (Nat.lt_of_lt_of_le hi h.size) (λ hs => hn (hS i hi hs))).trans (h.block i hi hn)⟩
theorem Ext.grown {w w' : World} {row : Option Nat} {S : Nat -> Prop} (hg : w.grownBy w' row) (hS : ∀ k, row = some k -> k < w.heap.size -> S k) : Ext S w w' :=
 ⟨hg.os, hg.tape, hg.output, hg.size, λ k hk hn => hg.block k hk (λ e => hn (hS k e.symm hk))⟩
theorem Ext.setCell {S : Nat -> Prop} {w : World} {p : Addr} (hS : S p.block) (u : Value) : Ext S w (w.setCell p u) :=
 ⟨rfl, rfl, rfl, by simp [World.setCell], λ k _ hn => Below.heap_setCell _ _ _ _ (λ e => hn (e ▸ hS))⟩
theorem Ext.cell {S : Nat -> Prop} {w w' : World} (h : Ext S w w') {p : Addr} (hp : p.block < w.heap.size) (hn : ¬ S p.block) : w'.cell? p = w.cell? p :=
 World.cell?_of_block (w := w) (h.block p.block hp hn)
theorem Ext.cell_some {S : Nat -> Prop} {w w' : World} (h : Ext S w w') {p : Addr} {v : Value} (hc : w.cell? p = some v) (hn : ¬ S p.block) : w'.cell? p = some v := by
 rw [h.cell (block_lt_of_cell hc) hn]; exact hc
theorem zQ (w : World) (o : Obj) : Below w.heap.size w (w.alloc o) := (Below.refl _ w).alloc (Nat.le_refl _) _
theorem zG {w w' : World} (h : Below w.heap.size w w') {p : Addr} {v : Value} (hc : w.cell? p = some v) : w'.cell? p = some v := by
 rw [h.cell (block_lt_of_cell hc)]; exact hc
theorem zI {w : World} {b : Nat} {o : Obj} (h : w.heap[b]? = some o) : b < w.heap.size := (Array.getElem?_eq_some_iff.1 h).1
theorem zK {w w' : World} (h : Below w.heap.size w w') {b : Nat} {o : Obj} (hc : w.heap[b]? = some o) : w'.heap[b]? = some o := by
 rw [h.block b (zI hc)]; exact hc
theorem Ext.heap {S : Nat -> Prop} {w w' : World} (h : Ext S w w') {b : Nat} {o : Obj} (hc : w.heap[b]? = some o) (hn : ¬ S b) : w'.heap[b]? = some o := by
 rw [h.block b (zI hc) hn]; exact hc
theorem yJ {w w' : World} {base e size n : Nat} {v : Value} {xs : List Value} (h : w.ownsRow base e size v n xs) (hb : ∀ k, v.ownBlock = some k -> w'.heap[k]? = w.heap[k]?) : w'.ownsRow base e size v n xs := by
 obtain ⟨h1, h2⟩ := h;refine ⟨h1, ?_⟩;rcases h2 with h2 | ⟨g, cap, cur, rfl, hg, hh, hr⟩
 . exact .inl h2
 . exact .inr ⟨g, cap, cur, rfl, hg, by rw [hb g rfl]; exact hh, hr⟩
theorem xD {w : World} {base e size n : Nat} {v : Value} {xs : List Value} (h : w.ownsRow base e size v n xs) {k : Nat} (hk : v.ownBlock = some k) : k < w.heap.size := (h.lt k hk).2
theorem yA {w w' : World} {base e size n : Nat} {v : Value} {xs : List Value} (h : w.ownsRow base e size v n xs) (hb : Below w.heap.size w w') : w'.ownsRow base e size v n xs :=
 yJ h λ _ hk => hb.block _ (xD h hk)
theorem xQ {S : Nat -> Prop} {w w' : World} {base e size n : Nat} {v : Value} {xs : List Value} (h : w.ownsRow base e size v n xs) (hb : Ext S w w') (hn : ∀ k, v.ownBlock = some k -> ¬ S k) : w'.ownsRow base e size v n xs :=
 yJ h λ _ hk => hb.block _ (xD h hk) (hn _ hk)
theorem yC {w : World} {base base' e size n : Nat} {v : Value} {xs : List Value} (h : w.ownsRow base e size v n xs) (hb : ∀ k, v.ownBlock = some k -> base' <= k) : w.ownsRow base' e size v n xs := by
 obtain ⟨h1, h2⟩ := h;refine ⟨h1, ?_⟩;rcases h2 with h2 | ⟨g, cap, cur, rfl, hg, hr⟩
 . exact .inl h2
 . exact .inr ⟨g, cap, cur, rfl, hb g rfl, hr⟩
theorem xB {w : World} {base e size n : Nat} {v : Value} {xs : List Value} (h : w.ownsRow base e size v n xs) (hn : 0 < n) :
 ∃ g cap, v = .slice (some ⟨g, 0, none⟩) n cap /\ base <= g /\ g < w.heap.size /\ n <= cap /\ cap <= maxLen /\ (∀ j, j < n * size -> w.cell? ⟨g, j, none⟩ = xs[j]?) /\ ∀ j, w.frozen? ⟨g, j, none⟩ = false := by
 have h0 := h;obtain ⟨_, h2⟩ := h;rcases h2 with ⟨rfl, rfl⟩ | ⟨g, cap, cur, rfl, hg, hh, hr, hm, _⟩
 . omega
 . exact ⟨g, cap, rfl, hg, zI hh, hr, hm, λ j hj => h0.cellAt j hj, λ j => h0.frozenAt j⟩
theorem zP {w : World} {base e size n : Nat} {v : Value} {xs : List Value} (h : w.ownsRow base e size v n xs) : ∃ a cap, v = .slice a n cap /\ n <= cap /\ cap <= maxLen := by
 obtain ⟨_, h2⟩ := h;rcases h2 with ⟨rfl, rfl⟩ | ⟨g, cap, cur, rfl, _, _, hr, hm, _⟩
 . exact ⟨none, 0, rfl, Nat.le_refl _, Nat.zero_le _⟩
 . exact ⟨_, cap, rfl, hr, hm⟩
theorem sC {w : World} {base e size n : Nat} {v : Value} {xs : List Value} (h : w.ownsRow base e size v n xs) : xs.length = n * size := h.1
end Go.Hp
namespace Go.Hp
open Go.RowKit Go.RG
def Row (w : World) (g : Nat) (e : TypeId) (L : List Value) : Prop := w.heap[g]? = some (.cells L.toArray e (0, 0))
theorem Row.lt {w : World} {g : Nat} {e : TypeId} {L : List Value} (h : Row w g e L) : g < w.heap.size := zI h
theorem Row.cell {w : World} {g : Nat} {e : TypeId} {L : List Value} (h : Row w g e L) (i : Nat) : w.cell? ⟨g, i, none⟩ = L[i]? := by
 unfold Row at h; simp [World.cell?, h]
theorem Row.frozen {w : World} {g : Nat} {e : TypeId} {L : List Value} (h : Row w g e L) (i : Nat) : w.frozen? ⟨g, i, none⟩ = false := by
 unfold Row at h; simp [World.frozen?, h]
theorem Row.below {w w' : World} {g : Nat} {e : TypeId} {L : List Value} (h : Row w g e L) (hb : Below w.heap.size w w') : Row w' g e L := zK hb h
theorem Row.ext {S : Nat -> Prop} {w w' : World} {g : Nat} {e : TypeId} {L : List Value} (h : Row w g e L) (hb : Ext S w w') (hn : ¬ S g) : Row w' g e L := hb.heap h hn
theorem row_new (w : World) (L : List Value) (e : TypeId) : Row (w.alloc (.cells L.toArray e)) w.heap.size e L := heap_alloc_new w _
theorem pV {w : World} {g : Nat} {e : TypeId} {L : List Value} (h : Row w g e L) (L' : List Value) : Row (w.setRow g L'.toArray) g e L' := setRow_heap w g L.toArray L'.toArray e (0, 0) h
theorem sF (w : World) (g : Nat) (cs : Array Value) : Ext (· = g) w (w.setRow g cs) :=
 ⟨rfl, rfl, rfl, by simp, λ k _ hn => setRow_other w g k cs hn⟩
theorem qJ {w : World} {base e size n g cap : Nat} {xs : List Value} (h : w.ownsRow base e size (.slice (some ⟨g, 0, none⟩) n cap) n xs) :
 ∃ L, Row w g e L /\ L.length = cap * size /\ L.take (n * size) = xs /\ n <= cap /\ cap <= maxLen := by
 obtain ⟨_, h2⟩ := h;rcases h2 with ⟨h, _⟩ | ⟨g', cap', cur, hv, _, hh, hr, hm, hs, ht⟩
 . cases h
 . injection hv with h1 _ h3;injection h1 with h1;injection h1 with h1 _ _;subst h1 h3;exact ⟨cur.toList, by unfold Row; simpa using hh, by simpa using hs, ht, hr, hm⟩
theorem sB {w : World} {base e size n g cap : Nat} {L xs : List Value} (h : Row w g e L) (hl : L.length = cap * size) (hn : n <= cap) (hc : cap <= maxLen) (hx : L.take (n * size) = xs) (hb : base <= g) :
 w.ownsRow base e size (.slice (some ⟨g, 0, none⟩) n cap) n xs := by
 refine ⟨?_, .inr ⟨g, cap, L.toArray, rfl, hb, h, hn, hc, by simpa using hl, hx⟩⟩;rw [<- hx, List.length_take];have := Nat.mul_le_mul_right size hn;omega
section
variable {P : Program}
theorem run_copy_k (w : World) (dT sT ty elem : TypeId) (i : TypeInfo) (size : Nat) (hu : P.underlying dT = some (.slice elem)) (hi : P.info? elem = some i) (hsz : i.size = size)
 (g o dLen dCap : Nat) (a : Addr) (sLen sCap : Nat) (e : TypeId) (L cs : List Value) (hg : Row w g e L) (hn : cs.length = Nat.min sLen dLen * size)
 (hsrc : ∀ j v, cs[j]? = some v -> w.cell? (a.add j) = some v) (hfit : o + cs.length <= L.length) (h1 : ∀ v ∈ cs, v.oneCell' = true) :
 (Builtin.copy_ #[dT, sT] ty #[.slice (some ⟨g, o, none⟩) dLen dCap, .slice (some a) sLen sCap]).run P w =
  .ok (goInt (Nat.min sLen dLen)) (w.setRow g (splice L o cs).toArray) := by
 have hl := run_loadCells_list (P := P) w a cs hsrc;have hst := run_storeCells_at P g o e cs 0 L.toArray w hg (by simpa using hfit) h1;subst hsz;simp [Builtin.copy_, run_underlying hu, Builtin.lenOf, Builtin.firstCells, sizeOf, typeInfo, hi, <- hn, hl, hst, splice]
theorem run_copy_k_nil (w : World) (dT sT ty elem : TypeId) (i : TypeInfo) (hu : P.underlying dT = some (.slice elem)) (hi : P.info? elem = some i)
 (d : Option Addr) (dLen dCap : Nat) (s : Option Addr) (sLen sCap : Nat) (hn : Nat.min sLen dLen = 0) :
 (Builtin.copy_ #[dT, sT] ty #[.slice d dLen dCap, .slice s sLen sCap]).run P w = .ok (goInt 0) w := by
 have hn' : min sLen dLen = 0 := hn
 cases d <;> cases s <;> simp [Builtin.copy_, run_underlying hu, Builtin.lenOf, Builtin.firstCells, sizeOf, typeInfo, hi, hn, hn', storeCells, loadCells, loadCellsFrom]
theorem zeroCells_one {z : Value} (h1 : ∀ v ∈ z.cells, v.oneCell' = true) (hz : 0 < z.cells.size) (n : Nat) : ∀ v ∈ (Builtin.zeroCells z.cells n).toList, v.oneCell' = true := by
 intro v hv;simp only [Builtin.zeroCells, Array.toList_map, List.mem_map] at hv;obtain ⟨j, _, rfl⟩ := hv;have : j % z.cells.size < z.cells.size := Nat.mod_lt _ hz;rw [getElem!_pos z.cells _ this];exact h1 _ (Array.getElem_mem _)
theorem run_clear_k (w : World) (dT ty elem : TypeId) (i : TypeInfo) (z : Value) (size : Nat) (hu : P.underlying dT = some (.slice elem)) (hi : P.info? elem = some i) (hz : i.zero = some z) (hzs : z.cells.size = size) (hpos : 0 < size)
 (h1 : ∀ v ∈ z.cells, v.oneCell' = true) (g o n c : Nat) (e : TypeId) (L : List Value) (hg : Row w g e L) (hfit : o + n * size <= L.length) :
 ∃ zs : List Value, zs.length = n * size /\ (Builtin.clear_ #[dT] ty #[.slice (some ⟨g, o, none⟩) n c]).run P w = .ok (.tuple #[]) (w.setRow g (splice L o zs).toArray) := by
 have hzl : (Builtin.zeroCells z.cells n).toList.length = n * size := by simp [size_zeroCells, hzs]
 have hst := run_storeCells_at P g o e (Builtin.zeroCells z.cells n).toList 0 L.toArray w hg (by simp only [Array.length_toList] at hzl; simp [hzl]; omega) (zeroCells_one h1 (by omega) n);refine ⟨_, hzl, ?_⟩
 cases n with
 | zero =>
  have h0 : (Builtin.zeroCells z.cells 0).toList = [] := List.eq_nil_of_length_eq_zero (by simpa using hzl);rw [h0];have : splice L o ([] : List Value) = L := by simp [splice]
  rw [this, setRow_self w g L.toArray e (0, 0) hg];simp [Builtin.clear_, run_underlying hu]
 | succ n =>
  simp only [Array.length_toList] at hzl;simp only [Nat.add_zero] at hst;simp [Builtin.clear_, run_underlying hu, zeroValue, typeInfo, hi, hz, hst, splice]
variable {w : World} {ops : Array Oper} {rest : List Oper} {o : Oper} {a : Act} {Q : Exit -> Act -> World -> Prop}
theorem yW {v : Value} {w' : World} (hgd : o.guard = none) (hr : (execOp a.eval o).run P w = .ok (.value v) w') (h : wpList P ops Q rest (a.put o.dst v) w') : wpList P ops Q (o :: rest) a w := by
 refine wpList_plain hgd λ K hK => ?_;unfold Oper.wp;rw [hr];exact hK _ _ h
theorem exec_copy (d s : Operand) (t t' : TypeId) (ho : o.op = .call { callee := .builtin .copy, args := #[d, s], argTypes := #[t, t'] }) {v : Value} {w' : World}
 (hr : (Builtin.copy_ #[t, t'] o.type #[a.eval d, a.eval s]).run P w = .ok v w') : (execOp a.eval o).run P w = .ok (.value v) w' := by
 simp [execOp, ho, resolve, invoke, builtin, hr]
theorem exec_clear (d : Operand) (t : TypeId) (ho : o.op = .call { callee := .builtin .clear, args := #[d], argTypes := #[t] }) {v : Value} {w' : World}
 (hr : (Builtin.clear_ #[t] o.type #[a.eval d]).run P w = .ok v w') : (execOp a.eval o).run P w = .ok (.value v) w' := by
 simp [execOp, ho, resolve, invoke, builtin, hr]
theorem yM (d s : Operand) (t t' : TypeId) (ho : o.op = .call { callee := .builtin .append, args := #[d, s], argTypes := #[t, t'] }) {v : Value} {w' : World}
 (hr : (Builtin.append_ #[t, t'] o.type #[a.eval d, a.eval s]).run P w = .ok v w') : (execOp a.eval o).run P w = .ok (.value v) w' := by
 simp [execOp, ho, resolve, invoke, builtin, hr]
theorem tI (hgd : o.guard = none) (d s : Operand) (dT sT : TypeId) (ho : o.op = .call { callee := .builtin .copy, args := #[d, s], argTypes := #[dT, sT] })
 (elem : TypeId) (i : TypeInfo) (size : Nat) (hu : P.underlying dT = some (.slice elem)) (hi : P.info? elem = some i) (hsz : i.size = size)
 (dp sp : Option Addr) (dLen dCap sLen sCap : Nat) (hd : a.eval d = .slice dp dLen dCap) (hs : a.eval s = .slice sp sLen sCap)
 (g off : Nat) (e : TypeId) (L cs : List Value) (hg : Row w g e L) (hn : cs.length = Nat.min sLen dLen * size)
 (hpos : 0 < Nat.min sLen dLen -> dp = some ⟨g, off, none⟩ /\ ∃ ad, sp = some ad /\ ∀ j v, cs[j]? = some v -> w.cell? (ad.add j) = some v)
 (hfit : off + cs.length <= L.length) (h1 : ∀ v ∈ cs, v.oneCell' = true)
 (h : ∀ w', Row w' g e (splice L off cs) -> Ext (· = g) w w' -> wpList P ops Q rest (a.put o.dst (.int .i64 (Nat.min sLen dLen : Nat))) w') :
 wpList P ops Q (o :: rest) a w := by
 by_cases h0 : Nat.min sLen dLen = 0
 . have hc : cs = [] := List.eq_nil_of_length_eq_zero (by rw [hn, h0, Nat.zero_mul]);subst hc;refine yW hgd (exec_copy d s dT sT ho (by rw [hd, hs]; exact run_copy_k_nil w dT sT o.type elem i hu hi dp dLen dCap sp sLen sCap h0)) ?_;have h2 := h w (by simpa [splice] using hg) (Ext.refl _ _);rw [h0] at h2;exact h2
 . obtain ⟨rfl, ad, rfl, hsrc⟩ := hpos (by omega);refine yW hgd (exec_copy d s dT sT ho (by rw [hd, hs]; exact run_copy_k w dT sT o.type elem i size hu hi hsz g off dLen dCap ad sLen sCap e L cs hg hn hsrc hfit h1)) ?_;exact h _ (pV hg _) (sF _ _ _)
theorem nZ (hgd : o.guard = none) (d : Operand) (dT : TypeId) (ho : o.op = .call { callee := .builtin .clear, args := #[d], argTypes := #[dT] })
 (elem : TypeId) (i : TypeInfo) (z : Value) (size : Nat) (hu : P.underlying dT = some (.slice elem)) (hi : P.info? elem = some i) (hz : i.zero = some z) (hzs : z.cells.size = size) (hpos : 0 < size)
 (h1 : ∀ v ∈ z.cells, v.oneCell' = true) (g off n c : Nat) (hd : a.eval d = .slice (some ⟨g, off, none⟩) n c) (e : TypeId) (L : List Value) (hg : Row w g e L) (hfit : off + n * size <= L.length)
 (h : ∀ w' zs, zs.length = n * size -> Row w' g e (splice L off zs) -> Ext (· = g) w w' -> wpList P ops Q rest (a.put o.dst (.tuple #[])) w') : wpList P ops Q (o :: rest) a w := by
 obtain ⟨zs, hl, hr⟩ := run_clear_k (P := P) w dT o.type elem i z size hu hi hz hzs hpos h1 g off n c e L hg hfit;exact yW hgd (exec_clear d dT ho (by rw [hd]; exact hr)) (h _ zs hl (pV hg _) (sF _ _ _))
theorem qE (hgd : o.guard = none) (d s : Operand) (t : TypeId) (ho : o.op = .call { callee := .builtin .append, args := #[d, s], argTypes := #[t, t] })
 (e : TypeId) (i : TypeInfo) (size : Nat) (ht : P.underlying t = some (.slice e)) (hi : P.info? e = some i) (hsz : i.size = size)
 (g n cap : Nat) (sp : Option Addr) (m c : Nat) (hd : a.eval d = .slice (some ⟨g, 0, none⟩) n cap) (hs : a.eval s = .slice sp m c)
 (L news : List Value) (hg : Row w g e L) (hl : news.length = m * size) (hnews : 0 < m -> ∃ ad, sp = some ad /\ ∀ j v, news[j]? = some v -> w.cell? (ad.add j) = some v) (h1 : ∀ v ∈ news, v.oneCell' = true)
 (hroom : n + m <= cap) (hfit : n * size + news.length <= L.length)
 (h : ∀ w', Row w' g e (splice L (n * size) news) -> Ext (· = g) w w' -> wpList P ops Q rest (a.put o.dst (.slice (some ⟨g, 0, none⟩) (n + m) cap)) w') : wpList P ops Q (o :: rest) a w := by
 subst hsz;by_cases h0 : m = 0
 . subst h0;have hc : news = [] := List.eq_nil_of_length_eq_zero (by rw [hl, Nat.zero_mul]);subst hc;have hrun : (Builtin.append_ #[t, t] o.type #[.slice (some ⟨g, 0, none⟩) n cap, .slice sp 0 c]).run P w = .ok (.slice (some ⟨g, 0, none⟩) n cap) w := by
    have hn : n <= cap := by omega
    cases sp <;> simp [Builtin.append_, run_underlying ht, sizeOf, typeInfo, hi, Builtin.lenOf, Builtin.firstCells, loadCells, loadCellsFrom, storeCells, hn]
   refine yW hgd (yM d s t t ho (by rw [hd, hs]; exact hrun)) ?_;exact h w (by simpa [splice] using hg) (Ext.refl _ _)
 . obtain ⟨ad, rfl, hsrc⟩ := hnews (by omega);have hr := run_append_room (P := P) w t o.type e i ht hi g n cap L.toArray hg ad m c news hl hsrc h1 hroom (by simpa using hfit);refine yW hgd (yM d s t t ho (by rw [hd, hs]; exact hr)) ?_;exact h _ (by simpa [splice] using pV hg (splice L (n * i.size) news)) (sF _ _ _)
theorem mJ (hgd : o.guard = none) (d s : Operand) (t tn : TypeId) (ho : o.op = .call { callee := .builtin .append, args := #[d, s], argTypes := #[t, tn] })
 (e : TypeId) (i : TypeInfo) (z : Value) (kq kn : IntKind) (size bytes : Nat) (ht : P.underlying t = some (.slice e)) (htn : P.underlying tn = some (.int kn)) (hi : P.info? e = some i) (hz : i.zero = some z)
 (hsz : i.size = size) (hby : i.bytes = bytes) (hzs : z.cells.size = size) (hpos : 0 < size)
 (g n cap k : Nat) (hd : a.eval d = .slice (some ⟨g, 0, none⟩) n cap) (hs : a.eval s = .int kq k) (L : List Value) (hg : Row w g e L) (hfit : n * size <= L.length)
 (h0 : 0 < k) (hroom : cap < n + k) (hmax : n + k <= maxLen) (hbytes : (n + k) * bytes <= 140737488355328)
 (h : ∀ w' L' cap', Row w' w.heap.size e L' -> L'.take (n * size) = L.take (n * size) -> L'.length = cap' * size -> n + k <= cap' -> cap' <= maxLen -> Below w.heap.size w w' ->
  wpList P ops Q rest (a.put o.dst (.slice (some ⟨w.heap.size, 0, none⟩) (n + k) cap')) w') : wpList P ops Q (o :: rest) a w := by
 have hm : n + k <= 9223372036854775807 := by simp only [maxLen] at hmax; omega
 have holds : ∀ j v, (L.take (n * size))[j]? = some v -> w.drew.cell? ((⟨g, 0, none⟩ : Addr).add j) = some v := by
  intro j v hv;have : L[j]? = some v := by
   rw [List.getElem?_take] at hv
   split at hv
   . exact hv
   . cases hv
  rw [Addr.add_lit, Nat.zero_add];show w.cell? _ = _;rw [hg.cell]; exact this
 have hlen : (L.take (n * size)).length = n * size := by rw [List.length_take]; omega
 have hf := run_firstCells_some (P := P) w.drew size n ⟨g, 0, none⟩ n cap (L.take (n * size)) hlen holds;have hkb : k * i.bytes <= 281474976710656 := by
  rw [hby];have := Nat.mul_le_mul_right bytes (show k <= n + k by omega);omega
 have hr := Lib.run_append_grow_zeros (P := P) w t tn o.type e i z kq kn ht htn hi hz (some ⟨g, 0, none⟩) n cap (L.take (n * size)) (by rw [hsz]; exact hf) k h0 (by omega) hroom (by omega) hkb (by rw [hby]; exact growslice_fits (by omega) hbytes);refine yW hgd (yM d s t tn ho (by rw [hd, hs]; exact hr)) ?_;have hge := grownCap_ge w (n + k) cap e;have hcm := grownCap_le_maxLen w (n + k) cap e hmax;have hb : Below w.heap.size w (w.drew.alloc (.cells ((L.take (n * size)).toArray ++ Builtin.zeroCells z.cells k ++ Builtin.zeroCells z.cells (grownCap w (n + k) cap e - (n + k))) e)) := (Below.refl _ w).drew.alloc (by simp) _;refine h _ ((L.take (n * size)) ++ ((Builtin.zeroCells z.cells k).toList ++ (Builtin.zeroCells z.cells (grownCap w (n + k) cap e - (n + k))).toList)) _ ?_ ?_ ?_ hge hcm hb
 . have := row_new w.drew ((L.take (n * size)) ++ ((Builtin.zeroCells z.cells k).toList ++ (Builtin.zeroCells z.cells (grownCap w (n + k) cap e - (n + k))).toList)) e;have e1 : (L.take (n * size) ++ ((Builtin.zeroCells z.cells k).toList ++ (Builtin.zeroCells z.cells (grownCap w (n + k) cap e - (n + k))).toList)).toArray = (L.take (n * size)).toArray ++ Builtin.zeroCells z.cells k ++ Builtin.zeroCells z.cells (grownCap w (n + k) cap e - (n + k)) := by
    apply Array.ext'; simp
   rw [e1] at this;exact this
 . rw [List.take_append_of_le_length (by omega), List.take_of_length_le (by omega)]
 . simp only [List.length_append, hlen, Array.length_toList, size_zeroCells, hzs, <- Nat.add_mul]
   congr 1
   omega
theorem pL (hgd : o.guard = none) (d s : Operand) (t tn : TypeId) (ho : o.op = .call { callee := .builtin .append, args := #[d, s], argTypes := #[t, tn] })
 (e : TypeId) (i : TypeInfo) (z : Value) (kq kn : IntKind) (size bytes : Nat) (ht : P.underlying t = some (.slice e)) (htn : P.underlying tn = some (.int kn)) (hi : P.info? e = some i) (hz : i.zero = some z)
 (hsz : i.size = size) (hby : i.bytes = bytes) (hzs : z.cells.size = size) (hpos : 0 < size)
 (n : Nat) (hd : a.eval d = .slice none 0 0) (hs : a.eval s = .int kq n) (h0 : 0 < n) (hmax : n <= maxLen) (hbytes : n * bytes <= 140737488355328)
 (h : ∀ w' L' cap', Row w' w.heap.size e L' -> L'.length = cap' * size -> n <= cap' -> cap' <= maxLen -> Below w.heap.size w w' ->
  wpList P ops Q rest (a.put o.dst (.slice (some ⟨w.heap.size, 0, none⟩) n cap')) w') : wpList P ops Q (o :: rest) a w := by
 have hm : n <= 9223372036854775807 := by simp only [maxLen] at hmax; omega
 have hr := Lib.run_append_nil_zeros (P := P) w t tn o.type e i z kq kn ht htn hi hz n h0 (by omega) (by omega) (by rw [hby]; omega);refine yW hgd (yM d s t tn ho (by rw [hd, hs]; exact hr)) ?_;have hge := grownCap_ge w n 0 e;have hcm := grownCap_le_maxLen w n 0 e hmax;refine h _ ((Builtin.zeroCells z.cells n ++ Builtin.zeroCells z.cells (grownCap w n 0 e - n)).toList) _ ?_ ?_ hge hcm ((Below.refl _ w).drew.alloc (by simp) _)
 . have := row_new w.drew (Builtin.zeroCells z.cells n ++ Builtin.zeroCells z.cells (grownCap w n 0 e - n)).toList e;rw [Array.toArray_toList] at this;exact this
 . simp only [Array.toList_append, List.length_append, Array.length_toList, size_zeroCells, hzs, <- Nat.add_mul]
   congr 1
   omega
end
end Go.Hp
namespace Go.Hp
open Go.RowKit Go.RG
variable {P : Program} {w : World}
theorem mZ {ops : Array Oper} {rest : List Oper} {o : Oper} {a : Act} {Q : Exit -> Act -> World -> Prop} (hgd : o.guard = none) (s x : Operand) (t : TypeId)
 (ho : o.op = .call { callee := .builtin .append, args := #[s, x], argTypes := #[t, t] })
 (base : Nat) (e : TypeId) (i : TypeInfo) (z : Value) (size bytes : Nat) (ht : P.underlying t = some (.slice e)) (hi : P.info? e = some i) (hz : i.zero = some z)
 (hsize : i.size = size) (hby : i.bytes = bytes) (hzs : z.cells.size = size) (hsz : 0 < size)
 (g n cap : Nat) (xs : List Value) (hs : a.eval s = .slice (some ⟨g, 0, none⟩) n cap) (hown : w.ownsRow base e size (.slice (some ⟨g, 0, none⟩) n cap) n xs)
 (ad : Addr) (m c : Nat) (news : List Value) (hx : a.eval x = .slice (some ad) m c) (hl : news.length = m * size) (hnews : ∀ j u, news[j]? = some u -> w.cell? (ad.add j) = some u) (h1 : ∀ u ∈ news, u.oneCell' = true)
 (h63 : n + m <= maxLen) (hbytes : (n + m) * bytes <= 140737488355328) (hbase : base <= w.heap.size)
 (h : ∀ v' w', w'.ownsRow base e size v' (n + m) (xs ++ news) -> w.grownBy w' (some g) -> (∀ k, v'.ownBlock = some k -> k = g \/ w.heap.size <= k) -> wpList P ops Q rest (a.put o.dst v') w') : wpList P ops Q (o :: rest) a w := by
 obtain ⟨v', w', hr, q1, q2, -⟩ := run_append_own (P := P) w base t o.type e i z size bytes ht hi hz hsize hby hzs hsz _ n xs hown ad m c news hl hnews h1 h63 hbytes hbase;refine yW hgd (yM s x t t ho (by rw [hs, hx]; exact hr)) (h v' w' q1 q2 ?_);have hsmall : n + m <= 9223372036854775807 := by simp only [maxLen] at h63; omega
 subst hsize hby;intro k hk;obtain ⟨L, hL, hLl, hLt, hnc, hcm⟩ := qJ hown;by_cases hroom : n + m <= cap
 . have hr2 := run_append_room (P := P) w t o.type e i ht hi g n cap L.toArray hL ad m c news hl hnews h1 hroom (by rw [List.size_toArray, hl, hLl, <- Nat.add_mul]; exact Nat.mul_le_mul_right _ hroom);rw [hr2] at hr;injection hr with hv _;subst hv;exact .inl (Option.some.inj hk).symm
 . have hr2 := run_append_grow (P := P) w t o.type e i z ht hi hz ⟨g, 0, none⟩ n cap xs hown.1 (hown.cells (g := g) rfl) ad m c news hl hnews (by omega) (by omega) (growslice_fits (by omega) hbytes);rw [hr2] at hr;injection hr with hv _;subst hv;have hk : w.heap.size = k := Option.some.inj hk;exact .inr (by omega)
end Go.Hp
namespace Go.Proofs.YtbjofbhhnmehgaaGreatDoor.TT
open Go.RowKit Go.RG Go.Hp Go.Proofs.YtbjofbhhnmehgaaGreatDoor
theorem fol : Tryz.prog.follows .mixedOrders = true := by kernel_rfl
theorem xW : Tryz.prog.underlying 52 = some (.slice 5) := by kernel_rfl
theorem tR : (Tryz.prog.info? 5).map (λ i => (i.zero, i.size, i.bytes)) = some (some (.int .u8 0), 1, 1) := by kernel_rfl
def Src (w : World) (v : Value) (xs : List Value) : Prop :=
 (∃ g o c, v = .slice (some ⟨g, o, none⟩) xs.length c /\ xs.length <= c /\ ∀ j u, xs[j]? = some u -> w.cell? ⟨g, o + j, none⟩ = some u) \/ (v = .slice none 0 0 /\ xs = [])
theorem Src.below {w w' : World} {v : Value} {xs : List Value} (h : Src w v xs) (hb : Below w.heap.size w w') : Src w' v xs := by
 rcases h with ⟨g, o, c, rfl, hc, h⟩ | h
 . exact .inl ⟨g, o, c, rfl, hc, λ j u hu => zG hb (h j u hu)⟩
 . exact .inr h
theorem Src.shape {w : World} {v : Value} {xs : List Value} (h : Src w v xs) : ∃ a c, v = .slice a xs.length c /\ xs.length <= c := by
 rcases h with ⟨g, o, c, rfl, hc, -⟩ | ⟨rfl, rfl⟩
 . exact ⟨_, _, rfl, hc⟩
 . exact ⟨_, _, rfl, Nat.le_refl _⟩
theorem Src.of_owns {w : World} {B ty : Nat} {v : Value} {n : Nat} {xs : List Value} (h : w.ownsRow B ty 1 v n xs) : Src w v xs := by
 have hl := sC h;rw [Nat.mul_one] at hl;rcases h.2 with ⟨rfl, rfl⟩ | ⟨g, cap, cur, rfl, -, -, hr, -⟩
 . exact .inr ⟨rfl, List.eq_nil_of_length_eq_zero hl⟩
 . exact .inl ⟨g, 0, cap, by rw [hl], by rw [hl]; exact hr, λ j u hu => by have := h.cells (g := g) rfl j u hu; rwa [Addr.add_lit, Nat.zero_add, <- Nat.zero_add j] at this⟩
def u8s (bs : List Int) : List Value := bs.map λ b => .int .u8 b
theorem zH (bs : List Int) : (u8s bs).length = bs.length := by simp [u8s]
theorem xI (a b : List Int) : u8s (a ++ b) = u8s a ++ u8s b := by simp [u8s]
theorem yU (bs : List Int) : ∀ u ∈ u8s bs, u.oneCell' = true := by
 intro u hu;obtain ⟨b, -, rfl⟩ := List.mem_map.1 hu;rfl
theorem pO {bs : List Int} {i : Nat} {b : Int} (h : bs[i]? = some b) : (u8s bs)[i]? = some (.int .u8 b) := by simp [u8s, h]
theorem qH {w : World} {b c : Nat} {cs : List Value} {ty : TypeId} (h : w.heap[b]? = some (.cells cs.toArray ty (0, 0))) (hc : cs.length <= c) : Src w (.slice (some ⟨b, 0, none⟩) cs.length c) cs :=
 .inl ⟨b, 0, c, rfl, hc, λ j u hu => by rw [Nat.zero_add]; simpa [World.cell?, h] using hu⟩
theorem und_int' : Tryz.prog.underlying 3 = some (.int .i64) := by kernel_rfl
theorem grow_nil (n : Nat) (hn : n <= 1099511627776) (w : World) :
 Calls Tryz.prog 142 #[.slice none 0 0, .int .i64 n] w λ e w' => ∃ v, e = .returned v /\ w'.ownsRow w.heap.size 5 1 v 0 [] /\ Below w.heap.size w w' := by
 rcases Nat.eq_zero_or_pos n with h0 | h0
 . subst h0;go_enter Tryz.func142, Tryz.ntmps142
   go_wp2_with fail
   go_ret
   exact ⟨_, rfl, World.ownsRow_nil _ _ _ _, Below.refl _ _⟩
 . obtain ⟨i0, hi, hz0, hz1, hz2⟩ := info_parts tR;have hn1 : (0 : Int) < (n : Int) := by omega
   have c1 : n <= maxLen := by unfold maxLen; omega
   have c2 : n * 1 <= 140737488355328 := by omega
   go_enter Tryz.func142, Tryz.ntmps142
   go_wp2_with (at_builtin; go_loud (refine pL rfl (.tmp 20) (.tmp 21) 52 3 rfl 5 i0 (.int .u8 0) .i64 .i64 1 1 xW und_int' hi hz0 hz1 hz2 rfl (by decide) n rfl rfl h0 c1 c2 ?_; intro w1 L1 cap1 hr1 hl1 hc1 hm1 hb1; have hm2 : cap1 <= 9223372036854775807 := (by simp only [maxLen] at hm1; omega); have HR1 := zB hr1; clear hr1))
   go_ret
   exact ⟨_, rfl, sB HR1.out hl1 (Nat.zero_le _) hm1 (by simp) (Nat.le_refl _), hb1⟩
theorem xN {w : World} {ops : Array Oper} {rest : List Oper} {o : Oper} {a : Act} {Q : Exit -> Act -> World -> Prop} (hgd : o.guard = none) (s x : Operand)
 (ho : o.op = .call { callee := .builtin .append, args := #[s, x], argTypes := #[52, 52] })
 (base n : Nat) (v u : Value) (xs ys : List Value) (hs : a.eval s = v) (hown : w.ownsRow base 5 1 v n xs) (hx : a.eval x = u) (hy : Src w u ys) (h1 : ∀ u ∈ ys, u.oneCell' = true)
 (hb : n + ys.length <= 549755813888) (hbase : base <= w.heap.size)
 (h : ∀ v' w', w'.ownsRow base 5 1 v' (n + ys.length) (xs ++ ys) -> Below base w w' -> wpList Tryz.prog ops Q rest (a.put o.dst v') w') : wpList Tryz.prog ops Q (o :: rest) a w := by
 obtain ⟨i0, hi, hz0, hz1, hz2⟩ := info_parts tR;have c1 : n + ys.length <= maxLen := by unfold maxLen; omega
 have c2 : (n + ys.length) * 1 <= 140737488355328 := by omega
 rcases hy with ⟨g, o, c, rfl, -, hy⟩ | ⟨rfl, rfl⟩
 . exact wpList_append_own w hgd s x 52 ho base 5 i0 (.int .u8 0) 1 1 xW hi hz0 hz1 hz2 rfl (by decide) v n xs hs hown ⟨g, o, none⟩ ys.length c ys hx (by simp) (λ j u hu => by rw [Addr.add_lit]; exact hy j u hu) h1 c1 c2 hbase λ v' w' h2 h3 _ =>
    h v' w' h2 ((Below.refl _ w).mono hbase |>.grown h3 hbase (λ k hk => (hown.lt k hk).1))
 . exact wpList_append_own_none hgd s x 52 ho base 5 i0 1 xW hi v n xs hs hown hx (h v w (by simpa using hown) ((Below.refl _ w).mono hbase))
theorem concat_two (gv cv : Nat) (va vb : Value) (xs ys : List Value) (w : World) (h0 : w.cell? ⟨gv, 0, none⟩ = some va) (h1 : w.cell? ⟨gv, 1, none⟩ = some vb) (hx : Src w va xs) (hy : Src w vb ys)
 (h1x : ∀ v ∈ xs, v.oneCell' = true) (h1y : ∀ v ∈ ys, v.oneCell' = true) (hn : xs.length + ys.length <= 549755813888) :
 Calls Tryz.prog 129 #[.slice (some ⟨gv, 0, none⟩) 2 cv] w λ e w' => ∃ v, e = .returned v /\ w'.ownsRow w.heap.size 5 1 v (xs.length + ys.length) (xs ++ ys) /\ Below w.heap.size w w' := by
 have Hx := zB hx; clear hx;have Hy := zB hy; clear hy;have H1x := zB h1x; clear h1x;have H1y := zB h1y; clear h1y;obtain ⟨aa, ca, rfl, -⟩ := Hx.out.shape;obtain ⟨ab, cb, rfl, -⟩ := Hy.out.shape;generalize hna : xs.length = na at *;generalize hnb : ys.length = nb at *;have Hna := zB hna; clear hna;have Hnb := zB hnb; clear hnb;have G := zB (grow_nil (na + nb) (by omega));go_enter Tryz.func129, Tryz.ntmps129
 go_wp2_with fail
 refine wp_loop_rounds 3 ?_;rw [rounds_succ]
 go_wp2_with fail
 rw [rounds_succ]
 go_wp2_with fail
 rw [rounds_succ]
 go_wp2_with fail
 rw [show (na : Int) + (nb : Int) = ((na + nb : Nat) : Int) by omega];refine (G.out w).mono ?_;rintro e w1 ⟨v1, rfl, hown, hb1⟩;have k0 := zG hb1 h0;have k1 := zG hb1 h1;have Hown := zB hown; clear hown;have hs1 := hb1.size
 go_wp2_with fail
 refine wp_loop_rounds 3 ?_;rw [rounds_succ]
 go_wp2_with (at_builtin; go_loud (refine xN rfl _ _ rfl w.heap.size 0 _ _ [] xs rfl Hown.out rfl (Hx.out.below hb1) H1x.out (by rw [Hna.out]; omega) hs1 ?_; intro v2 w2 hown2 hg2; have Hg2 := zB hg2; have Hown2 := zB hown2; clear hown2 hg2))
 have hb2 : Below w.heap.size w w2 := hb1.trans Hg2.out;have hs2 := hb2.size;have m0 := zG hb2 h0;have m1 := zG hb2 h1;rw [rounds_succ]
 go_wp2_with (at_builtin; go_loud (refine xN rfl _ _ rfl w.heap.size _ _ _ _ ys rfl Hown2.out rfl (Hy.out.below hb2) H1y.out (by rw [Hna.out, Hnb.out]; omega) hs2 ?_; intro v3 w3 hown3 hg3; have Hg3 := zB hg3; have Hown3 := zB hown3; clear hown3 hg3))
 rw [rounds_succ]
 go_wp2_with fail
 go_ret
 refine ⟨v3, rfl, ?_, hb2.trans Hg3.out⟩;have := Hown3.out;rw [Hna.out, Hnb.out] at this;simpa using this
def sP (n : Nat) : List Int := if h : n = 0 then [] else sP (n / 128) ++ [(n : Int) % 128 + 128]
termination_by n
decreasing_by omega
def sdnv (n : Nat) : List Int := sP (n / 128) ++ [(n : Int) % 128]
theorem tT : sP 0 = [] := by unfold sP; rfl
theorem nC {n : Nat} (h : 0 < n) : sP n = sP (n / 128) ++ [(n : Int) % 128 + 128] := by
 conv => lhs; unfold sP
 rw [dif_neg (by omega)]
theorem gW (n k : Nat) (h : n < 128 ^ k) : (sP n).length <= k := by
 induction k generalizing n with
 | zero =>
  obtain rfl : n = 0 := by simp at h; omega
  rw [tT]; simp
 | succ k ih =>
  rcases Nat.eq_zero_or_pos n with h0 | h0
  . subst h0; rw [tT]; simp
  . rw [nC h0, List.length_append, List.length_singleton];have := ih (n / 128) (by rw [Nat.pow_succ] at h; exact Nat.div_lt_of_lt_mul (by omega));omega
theorem xU (n : Nat) (h : n < 18446744073709551616) : (sdnv n).length <= 10 := by
 unfold sdnv;rw [List.length_append, List.length_singleton];have := gW (n / 128) 9 (by omega);omega
theorem and127 (m : Nat) (h : m < 18446744073709551616) : bits .and .u64 (m : Int) 127 = (m : Int) % 128 :=
 bits_mask .u64 64 (by decide) wraps_u64 7 (by decide) (m : Int) (by omega) (by omega)
theorem or128 (m : Nat) : bits .or .u8 ((m : Int) % 128) 128 = (m : Int) % 128 + 128 :=
 bits_join_low .u8 8 (by decide) wraps_u8 7 ((m : Int) % 128) 128 (by omega) (by omega) (by omega) (by decide) (by decide) (by decide)
theorem digits_bound {m n k : Nat} (hn : n < 18446744073709551616) (hm : 0 < m) (h : m * 128 ^ k <= n / 128) : k <= 8 := by
 rcases Nat.lt_or_ge 8 k with h1 | h1
 . have h2 : 128 ^ 9 <= 128 ^ k := Nat.pow_le_pow_right (by decide) h1;have h3 : 1 * 128 ^ k <= m * 128 ^ k := Nat.mul_le_mul_right _ hm;have h4 : (128 : Nat) ^ 9 = 9223372036854775808 := by decide
   omega
 . exact h1
theorem digits_step {m n k : Nat} (h : m * 128 ^ k <= n / 128) : m / 128 * 128 ^ (k + 1) <= n / 128 := by
 rw [Nat.pow_succ, Nat.mul_comm (128 ^ k) 128, <- Nat.mul_assoc];exact Nat.le_trans (Nat.mul_le_mul_right _ (Nat.div_mul_le_self m 128)) h
def qB (w : World) (b q : Nat) (D : List Int) : Prop := w.heap[b]? = some (.cells (List.replicate q (Value.int .u8 0) ++ u8s D).toArray 183 (0, 0))
theorem qB.put {w : World} {b q : Nat} {D : List Int} (h : qB w b (q + 1) D) (x : Int) : qB (w.setCell ⟨b, q, none⟩ (.int .u8 x)) b q (x :: D) := by
 unfold qB at h ⊢;rw [setCell_eq_setRow w b q _ 183 (0, 0) _ h];have := setRow_heap w b _ ((List.replicate (q + 1) (Value.int .u8 0) ++ u8s D).toArray.setIfInBounds q (.int .u8 x)) 183 (0, 0) h;rw [this]
 congr 2
 rw [List.setIfInBounds_toArray, List.replicate_succ', List.append_assoc, List.set_append_right _ _ (by simp)];simp [u8s]
theorem qB.cell {w : World} {b q : Nat} {D : List Int} (h : qB w b q D) (i : Nat) (hi : i < q + D.length) : ∃ u, w.cell? ⟨b, i, none⟩ = some u := by
 unfold qB at h;have hl : i < (List.replicate q (Value.int .u8 0) ++ u8s D).length := by simp [u8s]; omega
 exact ⟨(List.replicate q (Value.int .u8 0) ++ u8s D)[i], by simp only [World.cell?, h]; simp [List.getElem?_eq_getElem hl]⟩
theorem qB.frozen {w : World} {b q : Nat} {D : List Int} (h : qB w b q D) (i : Nat) : w.frozen? ⟨b, i, none⟩ = false := by unfold qB at h; simp [World.frozen?, h]
theorem qB.src {w : World} {b q : Nat} {D : List Int} (h : qB w b q D) (c : Nat) (hc : D.length <= c) : Src w (.slice (some ⟨b, q, none⟩) D.length c) (u8s D) := by
 unfold qB at h;refine .inl ⟨b, q, c, by rw [zH], by rw [zH]; exact hc, λ j u hu => ?_⟩;have e : (List.replicate q (Value.int .u8 0) ++ u8s D)[q + j]? = some u := by
  rw [List.getElem?_append_right (by simp)];simpa using hu
 simp only [World.cell?, h];simpa using e
theorem arr_und : Tryz.prog.underlying 183 = some (.array (Tryz.prog.arrayLen 183) (Tryz.prog.elem 183)) := by kernel_rfl
theorem arr_len : Tryz.prog.arrayLen 183 = 10 := by kernel_rfl
theorem arr_size (w : World) : (sizeOf (Tryz.prog.elem 183)).run Tryz.prog w = .ok 1 w := by kernel_rfl
theorem arr_slice (w : World) (b q : Nat) (hq : q <= 9) : Sem.run Tryz.prog (Instr.sliceAt 183 (.pointer (some ⟨b, 0, none⟩)) (some (.int .i64 (q : Int))) none none) w = .ok (.slice (some ⟨b, q, none⟩) (10 - q) (10 - q)) w := by
 refine (run_sliceAt_array_l w 183 ⟨b, 0, none⟩ arr_und .i64 (q : Int) (by omega) (by rw [arr_len]; omega)).trans ?_;rw [arr_size, arr_len];have h1 : ¬ (10 = q) := by omega
 simp [slicedAt, h1, Addr.add_lit, Result.andThen]
theorem uZ (v : Value) (xs : List Value) (n : Nat) (hn : n < 18446744073709551616) (w : World) (hx : Src w v xs) (h1 : ∀ u ∈ xs, u.oneCell' = true) (hl : xs.length <= 274877906944) :
 Calls Tryz.prog 103 #[v, .int .u64 n] w λ e w' => ∃ u, e = .returned u /\ w'.ownsRow w.heap.size 5 1 u (xs.length + (sdnv n).length) (xs ++ u8s (sdnv n)) /\ Below w.heap.size w w' := by
 obtain ⟨ax, cx, rfl, hcx⟩ := hx.shape;have Hx := zB hx; clear hx;have H1 := zB h1; clear h1;have hA := and127 n hn;go_enter Tryz.func103, Tryz.ntmps103
 go_wp2_with fail
 have hB0 := zQ w (.cells #[.int .u8 0, .int .u8 0, .int .u8 0, .int .u8 0, .int .u8 0, .int .u8 0, .int .u8 0, .int .u8 0, .int .u8 0, .int .u8 ((n : Int) % 128)] 183);have hD0 : qB (w.alloc (.cells #[.int .u8 0, .int .u8 0, .int .u8 0, .int .u8 0, .int .u8 0, .int .u8 0, .int .u8 0, .int .u8 0, .int .u8 0, .int .u8 ((n : Int) % 128)] 183)) w.heap.size 9 [(n : Int) % 128] := World.alloc_heap_new w _;generalize w.alloc (.cells #[.int .u8 0, .int .u8 0, .int .u8 0, .int .u8 0, .int .u8 0, .int .u8 0, .int .u8 0, .int .u8 0, .int .u8 0, .int .u8 ((n : Int) % 128)] 183) = w0 at hB0 hD0 ⊢
 go_loopw [1, 6] (λ vn vat wr => ∃ (m q : Nat) (D : List Int), vn = .int .u64 m /\ vat = .int .i64 q /\ q + D.length = 10 /\ 0 < D.length /\ sP m ++ D = sdnv n /\ m * 128 ^ (D.length - 1) <= n / 128 /\ qB wr w.heap.size q D /\ Below w.heap.size w wr)
  (λ vn _ _ => (intOf vn).toNat)
 case atStart => exact ⟨n / 128, 9, [(n : Int) % 128], by simp, rfl, rfl, by simp, rfl, by simp, hD0, hB0⟩
 case round =>
  obtain ⟨m, q, D, rfl, rfl, hq, hD, hs, hm, hR, hB⟩ := hrel;clear hD0 hB0 hA;have Hs := zB hs; clear hs;have Hm := zB hm; clear hm;by_cases h0 : 0 < m
  . have h0' : (0 : Int) < (m : Int) := by omega
    have hk := digits_bound hn h0 Hm.out;obtain ⟨p, rfl⟩ : ∃ p, q = p + 1 := ⟨q - 1, by omega⟩;have ep : (((p + 1 : Nat) : Int) - 1) = (p : Int) := by omega
    obtain ⟨u0, c0⟩ := hR.cell p (by omega);have f0 := hR.frozen p;have hmb : m < 18446744073709551616 := by
     have h1 := Hm.out;have h2 : m <= m * 128 ^ (D.length - 1) := Nat.le_mul_of_pos_right _ (Nat.pow_pos (by decide));omega
    have hA := and127 m hmb;have hO := or128 m
    go_wp2_with fail
    refine ⟨⟨m / 128, p, ((m : Int) % 128 + 128) :: D, by simp, rfl, by simp; omega, by simp, ?_, ?_, hR.put _, hB.setCell (p := ⟨w.heap.size, p, none⟩) (Nat.le_refl _) _⟩, ?_⟩
    . rw [<- Hs.out, nC h0, List.append_assoc]; rfl
    . obtain ⟨k, hk'⟩ : ∃ k, D.length = k + 1 := ⟨D.length - 1, by omega⟩;have h1 := Hm.out;rw [hk'] at h1;have h2 := digits_step h1;rw [List.length_cons, hk'];exact h2
    . show ((m : Int) / 128).toNat < ((m : Int)).toNat;omega
  . obtain rfl : m = 0 := by omega
    have hs := Hs.out;rw [tT, List.nil_append] at hs;subst hs;have HR := zB hR; clear hR;have Hq := zB hq;have hq1 : q <= 9 := by omega
    clear hq;have hsl := λ w1 => arr_slice w1 w.heap.size q hq1
    go_wp2_with fail
    have hB2 := zQ wr (.cells #[.slice ax xs.length cx, .slice (some ⟨w.heap.size, q, none⟩) (10 - q) (10 - q)] 52);have g2 := World.alloc_heap_new wr (.cells #[.slice ax xs.length cx, .slice (some ⟨w.heap.size, q, none⟩) (10 - q) (10 - q)] 52);generalize wr.alloc (.cells #[.slice ax xs.length cx, .slice (some ⟨w.heap.size, q, none⟩) (10 - q) (10 - q)] 52) = w2 at hB2 g2 ⊢;have c0 : w2.cell? ⟨wr.heap.size, 0, none⟩ = some (.slice ax xs.length cx) := by simp [World.cell?, g2]
    have c1 : w2.cell? ⟨wr.heap.size, 1, none⟩ = some (.slice (some ⟨w.heap.size, q, none⟩) (10 - q) (10 - q)) := by simp [World.cell?, g2]
    have hW2 := hB.trans (hB2.mono hB.size);have hsrc : Src w2 (.slice (some ⟨w.heap.size, q, none⟩) (10 - q) (10 - q)) (u8s (sdnv n)) := by
     have := (HR.out.src (10 - q) (by have := Hq.out; omega)).below hB2
     rwa [show (sdnv n).length = 10 - q by have := Hq.out; omega] at this
    refine (concat_two _ _ _ _ xs (u8s (sdnv n)) w2 c0 c1 (Hx.out.below hW2) hsrc H1.out (yU _) ?_).mono ?_
    . rw [zH]; have := Hq.out; omega
    rintro e w3 ⟨u, rfl, hown, hB3⟩;clear c0 c1 g2;have Hown := zB hown; clear hown
    go_wp2_with fail
    go_ret
    have hown := Hown.out;rw [zH] at hown;exact ⟨_, rfl, yC hown (λ k hk => Nat.le_trans hW2.size (hown.lt k hk).1), hW2.trans (hB3.mono hW2.size)⟩
def wW (bs : List Value) : List Value := u8s (sdnv bs.length) ++ bs
theorem mS {bs : List Value} (h : ∀ u ∈ bs, u.oneCell' = true) : ∀ u ∈ wW bs, u.oneCell' = true := λ u hu => (List.mem_append.1 hu).elim (yU _ u) (h u)
theorem wC (v y : Value) (xs ys : List Value) (w : World) (hx : Src w v xs) (hy : Src w y ys) (h1 : ∀ u ∈ xs, u.oneCell' = true) (h2 : ∀ u ∈ ys, u.oneCell' = true) (hl : xs.length <= 274877906944) (hm : ys.length <= 137438953472) :
 Calls Tryz.prog 66 #[v, y] w λ e w' => ∃ u, e = .returned u /\ w'.ownsRow w.heap.size 5 1 u (xs ++ wW ys).length (xs ++ wW ys) /\ Below w.heap.size w w' := by
 obtain ⟨ay, cy, rfl, -⟩ := hy.shape;have Hx := zB hx; clear hx;have Hy := zB hy; clear hy;have H1 := zB h1; clear h1;have H2 := zB h2; clear h2;have hA := uZ v xs ys.length (by omega) w Hx.out H1.out hl;have HA := zB hA; clear hA;go_enter Tryz.func66, Tryz.ntmps66
 go_wp2_with fail
 refine HA.out.mono ?_;rintro e w1 ⟨u, rfl, hown, hB⟩;have hsl := xU ys.length (by omega);have Hown := zB hown; clear hown;have hs := hB.size
 go_wp2_with (at_builtin; go_loud (refine xN rfl _ _ rfl w.heap.size _ _ _ _ ys rfl Hown.out rfl (Hy.out.below hB) H2.out (by omega) hs ?_; intro v2 w2 hown2 hg2; have Hg2 := zB hg2; have Hown2 := zB hown2; clear hown2 hg2))
 go_ret
 refine ⟨_, rfl, ?_, hB.trans Hg2.out⟩;have := Hown2.out;unfold wW;rw [List.append_assoc] at this
 rwa [show (xs ++ (u8s (sdnv ys.length) ++ ys)).length = xs.length + (sdnv ys.length).length + ys.length by simp [zH]; omega]
def crcTab : List Int := [0, 498536548, 997073096, 651767980, 1994146192, 1802195444, 1303535960, 1342533948, 3988292384, 4027552580, 3604390888, 3412177804, 2607071920, 2262029012, 2685067896, 3183342108]
def Tab (w : World) : Prop := ∀ j : Nat, j < 16 -> w.cell? ⟨9, j, none⟩ = some (.int .u32 (crcTab.getD j 0))
theorem Tab.below {w w' : World} (h : Tab w) (hb : Below w.heap.size w w') : Tab w' := λ j hj => zG hb (h j hj)
def crcHalf (c : Int) : Int := bits .xor .u32 (crcTab.getD (c % 16).toNat 0) (c / 16)
def crcByte (c x : Int) : Int := crcHalf (crcHalf (bits .xor .u32 c x))
def crc (bs : List Int) : Int := bits .xor .u32 4294967295 (bs.foldl crcByte 4294967295)
theorem and15 (c : Int) (h0 : 0 <= c) (h : c < 4294967296) : bits .and .u32 c 15 = c % 16 :=
 bits_mask .u32 32 (by decide) wraps_u32 4 (by decide) c h0 h
theorem nW (op : BinOp) (a b : Int) : 0 <= bits op .u32 a b /\ bits op .u32 a b < 4294967296 := by
 have hw : ∀ n : Int, IntKind.u32.wrap n = n % 4294967296 := λ n => by simp [IntKind.wrap, IntKind.bits, IntKind.signed]
 unfold bits;rw [hw];exact ⟨Int.emod_nonneg _ (by decide), Int.emod_lt_of_pos _ (by decide)⟩
theorem crc_any (v : Value) (bs : List Int) (w : World) (hx : Src w v (u8s bs)) (hT : Tab w) (hl : bs.length <= 1099511627776) (hb : ∀ b ∈ bs, 0 <= b /\ b < 256) :
 Calls Tryz.prog 138 #[v] w λ e w' => e = .returned (.int .u32 (crc bs)) /\ Below w.heap.size w w' := by
 obtain ⟨ax, cx, rfl, -⟩ := hx.shape;obtain ⟨n, hn⟩ : ∃ n, bs.length = n := ⟨_, rfl⟩;have hn2 : (u8s bs).length = n := by rw [zH, hn]
 rw [hn2] at hx ⊢;rw [hn] at hl;have Hn := zB hn; clear hn hn2;have Hx := zB hx; clear hx;have HT := zB hT; clear hT;have Hb := zB hb; clear hb;go_enter Tryz.func138, Tryz.ntmps138
 go_wp2_with fail
 go_loopw [3, 8] (λ vc vi wr => ∃ (i : Nat) (c : Int), vi = .int .i64 i /\ i <= n /\ vc = .int .u32 c /\ c = (bs.take i).foldl crcByte 4294967295 /\ 0 <= c /\ c < 4294967296 /\ Below w.heap.size w wr)
  (λ _ vi _ => n - (intOf vi).toNat)
 case atStart => exact ⟨0, _, rfl, by omega, rfl, rfl, by decide, by decide, Below.refl _ _⟩
 case round =>
  obtain ⟨i, c, rfl, hi, rfl, hc, h0, h1, hB⟩ := hrel;have Hc := zB hc; clear hc;by_cases hlt : i < n
  . have hii : (i : Int) < (n : Int) := by omega
    have hlt' : i < bs.length := by rw [Hn.out]; exact hlt
    rcases Hx.out with ⟨g, o, c', e1, -, hr⟩ | ⟨e1, e2⟩
    . injection e1 with e1 _ e3;subst e1 e3;have hx0 := zG hB (hr i _ (pO (List.getElem?_eq_getElem hlt')));have hxb := Hb.out _ (List.getElem_mem hlt');obtain ⟨x, hx⟩ : ∃ x, bs[i] = x := ⟨_, rfl⟩;rw [hx] at hx0 hxb;have Hx1 := zB hx; clear hx hr;obtain ⟨y, hy⟩ : ∃ y, bits .xor .u32 c x = y := ⟨_, rfl⟩;have hy1 := nW .xor c x;rw [hy] at hy1;have hA1 := and15 y hy1.1 hy1.2;obtain ⟨t1, ht1⟩ : ∃ t1, crcTab.getD (y % 16).toNat 0 = t1 := ⟨_, rfl⟩;have hT1 := zG hB (HT.out (y % 16).toNat (by omega));rw [ht1] at hT1;obtain ⟨z, hz⟩ : ∃ z, bits .xor .u32 t1 (y / 16) = z := ⟨_, rfl⟩;have hz1 := nW .xor t1 (y / 16);rw [hz] at hz1;have hA2 := and15 z hz1.1 hz1.2;obtain ⟨t2, ht2⟩ : ∃ t2, crcTab.getD (z % 16).toNat 0 = t2 := ⟨_, rfl⟩;have hT2 := zG hB (HT.out (z % 16).toNat (by omega));rw [ht2] at hT2;obtain ⟨c2, hc2⟩ : ∃ c2, bits .xor .u32 t2 (z / 16) = c2 := ⟨_, rfl⟩;have hc3 := nW .xor t2 (z / 16);rw [hc2] at hc3;have hstep : crcByte c x = c2 := by
       unfold crcByte crcHalf;rw [hy, ht1, hz, ht2, hc2]
      have Hstep := zB hstep; clear hstep;have Ht1 := zB ht1; clear ht1;have Ht2 := zB ht2; clear ht2
      go_wp2_with fail
      refine ⟨⟨i + 1, c2, by simp, by omega, rfl, ?_, hc3.1, hc3.2, hB⟩, ?_⟩
      . rw [List.take_add_one, List.getElem?_eq_getElem hlt', Hx1.out, List.foldl_append, <- Hc.out];exact Hstep.out.symm
      . show n - (((i : Int) + 1).toNat) < n - ((i : Int).toNat);omega
    . have h2 := congrArg List.length e2;rw [zH, List.length_nil] at h2;omega
  . obtain rfl : i = n := by omega
    have hfin : bits .xor .u32 IntKind.u32.max c = crc bs := by
     unfold crc;rw [show IntKind.u32.max = 4294967295 by decide];rw [Hc.out, List.take_of_length_le (by rw [Hn.out]; exact Nat.le_refl _)]
    have Hfin := zB hfin; clear hfin
    go_wp2_with fail
    go_ret
    exact ⟨by rw [<- Hfin.out]; rfl, hB⟩
theorem qV (w : World) (o1 o2 : Obj) : Below w.heap.size w ((w.alloc o1).alloc o2) /\ ((w.alloc o1).alloc o2).heap[w.heap.size]? = some o1 /\ ((w.alloc o1).alloc o2).heap[w.heap.size + 1]? = some o2 := by
 have h1 : (w.alloc o1).heap.size = w.heap.size + 1 := by simp
 have h2 := World.alloc_heap_new (w.alloc o1) o2;rw [h1] at h2;exact ⟨((Below.refl _ w).alloc (Nat.le_refl _) _).alloc (by simp) _, zK ((Below.refl _ _).alloc (Nat.le_refl _) _) (World.alloc_heap_new w o1), h2⟩
def tN (bs : List Int) : List Int := [crc bs % 256, crc bs / 256 % 256, crc bs / 65536 % 256, crc bs / 16777216]
theorem crc_range (bs : List Int) : 0 <= crc bs /\ crc bs < 4294967296 := nW .xor _ _
theorem seal_any (v : Value) (bs : List Int) (w : World) (hx : Src w v (u8s bs)) (hT : Tab w) (hl : bs.length <= 274877906944) (hb : ∀ b ∈ bs, 0 <= b /\ b < 256) :
 Calls Tryz.prog 118 #[v] w λ e w' => ∃ u, e = .returned u /\ w'.ownsRow w.heap.size 5 1 u (bs.length + 4) (u8s (bs ++ tN bs)) /\ Below w.heap.size w w' := by
 obtain ⟨ax, cx, rfl, -⟩ := hx.shape;have Hx := zB hx; clear hx;have HC := zB (crc_any _ bs w Hx.out hT (by omega) hb);have hcr := crc_range bs;have Hb := zB hb; clear hb;go_enter Tryz.func118, Tryz.ntmps118
 go_wp2_with fail
 refine HC.out.mono ?_;rintro e w1 ⟨rfl, hB⟩
 go_wp2_with fail
 have hb2 := qV w1 (.cells #[.int .u8 (crc bs % 256), .int .u8 (crc bs / 256 % 256), .int .u8 (crc bs / 65536 % 256), .int .u8 (crc bs / 16777216)] 5) (.cells #[.slice ax (u8s bs).length cx, .slice (some ⟨w1.heap.size, 0, none⟩) 4 4] 52);generalize (w1.alloc (.cells #[.int .u8 (crc bs % 256), .int .u8 (crc bs / 256 % 256), .int .u8 (crc bs / 65536 % 256), .int .u8 (crc bs / 16777216)] 5)).alloc (.cells #[.slice ax (u8s bs).length cx, .slice (some ⟨w1.heap.size, 0, none⟩) 4 4] 52) = w2 at hb2 ⊢;obtain ⟨hb2, g0, g1⟩ := hb2;have c0 : w2.cell? ⟨w1.heap.size + 1, 0, none⟩ = some (.slice ax (u8s bs).length cx) := by simp [World.cell?, g1]
 have c1 : w2.cell? ⟨w1.heap.size + 1, 1, none⟩ = some (.slice (some ⟨w1.heap.size, 0, none⟩) 4 4) := by simp [World.cell?, g1]
 have hW2 := hB.trans (hb2.mono hB.size);have hsrc : Src w2 (.slice (some ⟨w1.heap.size, 0, none⟩) 4 4) (u8s (tN bs)) := qH (cs := u8s (tN bs)) g0 (by simp [u8s, tN]);refine (concat_two _ _ _ _ (u8s bs) (u8s (tN bs)) w2 c0 c1 (Hx.out.below hW2) hsrc (yU _) (yU _) ?_).mono ?_
 . rw [zH, zH]; simp [tN]; omega
 rintro e w3 ⟨u, rfl, hown, hB3⟩;clear c0 c1 g0 g1;have Hown := zB hown; clear hown
 go_wp2_with fail
 go_ret
 have hown := Hown.out;rw [zH, zH, <- xI] at hown;exact ⟨_, rfl, yC hown (λ k hk => Nat.le_trans hW2.size (hown.lt k hk).1), hW2.trans (hB3.mono hW2.size)⟩
theorem clone_any (v : Value) (xs : List Value) (w : World) (hx : Src w v xs) (h1 : ∀ u ∈ xs, u.oneCell' = true) (hn : xs.length <= 549755813888) :
 Calls Tryz.prog 105 #[v] w λ e w' => ∃ u, e = .returned u /\ w'.ownsRow w.heap.size 5 1 u xs.length xs /\ Below w.heap.size w w' := by
 rcases hx with ⟨g, o, c, rfl, hc, hr⟩ | ⟨rfl, rfl⟩
 . have he := λ w => Lib.run_eql_slice_nil (P := Tryz.prog) w 52 5 (some ⟨g, o, none⟩) xs.length c 0 0 xW;have hB0 := zQ w (.cells #[] 5);have Hx := zB (show Src w (.slice (some ⟨g, o, none⟩) xs.length c) xs from .inl ⟨g, o, c, rfl, hc, hr⟩);have H1 := zB h1;have hs : w.heap.size <= (w.alloc (.cells #[] 5)).heap.size := by simp
   clear hr h1;go_enter Tryz.func105, Tryz.ntmps105
   go_wp2_with (at_builtin; go_loud (refine xN rfl _ _ rfl w.heap.size 0 _ _ [] xs rfl (World.ownsRow_made w #[] 0 (Nat.le_refl _) (Nat.zero_le _) rfl) rfl (Hx.out.below hB0) H1.out (by omega) hs ?_; intro v2 w2 hown2 hg2; have Hg2 := zB hg2; have Hown2 := zB hown2; clear hown2 hg2))
   go_ret
   exact ⟨_, rfl, by simpa using Hown2.out, hB0.trans Hg2.out⟩
 . have he := λ w => Lib.run_eql_slice_nil (P := Tryz.prog) w 52 5 none 0 0 0 0 xW;go_enter Tryz.func105, Tryz.ntmps105
   go_wp2_with fail
   go_ret
   exact ⟨_, rfl, World.ownsRow_nil _ _ _ _, Below.refl _ _⟩
theorem kI (v y : Value) (xs ys : List Int) (w : World) (hx : Src w v (u8s xs)) (hy : Src w y (u8s ys)) (hl : xs.length <= 1099511627776) :
 Calls Tryz.prog 99 #[v, y] w λ e w' => e = .returned (.bool (decide (xs = ys))) /\ Below w.heap.size w w' := by
 obtain ⟨ax, cx, rfl, -⟩ := hx.shape;obtain ⟨ay, cy, rfl, -⟩ := hy.shape;obtain ⟨n, hn⟩ : ∃ n, xs.length = n := ⟨_, rfl⟩;obtain ⟨m, hm⟩ : ∃ m, ys.length = m := ⟨_, rfl⟩;rw [zH, hn] at hx ⊢;rw [zH, hm] at hy ⊢;rw [hn] at hl;have Hn := zB hn; clear hn;have Hm := zB hm; clear hm;have Hx := zB hx; clear hx;have Hy := zB hy; clear hy;by_cases hnm : n = m
 . subst hnm;go_enter Tryz.func99, Tryz.ntmps99
   go_wp2_with fail
   go_loopw [13] (λ vi wr => ∃ i : Nat, vi = .int .i64 i /\ i <= n /\ xs.take i = ys.take i /\ Below w.heap.size w wr) (λ vi _ => n - (intOf vi).toNat)
   case atStart => exact ⟨0, rfl, by omega, rfl, Below.refl _ _⟩
   case round =>
    obtain ⟨i, rfl, hi, ht, hB⟩ := hrel;have Ht := zB ht; clear ht;by_cases hlt : i < n
    . have hii : (i : Int) < (n : Int) := by omega
      have hlx : i < xs.length := by rw [Hn.out]; exact hlt
      have hly : i < ys.length := by rw [Hm.out]; exact hlt
      rcases Hx.out with ⟨g, o, c', e1, -, hr⟩ | ⟨e1, e2⟩
      . rcases Hy.out with ⟨g', o', c'', e1', -, hr'⟩ | ⟨e1', e2'⟩
        . injection e1 with e1 _ e3;injection e1' with e1' _ e3';subst e1 e3 e1' e3';have z0 := zG hB (hr i _ (pO (List.getElem?_eq_getElem hlx)));have z1 := zG hB (hr' i _ (pO (List.getElem?_eq_getElem hly)));obtain ⟨a, ha⟩ : ∃ a, xs[i] = a := ⟨_, rfl⟩;obtain ⟨b, hb⟩ : ∃ b, ys[i] = b := ⟨_, rfl⟩;rw [ha] at z0;rw [hb] at z1;have Ha := zB ha; have Hb := zB hb;clear ha hb hr hr'
          go_wp2_with fail
          refine zY (λ _ => none) fol (by kernel_rfl) (λ W hW hh => ?_);clear hh;have q0 : ∀ w1, Below W.heap.size W w1 -> w1.cell? ⟨g, o + i, none⟩ = some (.int .u8 a) := λ w1 h => zG (zF hW h) z0;have q1 : ∀ w1, Below W.heap.size W w1 -> w1.cell? ⟨g', o' + i, none⟩ = some (.int .u8 b) := λ w1 h => zG (zF hW h) z1
          repeat ((first | refine lxM ?_ | refine lxF ?_ | refine zM rfl ?_); simp only [zD])
          refine zZ ?_;clear q0 q1;have hBW := hB.trans (hW.mono hB.size);by_cases hab : a = b
          . have hab' : (a != b) = false := by simp [hab]
            have Hab := zB hab; clear hab
            go_wp2_with fail
            refine ⟨⟨i + 1, by simp, by omega, ?_, hBW⟩, ?_⟩
            . rw [List.take_add_one, List.take_add_one, Ht.out, List.getElem?_eq_getElem hlx, List.getElem?_eq_getElem hly, Ha.out, Hb.out, Hab.out]
            . show n - (((i : Int) + 1).toNat) < n - ((i : Int).toNat);omega
          . have hab' : (a != b) = true := by simp [hab]
            have hne : decide (xs = ys) = false := by
             rw [decide_eq_false_iff_not];rintro rfl;exact hab (Ha.out.symm.trans Hb.out)
            have Hne := zB hne; clear hne
            go_wp2_with fail
            go_ret
            rw [Hne.out];exact ⟨rfl, hBW⟩
        . have := congrArg List.length e2';rw [zH, List.length_nil] at this;omega
      . have := congrArg List.length e2;rw [zH, List.length_nil] at this;omega
    . obtain rfl : i = n := by omega
      have heq : decide (xs = ys) = true := by
       rw [decide_eq_true_iff];have := Ht.out
       rwa [List.take_of_length_le (by rw [Hn.out]; exact Nat.le_refl _), List.take_of_length_le (by rw [Hm.out]; exact Nat.le_refl _)] at this
      have Heq := zB heq; clear heq
      go_wp2_with fail
      go_ret
      rw [Heq.out];exact ⟨rfl, hB⟩
 . have hnm' : ((n : Int) != (m : Int)) = true := by simp; omega
   have hne : decide (xs = ys) = false := by
    rw [decide_eq_false_iff_not];rintro rfl;exact hnm (Hn.out.symm.trans Hm.out)
   have Hne := zB hne; clear hne;go_enter Tryz.func99, Tryz.ntmps99
   go_wp2_with fail
   go_ret
   rw [Hne.out];exact ⟨rfl, Below.refl _ _⟩
def vM (bs : List Int) : Option (List Int) := if 4 <= bs.length /\ tN (bs.take (bs.length - 4)) = bs.drop (bs.length - 4) then some (bs.take (bs.length - 4)) else none
theorem src_take {w : World} {g o c n m : Nat} {xs : List Value} (h : Src w (.slice (some ⟨g, o, none⟩) n c) xs) (hm : m <= xs.length) (c' : Nat) (hc' : m <= c') : Src w (.slice (some ⟨g, o, none⟩) m c') (xs.take m) := by
 rcases h with ⟨g', o', c1, e, -, hr⟩ | ⟨e, -⟩
 . injection e with e _ _;injection e with e;injection e with e1 e2;subst e1 e2;refine .inl ⟨g, o, c', by rw [List.length_take, Nat.min_eq_left hm], by rw [List.length_take, Nat.min_eq_left hm]; exact hc', λ j u hu => hr j u ?_⟩;rw [List.getElem?_take] at hu
   split at hu
   . exact hu
   . cases hu
 . injection e with e
   cases e
theorem iK {w : World} {g o c n m : Nat} {xs : List Value} (h : Src w (.slice (some ⟨g, o, none⟩) n c) xs) (hm : m <= xs.length) (c' : Nat) (hc' : xs.length - m <= c') : Src w (.slice (some ⟨g, o + m, none⟩) (xs.length - m) c') (xs.drop m) := by
 rcases h with ⟨g', o', c1, e, -, hr⟩ | ⟨e, -⟩
 . injection e with e _ _;injection e with e;injection e with e1 e2;subst e1 e2;refine .inl ⟨g, o + m, c', by rw [List.length_drop], by rw [List.length_drop]; exact hc', λ j u hu => ?_⟩;rw [List.getElem?_drop] at hu;rw [Nat.add_assoc];exact hr _ u hu
 . injection e with e
   cases e
theorem qF (bs : List Int) (n : Nat) : u8s (bs.take n) = (u8s bs).take n := by simp [u8s, List.map_take]
theorem tL (bs : List Int) (n : Nat) : u8s (bs.drop n) = (u8s bs).drop n := by simp [u8s, List.map_drop]
def UnsealPost (r : Option (List Int)) (B : Nat) (e : Ending) (w' : World) : Prop := match r with
 | some ts => ∃ u, e = .returned (.tuple #[u, .int .i64 0]) /\ w'.ownsRow B 5 1 u ts.length (u8s ts)
 | none => ∃ k, k ≠ 0 /\ e = .returned (.tuple #[.slice none 0 0, .int .i64 k])
theorem unseal_any (v : Value) (bs : List Int) (w : World) (hx : Src w v (u8s bs)) (hT : Tab w) (hl : bs.length <= 274877906944) (hb : ∀ b ∈ bs, 0 <= b /\ b < 256) :
 Calls Tryz.prog 156 #[v] w λ e w' => UnsealPost (vM bs) w.heap.size e w' /\ Below w.heap.size w w' := by
 obtain ⟨n, hn⟩ : ∃ n, bs.length = n := ⟨_, rfl⟩;by_cases h4 : 4 <= n
 . obtain ⟨k, rfl⟩ : ∃ k, n = k + 4 := ⟨n - 4, by omega⟩;rcases hx with ⟨g, o, c, rfl, hc, hr⟩ | ⟨-, e2⟩
   . rw [zH, hn];have Hx := zB (show Src w (.slice (some ⟨g, o, none⟩) (k + 4) c) (u8s bs) from .inl ⟨g, o, c, by rw [zH, hn], hc, hr⟩);rw [zH, hn] at hc;have ek : (((k + 4 : Nat) : Int) - 4) = (k : Int) := by omega
     have hlb : k + 4 <= 274877906944 := by omega
     have Hn := zB hn; clear hn;clear hr;go_enter Tryz.func156, Tryz.ntmps156;obtain ⟨ts, hts⟩ : ∃ ts, bs.take k = ts := ⟨_, rfl⟩;have hb1 : ∀ b ∈ ts, 0 <= b /\ b < 256 := λ b h => hb b (List.mem_of_mem_take (by rw [hts]; exact h));have hlt : ts.length = k := by rw [<- hts, List.length_take, Hn.out]; omega
     have hun : vM bs = if tN ts = bs.drop k then some ts else none := by
      unfold vM;rw [Hn.out, show k + 4 - 4 = k by omega, hts];simp [show 4 <= k + 4 by omega]
     have Hun := zB hun; clear hun;have HS := zB (λ w1 (h : Below w.heap.size w w1) => seal_any (.slice (some ⟨g, o, none⟩) k c) ts w1 (by
      have := (src_take Hx.out (by rw [zH, Hn.out]; omega) c (show k <= c by omega)).below h
      rwa [<- qF, hts] at this) (hT.below h) (by omega) hb1)
     have Hlt := zB hlt;have Hts := zB hts;clear hb hb1 hlt hts
     go_wp2_with fail
     refine zR 9 (λ i => if i = 3 then some (λ v w' => ∃ (g' : Nat) (c' : Nat), v = .slice (some ⟨g', 0, none⟩) (k + 4) c' /\ k + 4 <= c' /\ Src w' v (u8s (ts ++ tN ts))) else none) fol (by kernel_rfl) (λ W3 hW3 hh => ?_);clear hh;simp only [fT]
     repeat ((first | refine lxM ?_ | refine lxF ?_ | refine zM rfl ?_); simp only [zD])
     refine zW _ rfl (by exact λ _ _ _ ⟨g', c', h1, h2, h3⟩ hb => ⟨g', c', h1, h2, h3.below hb⟩) rfl (λ w1 hb1 hf1 => ?_) ?_
     . have hb1' := hb1
       (unfold yE; go_simp; simp only [zN])
       refine (HS.out w1 (zF hW3 hb1')).mono ?_;rintro e w' ⟨u, rfl, hown, hbb⟩;rw [Hlt.out] at hown;obtain ⟨g', c', rfl, -, -, hc1, -⟩ := xB hown (by omega);exact ⟨_, rfl, hbb, g', c', rfl, hc1, Src.of_owns hown⟩
     rintro v9 W4 hB9 ⟨g', c', rfl, hc1, hsrc⟩;simp only [zD]
     repeat ((first | refine lxM ?_ | refine lxF ?_ | refine zM rfl ?_); simp only [zD])
     refine zZ ?_;have hW4 := zF hW3 hB9;have hs1 : Src W4 (.slice (some ⟨g', k, none⟩) 4 (c' - k)) (u8s (tN ts)) := by
      have h1 := iK hsrc (m := k) (by rw [zH, List.length_append, Hlt.out]; omega) (c' - k) (by rw [zH, List.length_append, Hlt.out]; simp [tN]; omega);rw [<- tL, List.drop_left' Hlt.out, zH, List.length_append, Hlt.out, Nat.zero_add, Nat.add_sub_cancel_left] at h1;exact h1
     have hs2 : Src W4 (.slice (some ⟨g, o + k, none⟩) 4 (c - k)) (u8s (bs.drop k)) := by
      have h1 := iK (Hx.out.below hW4) (m := k) (by rw [zH, Hn.out]; omega) (c - k) (by rw [zH, Hn.out]; omega);rw [<- tL, zH, Hn.out, Nat.add_sub_cancel_left] at h1;exact h1
     have HE := zB (kI _ _ (tN ts) (bs.drop k) W4 hs1 hs2 (by simp [tN]));clear hs1 hs2 hsrc
     go_wp2_with fail
     refine HE.out.mono ?_;rintro e W5 ⟨rfl, hB5⟩;have hW5 := hW4.trans (hB5.mono hW4.size);by_cases heq : tN ts = bs.drop k
     . rw [decide_eq_true heq];rw [if_pos heq] at Hun;have Hun := zB Hun.out;have HC := zB (clone_any (.slice (some ⟨g, o, none⟩) k c) (u8s ts) W5 (by
        have := (src_take Hx.out (by rw [zH, Hn.out]; omega) c (show k <= c by omega)).below hW5
        rwa [<- qF, Hts.out] at this) (yU _) (by rw [zH, Hlt.out]; omega))
       clear heq
       go_wp2_with fail
       refine HC.out.mono ?_;rintro e W6 ⟨u, rfl, hown, hB6⟩;have Hown := zB hown; clear hown
       go_wp2_with fail
       go_ret2
       rw [Hun.out];have hown := Hown.out;rw [zH] at hown;exact ⟨⟨u, rfl, yC hown (λ i hi => Nat.le_trans hW5.size (hown.lt i hi).1)⟩, hW5.trans (hB6.mono hW5.size)⟩
     . rw [decide_eq_false heq];rw [if_neg heq] at Hun;have Hun := zB Hun.out;clear heq
       go_wp2_with fail
       go_ret2
       rw [Hun.out];exact ⟨⟨13, by decide, rfl⟩, hW5⟩
   . have := congrArg List.length e2;rw [zH, List.length_nil] at this;omega
 . obtain ⟨ax, cx, rfl, -⟩ := hx.shape;rw [zH, hn];have hun : vM bs = none := by
    unfold vM;rw [if_neg (by rw [hn]; omega)]
   have Hun := zB hun; clear hun;have h4' : ((n : Int) - 4) < 0 := by omega
   have hnl : n <= 274877906944 := by omega
   clear hx hn;go_enter Tryz.func156, Tryz.ntmps156
   go_wp2_with fail
   go_ret2
   rw [Hun.out];exact ⟨⟨10, by decide, rfl⟩, Below.refl _ _⟩
theorem rM (n : Nat) : ∃ m, (sdnv n).length = m + 1 /\ n < 128 ^ (m + 1) /\ (m = 0 \/ 128 ^ m <= n) /\ (sdnv n)[m]? = some ((n : Int) % 128) /\ ∀ i, i < m -> (sdnv n)[i]? = some (((n / 128 ^ (m - i) : Nat) : Int) % 128 + 128) := by
 induction n using Nat.strongRecOn with
 | _ n ih =>
  rcases Nat.lt_or_ge n 128 with h | h
  . have e : sdnv n = [(n : Int) % 128] := by
     unfold sdnv;rw [show n / 128 = 0 by omega, tT];rfl
    exact ⟨0, by rw [e]; rfl, by simpa using h, .inl rfl, by rw [e]; rfl, λ i hi => absurd hi (Nat.not_lt_zero _)⟩
  . obtain ⟨m, h1, h2, h3, h4, h5⟩ := ih (n / 128) (by omega);have e : ∃ d, sdnv (n / 128) = d ++ [((n / 128 : Nat) : Int) % 128] /\ sdnv n = d ++ [((n / 128 : Nat) : Int) % 128 + 128] ++ [(n : Int) % 128] := by
     refine ⟨sP (n / 128 / 128), rfl, ?_⟩
     conv => lhs; unfold sdnv
     rw [nC (by omega)]
    obtain ⟨d, e1, e2⟩ := e;have hd : d.length = m := by rw [e1] at h1; simpa using h1
    refine ⟨m + 1, by rw [e2]; simp [hd], ?_, .inr ?_, ?_, λ i hi => ?_⟩
    . rw [Nat.pow_succ];omega
    . rcases h3 with rfl | h3
      . simpa using h
      . rw [Nat.pow_succ];omega
    . rw [e2, List.getElem?_append_right (by simp [hd])];simp [hd]
    . rw [e2, List.getElem?_append_left (by simp [hd]; omega)];rcases Nat.lt_or_ge i m with him | him
      . rw [List.getElem?_append_left (by omega)];have := h5 i him;rw [e1, List.getElem?_append_left (by omega)] at this;rw [this, Nat.div_div_eq_div_mul, show m + 1 - i = (m - i) + 1 by omega, Nat.pow_succ, Nat.mul_comm]
      . obtain rfl : i = m := by omega
        rw [List.getElem?_append_right (by omega), hd];simp [show i + 1 - i = 1 by omega]
theorem and127b (x : Int) (h : 0 <= x /\ x < 256) : bits .and .u8 x 127 = x % 128 :=
 bits_mask .u8 8 (by decide) wraps_u8 7 (by decide) x (by omega) (by omega)
theorem or7 (a : Nat) (x : Int) (h : 0 <= x /\ x < 128) (ha : a < 144115188075855872) : bits .or .u64 ((a : Int) * 128) x = (a : Int) * 128 + x :=
 bits_join .u64 64 (by decide) wraps_u64 7 ((a : Int) * 128) x (by omega) (by omega) (by omega) (by omega) (by omega) (by omega)
def accN (n m i : Nat) : Nat := if i = 0 then 0 else n / 128 ^ (m + 1 - i)
theorem number_any (v : Value) (n : Nat) (hn : n < 18446744073709551616) (bs : List Int) (hp : sdnv n <+: bs) (w : World) (hv : Src w v (u8s bs)) (hl : bs.length <= 1099511627776) :
 Calls Tryz.prog 141 #[v] w λ e w' => e = .returned (.tuple #[.int .u64 n, .int .i64 (sdnv n).length, .int .i64 0]) /\ Below w.heap.size w w' := by
 obtain ⟨m, hm1, hm2, hm3, hm4, hm5⟩ := rM n;have hm9 : m <= 9 := by have := xU n hn; omega
 have hlen := hp.length_le;rw [hm1] at hlen;have hget : ∀ i, i <= m -> bs[i]? = (sdnv n)[i]? := λ i hi => by
  obtain ⟨r, rfl⟩ := hp;rw [List.getElem?_append_left (by omega)]
 obtain ⟨k, hk⟩ : ∃ k, bs.length = k := ⟨_, rfl⟩;obtain ⟨g, o, c, rfl, hc, hr⟩ : ∃ g o c, v = .slice (some ⟨g, o, none⟩) k c /\ k <= c /\ ∀ j u, (u8s bs)[j]? = some u -> w.cell? ⟨g, o + j, none⟩ = some u := by
  rcases hv with ⟨g, o, c, rfl, hc, hr⟩ | ⟨-, h2⟩
  . rw [zH, hk] at hc ⊢;exact ⟨g, o, c, rfl, hc, hr⟩
  . have := congrArg List.length h2;rw [zH] at this;simp at this;subst this;simp at hlen
 rw [hk] at hlen hl;have hcell : ∀ i, i < m -> w.cell? ⟨g, o + i, none⟩ = some (.int .u8 (((n / 128 ^ (m - i) : Nat) : Int) % 128 + 128)) := λ i hi => hr i _ (pO (by rw [hget i (by omega)]; exact hm5 i hi));have hlast : w.cell? ⟨g, o + m, none⟩ = some (.int .u8 ((n : Int) % 128)) := hr m _ (pO (by rw [hget m (Nat.le_refl _)]; exact hm4));have HC := zB (zC hcell hlast);have Hp := zB (zC hm1 (zC hm2 hm3));clear hr hcell hlast hget hm1 hm2 hm3 hm4 hm5 hp hk;go_enter Tryz.func141, Tryz.ntmps141
 go_wp2_with fail
 go_step3
 go_wp2_with fail
 go_loopw [5, 10] (λ va vi wr => ∃ i : Nat, vi = .int .i64 i /\ i <= m /\ va = .int .u64 (accN n m i) /\ Below w.heap.size w wr) (λ _ vi _ => 20 - (intOf vi).toNat)
 case atStart => exact ⟨0, rfl, Nat.zero_le _, rfl, Below.refl _ _⟩
 case round =>
  obtain ⟨i, rfl, hi, rfl, hB⟩ := hrel;have hik : (i : Int) < (k : Int) := by omega
  have hi10 : ((i : Int) == 10) = false := by rw [beq_eq_false_iff_ne]; omega
  have hac : accN n m i < 144115188075855872 := by
   unfold accN
   split
   . decide
   . refine Nat.lt_of_le_of_lt (Nat.div_le_div_left (c := 128) ?_ (by decide)) (by omega);rw [show m + 1 - i = (m - i) + 1 by omega, Nat.pow_succ];have : 0 < 128 ^ (m - i) := Nat.pow_pos (by decide);omega
  obtain ⟨a, ha⟩ : ∃ a, accN n m i = a := ⟨_, rfl⟩;rw [ha] at hac ⊢;have hsh : (a : Int) / 144115188075855872 = 0 := by omega
  rcases Nat.lt_or_ge i m with him | him
  . have hcell := zG hB (HC.out.1 i him);obtain ⟨q, hq⟩ : ∃ q, n / 128 ^ (m - i) = q := ⟨_, rfl⟩;rw [hq] at hcell;obtain ⟨x, hx⟩ : ∃ x : Int, (q : Int) % 128 + 128 = x := ⟨_, rfl⟩;rw [hx] at hcell;have hx0 : 128 <= x /\ x < 256 := by omega
    have hA := and127b x (by omega);have hxm : x % 128 = (q : Int) % 128 := by omega
    rw [hxm] at hA;have hO := or7 a ((q : Int) % 128) (by omega) hac;have hx1 : ¬ x < 128 := by omega
    clear hx hxm;have hnext : accN n m (i + 1) = q := by
     unfold accN;rw [if_neg (by omega), show m + 1 - (i + 1) = m - i by omega, hq]
    have haq : (a : Int) * 128 + (q : Int) % 128 = (q : Int) := by
     have e1 : a = if i = 0 then 0 else n / 128 ^ (m + 1 - i) := ha.symm;by_cases hi0 : i = 0
     . rw [if_pos hi0] at e1;subst hi0;have h2 := Hp.out.2.1;rw [Nat.pow_succ] at h2;have h3 : n / 128 ^ m < 128 := Nat.div_lt_of_lt_mul (by rw [Nat.mul_comm]; rw [Nat.mul_comm] at h2; omega);rw [Nat.sub_zero] at hq;omega
     . rw [if_neg hi0, show m + 1 - i = (m - i) + 1 by omega, Nat.pow_succ, <- Nat.div_div_eq_div_mul, hq] at e1;omega
    have HN := zB (zC hnext haq);clear hq hnext haq ha;by_cases hi0 : (0 : Int) < (i : Int)
    . go_wp2_with fail
      refine ⟨⟨i + 1, by simp, by omega, by rw [HN.out.1, HN.out.2], hB⟩, ?_⟩;show 20 - ((i : Int) + 1).toNat < 20 - (i : Int).toNat;omega
    . go_wp2_with fail
      refine ⟨⟨i + 1, by simp, by omega, by rw [HN.out.1, HN.out.2], hB⟩, ?_⟩;show 20 - ((i : Int) + 1).toNat < 20 - (i : Int).toNat;omega
  . obtain rfl : i = m := by omega
    have hcell := zG hB HC.out.2;obtain ⟨x, hx⟩ : ∃ x : Int, (n : Int) % 128 = x := ⟨_, rfl⟩;rw [hx] at hcell;have hx0 : 0 <= x /\ x < 128 := by omega
    have hA := and127b x (by omega);have hxm : x % 128 = x := by omega
    rw [hxm] at hA;have hO := or7 a x hx0 hac;have hx1 : x < 128 := hx0.2;have haq : (a : Int) * 128 + x = (n : Int) := by
     have e1 : a = if i = 0 then 0 else n / 128 ^ (i + 1 - i) := ha.symm;rcases Nat.eq_zero_or_pos i with hi0 | hi0
     . subst hi0;rw [if_pos rfl] at e1;have h2 := Hp.out.2.1;simp at h2;omega
     . rw [if_neg (by omega), show i + 1 - i = 1 by omega, Nat.pow_one] at e1;omega
    obtain ⟨y, hy, hyc⟩ : ∃ y : Int, (y == 128) = false /\ wr.cell? ⟨g, o, none⟩ = some (.int .u8 y) := by
     rcases Nat.eq_zero_or_pos i with hi0 | hi0
     . subst hi0;exact ⟨x, by rw [beq_eq_false_iff_ne]; omega, hcell⟩
     . have h3 := zG hB (HC.out.1 0 hi0);rw [Nat.sub_zero] at h3;have h4 : 128 ^ i <= n := Hp.out.2.2.resolve_left (by omega);have h5 := Hp.out.2.1;have h6 : 0 < 128 ^ i := Nat.pow_pos (by decide);have h7 : 1 <= n / 128 ^ i := (Nat.le_div_iff_mul_le h6).2 (by omega);have h8 : n / 128 ^ i < 128 := Nat.div_lt_of_lt_mul (by rw [Nat.pow_succ] at h5; exact h5);exact ⟨_, by rw [beq_eq_false_iff_ne]; omega, h3⟩
    have HN := zB haq;have hxw := IntWalk.u64_in x (by omega);clear hx hxm haq ha hx0;by_cases hi0 : (0 : Int) < (i : Int)
    . go_wp2_with fail
      refine ⟨rfl, .tuple #[.int .u64 ((a : Int) * 128 + x), .int .i64 ((i : Int) + 1), .int .i64 0], by simp [results, Tryz.f141, go_sem], ?_, hB⟩;rw [HN.out, Hp.out.1];rfl
    . go_wp2_with fail
      refine ⟨rfl, .tuple #[.int .u64 ((a : Int) * 128 + x), .int .i64 ((i : Int) + 1), .int .i64 0], by simp [results, Tryz.f141, go_sem], ?_, hB⟩;rw [HN.out, Hp.out.1];rfl
def asIs (v : Value) : Option (DataW Value × List MemPlace) := some (.held v, [])
structure tE (w : World) (bm : Nat) (ks : List Int) (V : Int -> Value) : Prop where
 some' : ∃ D, w.ownsMap Tryz.prog 3 asIs bm ks.length D /\ Maps.size D = ks.length /\ ks.Nodup /\ (∀ i : Int, (Lit.int .i64 i).wf = true -> D.atKey (.int .i64 i) (.held (.slice none 0 0)) = .held (V i) /\ Maps.has D (.int .i64 i) = decide (i ∈ ks)) /\ ∀ i, i ∉ ks -> V i = .slice none 0 0
theorem tE.keep {w w' : World} {bm : Nat} {ks : List Int} {V : Int -> Value} (h : tE w bm ks V) (hb : w'.heap[bm]? = w.heap[bm]?) : tE w' bm ks V := by
 obtain ⟨D, ⟨es, clock, h1, h2⟩, h3⟩ := h.some';exact ⟨D, ⟨es, clock, hb.trans h1, h2⟩, h3⟩
theorem tE.lt {w : World} {bm : Nat} {ks : List Int} {V : Int -> Value} (h : tE w bm ks V) : bm < w.heap.size := by
 obtain ⟨D, h1, -⟩ := h.some';exact h1.lt
structure Dsk where
 dur : List (List Int)
 torn : List Bool
 ks : List Int
 cache : Int -> List (List Int)
 off : Bool
 fuse : Int
def flat (l : List (List Int)) : List Value := u8s l.flatten
structure Bks where
 d : Nat
 g : Nat
 t : Nat
 m : Nat
 V : Int -> Value
def vK (w : World) (b : Bks) (x : Dsk) : Prop := w.heap[b.d]? = some (.cells #[.slice (some ⟨b.g, 0, none⟩) x.dur.length x.dur.length, .slice (some ⟨b.t, 0, none⟩) x.dur.length x.dur.length, .map (some b.m), .bool x.off, .int .i64 x.fuse] 84 (0, 0))
structure wQ (w : World) (b : Bks) (x : Dsk) : Prop where
 head : vK w b x
 durs : Row w b.g 124 (flat x.dur)
 torns : Row w b.t 4 (x.torn.map Value.bool)
 map : tE w b.m x.ks b.V
 rows : ∀ i, i ∈ x.ks -> 0 < (x.cache i).length /\ w.ownsRow 0 124 128 (b.V i) (x.cache i).length (flat (x.cache i))
 none' : ∀ i, i ∉ x.ks -> x.cache i = []
 len : x.torn.length = x.dur.length
 pos : 0 < x.dur.length
 lim : x.dur.length <= 65536
 in' : ∀ i ∈ x.ks, 0 <= i /\ i < (x.dur.length : Int)
 s128 : ∀ s ∈ x.dur, s.length = 128
 c128 : ∀ i, ∀ s ∈ x.cache i, s.length = 128
 ne1 : b.d ≠ b.g /\ b.d ≠ b.t /\ b.d ≠ b.m /\ b.g ≠ b.t /\ b.g ≠ b.m /\ b.t ≠ b.m
 ne2 : ∀ i k, (b.V i).ownBlock = some k -> k ≠ b.d /\ k ≠ b.g /\ k ≠ b.t /\ k ≠ b.m
 ne3 : ∀ i j k, i ≠ j -> (b.V i).ownBlock = some k -> (b.V j).ownBlock ≠ some k
def Bks.all (b : Bks) (k : Nat) : Prop := k = b.d \/ k = b.g \/ k = b.t \/ k = b.m \/ ∃ i, (b.V i).ownBlock = some k
theorem vK.cells {w : World} {b : Bks} {x : Dsk} (h : vK w b x) : w.cell? ⟨b.d, 0, none⟩ = some (.slice (some ⟨b.g, 0, none⟩) x.dur.length x.dur.length) /\ w.cell? ⟨b.d, 1, none⟩ = some (.slice (some ⟨b.t, 0, none⟩) x.dur.length x.dur.length) /\ w.cell? ⟨b.d, 2, none⟩ = some (.map (some b.m)) /\
 w.cell? ⟨b.d, 3, none⟩ = some (.bool x.off) /\ w.cell? ⟨b.d, 4, none⟩ = some (.int .i64 x.fuse) /\ ∀ j, w.frozen? ⟨b.d, j, none⟩ = false := by
 unfold vK at h;simp [World.cell?, World.frozen?, h]
theorem wQ.keep {w w' : World} {b : Bks} {x : Dsk} (h : wQ w b x) (hk : ∀ k, b.all k -> w'.heap[k]? = w.heap[k]?) : wQ w' b x where
 head := by unfold vK; rw [hk _ (.inl rfl)]; exact h.head
 durs := by unfold Row; rw [hk _ (.inr (.inl rfl))]; exact h.durs
 torns := by unfold Row; rw [hk _ (.inr (.inr (.inl rfl)))]; exact h.torns
 map := h.map.keep (hk _ (.inr (.inr (.inr (.inl rfl)))))
 rows := λ i hi => ⟨(h.rows i hi).1, yJ (h.rows i hi).2 λ k e => hk k (.inr (.inr (.inr (.inr ⟨i, e⟩))))⟩
 none' := h.none'
 len := h.len
 pos := h.pos
 lim := h.lim
 in' := h.in'
 s128 := h.s128
 c128 := h.c128
 ne1 := h.ne1
 ne2 := h.ne2
 ne3 := h.ne3
theorem wQ.lt {w : World} {b : Bks} {x : Dsk} (h : wQ w b x) : ∀ k, b.all k -> k < w.heap.size := by
 rintro k (rfl | rfl | rfl | rfl | ⟨i, e⟩)
 . exact zI h.head
 . exact h.durs.lt
 . exact h.torns.lt
 . exact h.map.lt
 . by_cases hi : i ∈ x.ks
   . exact xD (h.rows i hi).2 e
   . obtain ⟨D, -, -, -, -, h0⟩ := h.map.some';rw [h0 i hi] at e
     cases e
theorem wQ.below {w w' : World} {b : Bks} {x : Dsk} (h : wQ w b x) (hb : Below w.heap.size w w') : wQ w' b x := h.keep λ k hk => hb.block k (h.lt k hk)
theorem oO : Tryz.prog.underlying 82 = some (.map 3 80) := by kernel_rfl
theorem iS (b : Bks) (x : Dsk) (w : World) (h : vK w b x) : Calls Tryz.prog 72 #[.pointer (some ⟨b.d, 0, none⟩)] w λ e w' => e = .returned (.bool true) /\ w = w' := by
 obtain ⟨-, -, c2, -⟩ := h.cells;have hn := λ w => run_neq_map_nil (P := Tryz.prog) w 82 _ _ (some b.m) oO;go_enter Tryz.func72, Tryz.ntmps72
 go_wp2_with fail
 go_ret
 exact ⟨rfl, rfl⟩
theorem made_nil (w : World) : Calls Tryz.prog 72 #[.pointer none] w λ e w' => e = .returned (.bool false) /\ w = w' := by
 go_enter Tryz.func72, Tryz.ntmps72
 go_wp2_with fail
 go_ret
 exact ⟨rfl, rfl⟩
theorem gB (b : Bks) (x : Dsk) (w : World) (h : vK w b x) : Calls Tryz.prog 75 #[.pointer (some ⟨b.d, 0, none⟩)] w λ e w' => e = .returned (.int .i64 x.dur.length) /\ w = w' := by
 obtain ⟨c0, -⟩ := h.cells;go_enter Tryz.func75, Tryz.ntmps75
 go_wp2_with fail
 refine (iS b x w h).mono ?_;rintro e w' ⟨rfl, rfl⟩
 go_wp2_with fail
 go_ret
 exact ⟨rfl, rfl⟩
theorem sectors_nil (w : World) : Calls Tryz.prog 75 #[.pointer none] w λ e w' => e = .returned (.int .i64 0) /\ w = w' := by
 go_enter Tryz.func75, Tryz.ntmps75
 go_wp2_with fail
 refine (made_nil w).mono ?_;rintro e w' ⟨rfl, rfl⟩
 go_wp2_with fail
 go_ret
 exact ⟨rfl, rfl⟩
def pA (x : Dsk) (i : Int) : Bool := decide (0 <= i) && decide (i < (x.dur.length : Int))
theorem has_any (b : Bks) (x : Dsk) (i : Int) (w : World) (h : vK w b x) : Calls Tryz.prog 113 #[.pointer (some ⟨b.d, 0, none⟩), .int .i64 i] w λ e w' => e = .returned (.bool (pA x i)) /\ w = w' := by
 obtain ⟨c0, -⟩ := h.cells;go_enter Tryz.func113, Tryz.ntmps113
 go_wp2_with fail
 refine (iS b x w h).mono ?_;rintro e w' ⟨rfl, rfl⟩;by_cases h0 : 0 <= i
 . by_cases h1 : i < (x.dur.length : Int)
   . have hr : pA x i = true := by simp [pA, h0, h1]
     have Hr := zB hr; clear hr
     go_wp2_with fail
     go_ret
     exact ⟨by rw [Hr.out]; simp [h0, h1], rfl⟩
   . have hr : pA x i = false := by simp [pA, h1]
     have Hr := zB hr; clear hr
     go_wp2_with fail
     go_ret
     exact ⟨by rw [Hr.out]; simp [h0, h1], rfl⟩
 . have hr : pA x i = false := by simp [pA, h0]
   have Hr := zB hr; clear hr
   go_wp2_with fail
   go_ret
   exact ⟨by rw [Hr.out]; simp [h0], rfl⟩
theorem kK (b : Bks) (x : Dsk) (w : World) (h : vK w b x) : Calls Tryz.prog 41 #[.pointer (some ⟨b.d, 0, none⟩)] w λ e w' => e = .returned (.bool x.off) /\ w = w' := by
 obtain ⟨-, -, -, c3, -⟩ := h.cells;go_enter Tryz.func41, Tryz.ntmps41
 go_wp2_with fail
 refine (iS b x w h).mono ?_;rintro e w' ⟨rfl, rfl⟩
 go_wp2_with fail
 go_ret
 exact ⟨rfl, rfl⟩
def vC (x : Dsk) : Bool := !x.off && decide (x.fuse ≠ 0)
def vJ (x : Dsk) : Dsk := if x.off then x else if x.fuse = 0 then { x with off := true, fuse := -1 } else if 0 < x.fuse then { x with fuse := x.fuse - 1 } else x
theorem wQ.headed {w w' : World} {b : Bks} {x : Dsk} (h : wQ w b x) (hX : Ext (· = b.d) w w') (off : Bool) (fuse : Int) (hh : vK w' b { x with off := off, fuse := fuse }) : wQ w' b { x with off := off, fuse := fuse } := by
 have hk : ∀ k, b.all k -> k ≠ b.d -> w'.heap[k]? = w.heap[k]? := λ k hk hn => hX.block k (h.lt k hk) hn;exact { head := hh, durs := by unfold Row; rw [hk _ (.inr (.inl rfl)) (Ne.symm h.ne1.1)]; exact h.durs, torns := by unfold Row; rw [hk _ (.inr (.inr (.inl rfl))) (Ne.symm h.ne1.2.1)]; exact h.torns, map := h.map.keep (hk _ (.inr (.inr (.inr (.inl rfl)))) (Ne.symm h.ne1.2.2.1)), rows := λ i hi => ⟨(h.rows i hi).1, yJ (h.rows i hi).2 λ k e => hk k (.inr (.inr (.inr (.inr ⟨i, e⟩)))) (h.ne2 i k e).1⟩, none' := h.none', len := h.len, pos := h.pos, lim := h.lim, in' := h.in', s128 := h.s128, c128 := h.c128, ne1 := h.ne1, ne2 := h.ne2, ne3 := h.ne3 }
theorem uB {W : World} {b i : Nat} {cs : Array Value} {T : TypeId} (u : Value) (h : W.heap[b]? = some (.cells cs T (0, 0))) : (W.setCell ⟨b, i, none⟩ u).heap[b]? = some (.cells (cs.setIfInBounds i u) T (0, 0)) := by
 rw [setCell_eq_setRow W b i cs T (0, 0) u h]; exact setRow_heap W b _ _ T (0, 0) h
theorem vK.off {w : World} {b : Bks} {x : Dsk} (h : vK w b x) (o : Bool) : vK (w.setCell ⟨b.d, 3, none⟩ (.bool o)) b { x with off := o } := by
 have := uB (i := 3) (.bool o) h;simpa [vK] using this
theorem vK.fuse {w : World} {b : Bks} {x : Dsk} (h : vK w b x) (f : Int) : vK (w.setCell ⟨b.d, 4, none⟩ (.int .i64 f)) b { x with fuse := f } := by
 have := uB (i := 4) (.int .i64 f) h;simpa [vK] using this
theorem goes_any (b : Bks) (x : Dsk) (w : World) (h : vK w b x) (hf : x.fuse <= 9223372036854775807 /\ -1 <= x.fuse) : Calls Tryz.prog 114 #[.pointer (some ⟨b.d, 0, none⟩)] w λ e w' => e = .returned (.bool (vC x)) /\ vK w' b (vJ x) /\ Ext (· = b.d) w w' := by
 obtain ⟨-, -, -, c3, c4, f0⟩ := h.cells;have H := zB h; clear h;obtain ⟨fz, hfz⟩ : ∃ fz, x.fuse = fz := ⟨_, rfl⟩;rw [hfz] at c4 hf
 cases ho : x.off
 . rw [ho] at c3;by_cases h0 : fz = 0
   . have e1 : vC x = false := by simp [vC, hfz, h0]
     have e2 : vJ x = { x with off := true, fuse := -1 } := by simp [vJ, ho, hfz, h0]
     have HE := zB (zC e1 e2);clear e1 e2 ho hfz;subst h0;go_enter Tryz.func114, Tryz.ntmps114
     go_wp2_with fail
     go_ret
     rw [HE.out.1, HE.out.2];exact ⟨rfl, (H.out.off true).fuse (-1), (Ext.setCell (S := (· = b.d)) (p := ⟨b.d, 3, none⟩) rfl _).trans (Ext.setCell (S := (· = b.d)) (p := ⟨b.d, 4, none⟩) rfl _) λ _ _ h => h⟩
   . by_cases h1 : 0 < fz
     . have e1 : vC x = true := by simp [vC, ho, hfz, h0]
       have e2 : vJ x = { x with fuse := fz - 1 } := by simp [vJ, ho, hfz, h0, h1]
       have HE := zB (zC e1 e2);have h0' : (fz == 0) = false := by rw [beq_eq_false_iff_ne]; exact h0
       clear e1 e2 ho hfz;go_enter Tryz.func114, Tryz.ntmps114
       go_wp2_with fail
       go_ret
       rw [HE.out.1, HE.out.2];exact ⟨rfl, H.out.fuse _, Ext.setCell (S := (· = b.d)) (p := ⟨b.d, 4, none⟩) rfl _⟩
     . have e1 : vC x = true := by simp [vC, ho, hfz, h0]
       have e2 : vJ x = x := by simp [vJ, ho, hfz, h0, h1]
       have HE := zB (zC e1 e2);have h0' : (fz == 0) = false := by rw [beq_eq_false_iff_ne]; exact h0
       clear e1 e2 ho hfz;go_enter Tryz.func114, Tryz.ntmps114
       go_wp2_with fail
       go_ret
       rw [HE.out.1, HE.out.2];exact ⟨rfl, H.out, Ext.refl _ _⟩
 . rw [ho] at c3;have e1 : vC x = false := by simp [vC, ho]
   have e2 : vJ x = x := by simp [vJ, ho]
   have HE := zB (zC e1 e2);clear e1 e2 ho hfz;go_enter Tryz.func114, Tryz.ntmps114
   go_wp2_with fail
   go_ret
   rw [HE.out.1, HE.out.2];exact ⟨rfl, H.out, Ext.refl _ _⟩
def vO (n : Nat) : Dsk := { dur := List.replicate n (List.replicate 128 0), torn := List.replicate n false, ks := [], cache := λ _ => [], off := false, fuse := -1 }
theorem sA : Tryz.prog.underlying 80 = some (.slice 124) := by kernel_rfl
theorem und_bools : Tryz.prog.underlying 81 = some (.slice 4) := by kernel_rfl
theorem mX : (Tryz.prog.info? 124).map (λ i => (i.zero.map Value.cells, i.size, i.bytes)) = some (some ((List.replicate 128 (Value.int .u8 0)).toArray), 128, 128) := by kernel_rfl
theorem info_bool : (Tryz.prog.info? 4).map (λ i => (i.zero, i.size, i.bytes)) = some (some (.bool false), 1, 1) := by kernel_rfl
theorem flat_rep (n m : Nat) : flat (List.replicate n (List.replicate m 0)) = List.replicate (n * m) (Value.int .u8 0) := by
 simp [flat, u8s, List.flatten_replicate_replicate, List.map_replicate]
theorem made_rep (n m : Nat) (hm : 0 < m) (a : Value) : madeCells (List.replicate m a).toArray (n * m) = (List.replicate (n * m) a).toArray := by
 apply Array.ext
 . simp [size_madeCells]
 . intro i h1 h2;have h3 : i % m < m := Nat.mod_lt _ hm;simp [madeCells, h3]
theorem flat_zero (n : Nat) : flat (vO n).dur = List.replicate (n * 128) (Value.int .u8 0) := flat_rep n 128
theorem made_zero (n : Nat) (z : Array Value) (hz : z = (List.replicate 128 (Value.int .u8 0)).toArray) : madeCells z (n * 128) = (flat (vO n).dur).toArray := by
 rw [flat_zero, hz];exact made_rep n 128 (by decide) _
theorem make_sectors (n : Nat) (hn : n <= 65536) (w : World) : Sem.run Tryz.prog (Instr.makeSlice 80 (.int .i64 n) (.int .i64 n)) w = .ok (.slice (some ⟨w.heap.size, 0, none⟩) n n) (w.alloc (.cells (flat (vO n).dur).toArray 124)) := by
 have hi := mX
 cases hi0 : Tryz.prog.info? 124 with
 | none => rw [hi0] at hi; cases hi
 | some i0 =>
  rw [hi0] at hi;simp only [Option.map_some, Option.some.injEq, Prod.mk.injEq] at hi;obtain ⟨hz, hs, hb⟩ := hi
  cases hz0 : i0.zero with
  | none => rw [hz0] at hz; cases hz
  | some z =>
   rw [hz0] at hz;injection hz with hz;have := run_make (P := Tryz.prog) w 80 124 i0 z sA hi0 hz0 .i64 .i64 (n : Int) (n : Int) (by omega) (by omega) (by rw [hb]; omega) (by omega);rw [this, hs];simp only [Int.toNat_natCast];rw [made_zero n _ hz]
theorem make_bools (n : Nat) (hn : n <= 65536) (w : World) : Sem.run Tryz.prog (Instr.makeSlice 81 (.int .i64 n) (.int .i64 n)) w = .ok (.slice (some ⟨w.heap.size, 0, none⟩) n n) (w.alloc (.cells (((vO n).torn.map Value.bool)).toArray 4)) := by
 obtain ⟨i0, hi, hz0, hz1, hz2⟩ := info_parts info_bool;have := run_make (P := Tryz.prog) w 81 4 i0 (.bool false) und_bools hi hz0 .i64 .i64 (n : Int) (n : Int) (by omega) (by omega) (by rw [hz2]; omega) (by omega);rw [this, hz1];simp only [Int.toNat_natCast, Nat.mul_one]
 congr 3
 apply Array.ext';have h2 := toList_madeCells_one (.bool false) n;simpa [vO, Value.cells] using h2
theorem cache_new {w : World} {bm : Nat} (h : w.heap[bm]? = some (.map #[] 0)) : tE w bm [] (λ _ => .slice none 0 0) := by
 obtain ⟨es, clock, hb, F, hs, hD⟩ := World.ownsMap_made w Tryz.prog 3 asIs;rw [World.alloc_heap_new] at hb;injection hb with hb;injection hb with e1 e2;subst e1 e2;exact ⟨⟨.map [], ⟨#[], 0, h, F, Nat.le_refl _, rfl⟩, rfl, List.nodup_nil, λ i _ => ⟨rfl, by simp [Maps.has]⟩, λ i _ => rfl⟩⟩
theorem blank_any (n : Nat) (h1 : 1 <= n) (hn : n <= 65536) (w : World) : Calls Tryz.prog 42 #[.int .i64 n] w λ e w' => ∃ b : Bks, e = .returned (.pointer (some ⟨b.d, 0, none⟩)) /\ wQ w' b (vO n) /\ (∀ k, b.all k -> w.heap.size <= k) /\ Below w.heap.size w w' := by
 have hmm := @run_makeMap Tryz.prog;have hms := make_sectors n hn;have hmb := make_bools n hn;go_enter Tryz.func42, Tryz.ntmps42
 go_wp2_with fail
 refine zR 5 (λ i => if i = 1 then some (λ v w' => ∃ g : Nat, v = .slice (some ⟨g, 0, none⟩) n n /\ w.heap.size <= g /\ Row w' g 124 (flat (vO n).dur)) else if i = 3 then some (λ v w' => ∃ g : Nat, v = .slice (some ⟨g, 0, none⟩) n n /\ w.heap.size <= g /\ Row w' g 4 ((vO n).torn.map Value.bool)) else if i = 4 then some (λ v w' => ∃ g : Nat, v = .map (some g) /\ w.heap.size <= g /\ w'.heap[g]? = some (.map #[] 0)) else none) fol (by kernel_rfl) (λ W hW hh => ?_);clear hh;simp only [fT]
 repeat ((first | refine lxM ?_ | refine lxF ?_ | refine zM rfl ?_); simp only [zD])
 refine zW _ rfl (by exact λ _ _ _ ⟨g, h1, h2, h3⟩ hb => ⟨g, h1, h2, h3.below hb⟩) rfl (λ w1 hb1 hf1 => ?_) ?_
 . have hb1' := hb1
   (unfold yE; go_simp; simp only [zN])
   exact ⟨(Below.refl _ w1).alloc (Nat.le_refl _) _, _, rfl, Nat.le_trans hW.size hb1'.size, World.alloc_heap_new w1 _⟩
 rintro v1 W1 hB1 ⟨g1, rfl, hg1, hr1⟩;simp only [zD]
 repeat ((first | refine lxM ?_ | refine lxF ?_ | refine zM rfl ?_); simp only [zD])
 refine zW _ rfl (by exact λ _ _ _ ⟨g, h1, h2, h3⟩ hb => ⟨g, h1, h2, h3.below hb⟩) rfl (λ w1 hb1 hf1 => ?_) ?_
 . have hb1' := hb1
   (unfold yE; go_simp; simp only [zN])
   exact ⟨(Below.refl _ w1).alloc (Nat.le_refl _) _, _, rfl, Nat.le_trans hW.size hb1'.size, World.alloc_heap_new w1 _⟩
 rintro v2 W2 hB2 ⟨g2, rfl, hg2, hr2⟩;simp only [zD]
 repeat ((first | refine lxM ?_ | refine lxF ?_ | refine zM rfl ?_); simp only [zD])
 refine zW _ rfl (by exact λ _ _ _ ⟨g, h1, h2, h3⟩ hb => ⟨g, h1, h2, zK hb h3⟩) rfl (λ w1 hb1 hf1 => ?_) ?_
 . have hb1' := hb1
   (unfold yE; go_simp; simp only [zN])
   exact ⟨(Below.refl _ w1).alloc (Nat.le_refl _) _, _, rfl, Nat.le_trans hW.size hb1'.size, World.alloc_heap_new w1 _⟩
 rintro v3 W3 hB3 ⟨g3, rfl, hg3, hr3⟩;simp only [zD]
 repeat ((first | refine lxM ?_ | refine lxF ?_ | refine zM rfl ?_); simp only [zD])
 refine zZ ?_;have hr1 := (hr1.below hB2).below hB3;have hr2 := hr2.below hB3;have hW3 := zF hW (zF hB1 (zF hB2 hB3))
 go_wp2_with fail
 go_ret
 have hb4 := zQ W3 (.cells #[.slice (some ⟨g1, 0, none⟩) n n, .slice (some ⟨g2, 0, none⟩) n n, .map (some g3), .bool false, .int .i64 (-1)] 84);have gd := World.alloc_heap_new W3 (.cells #[.slice (some ⟨g1, 0, none⟩) n n, .slice (some ⟨g2, 0, none⟩) n n, .map (some g3), .bool false, .int .i64 (-1)] 84);have l1 := hr1.lt;have l2 := hr2.lt;have l3 := zI hr3;have n12 : g1 ≠ g2 := by
  rintro rfl;have e := hr1.symm.trans hr2;injection e with e;injection e with _ e;exact absurd e (by decide)
 have n13 : g1 ≠ g3 := by
  rintro rfl;have e := hr1.symm.trans hr3;injection e with e
  cases e
 have n23 : g2 ≠ g3 := by
  rintro rfl;have e := hr2.symm.trans hr3;injection e with e
  cases e
 refine ⟨⟨W3.heap.size, g1, g2, g3, λ _ => .slice none 0 0⟩, rfl, ?_, ?_, hW3.trans (hb4.mono hW3.size)⟩
 . refine { head := ?_, durs := hr1.below hb4, torns := hr2.below hb4, map := cache_new (zK hb4 hr3), rows := λ i hi => (by cases hi), none' := λ _ _ => rfl, len := by simp [vO], pos := by simp [vO]; omega, lim := by simp [vO]; omega, in' := λ i hi => (by cases hi), s128 := λ s hs => ?_, c128 := λ i s hs => (by cases hs), ne1 := ⟨by show W3.heap.size ≠ g1; omega, by show W3.heap.size ≠ g2; omega, by show W3.heap.size ≠ g3; omega, n12, n13, n23⟩, ne2 := λ i k e => (by cases e), ne3 := λ i j k _ e => (by cases e) }
   . show vK _ _ _;unfold vK;simpa [vO] using gd
   . rw [List.eq_of_mem_replicate (show s ∈ List.replicate n (List.replicate 128 0) from hs)];exact List.length_replicate
 . rintro k (rfl | rfl | rfl | rfl | ⟨i, e⟩)
   . exact hW3.size
   . exact hg1
   . exact hg2
   . exact hg3
   . cases e
theorem new_any (n : Nat) (h1 : 1 <= n) (hn : n <= 65536) (w : World) : Calls Tryz.prog 14 #[.int .i64 n] w λ e w' => ∃ b : Bks, e = .returned (.tuple #[.pointer (some ⟨b.d, 0, none⟩), .int .i64 0]) /\ wQ w' b (vO n) /\ (∀ k, b.all k -> w.heap.size <= k) /\ Below w.heap.size w w' := by
 have HB := zB (blank_any n h1 hn w);have q1 : ¬ ((n : Int) < 1) := by omega
 have q2 : ¬ (65536 < (n : Int)) := by omega
 go_enter Tryz.func14, Tryz.ntmps14
 go_wp2_with fail
 refine HB.out.mono ?_;rintro e w' ⟨b, rfl, h2, h3, h4⟩
 go_wp2_with fail
 go_ret2
 exact ⟨b, rfl, h2, h3, h4⟩
end Go.Proofs.YtbjofbhhnmehgaaGreatDoor.TT
