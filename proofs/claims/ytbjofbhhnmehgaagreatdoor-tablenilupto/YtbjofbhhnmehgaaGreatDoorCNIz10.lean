
/-
 RX within a round of a loop over a function: a region that draws, whose last but one change what was there. No program.
-/
import Derived.Test.YtbjofbhhnmehgaaGreatDoorCNIz3
import Derived.Test.YtbjofbhhnmehgaaGreatDoorCNIz9
import Derived.TacticsIn
import Derived.RangeFuncNested
import Derived.RangeFuncBound
import Derived.RangeFuncCalls
import Derived.RangeFuncLeaves
import Derived.Shelf.RegionOpen
import Derived.WalkKit
import Derived.OwnWalkIn
import Derived.TacticsInMore
import Derived.LoopNIn
import Derived.LoopIn
import Derived.Test.YtbjofbhhnmehgaaGreatDoorCNIz0
import Derived.Test.YtbjofbhhnmehgaaGreatDoorCNIz8
set_option linter.unusedSimpArgs false
set_option linter.unusedVariables false
set_option maxHeartbeats 4000000
set_option maxRecDepth 100000
open Go.IntWalk (toNatUp iteOmega)
namespace Go.RG
open Go.RowKit
section
variable {ρ : Grow} {P : Program} {ops : Array Oper} {base : World} {CB : World -> Prop} {kd : Nat -> Kindx} {l n : Nat} {l0 n0 : Nat}
theorem mA {Q : Exit -> Act -> World -> Prop} : ∀ (ls : List Oper) (k : Nat) (listed : Array Bool) (a : Act) (w : World), (∀ j, ls[j]? = ops[k + j]?) ->
 Region.seqB mdA ops ls.length k listed = true -> wpListIn (Fence.wide.inRound l0) n0 P ops Q ls a w -> wpAnyIn (Fence.wide.inRound l0) n0 P mdA ops Q ls.length listed a w
 | [], _, _, _, _, _, hB, h => ⟨by simpa [Region.seqB] using hB, h⟩
 | o :: ls, k, listed, a, w, hl, hB, h => by
  have h0 : ops[k]? = some o := by simpa using (hl 0).symm
  simp only [List.length_cons, Region.seqB, Bool.and_eq_true, decide_eq_true_eq] at hB;refine ⟨λ h1 => (by rw [hB.1] at h1; cases h1), λ i hi => ?_⟩;rw [hB.1] at hi;have hik : i = k := by simpa using hi
  subst hik;have hw : wpOpIn (Fence.wide.inRound l0) n0 P ops Q i (wpListIn (Fence.wide.inRound l0) n0 P ops Q ls) a w := by unfold wpOpIn; simp only [h0]; exact h
  exact wpOpIn_mono (λ a' w' h' => mA ls (i + 1) _ a' w' (λ j => by have := hl (j + 1); simpa [Nat.add_assoc, Nat.add_comm 1 j] using this) hB.2 h') hw
theorem lD {g : Nat} {L : Array Bool -> Act -> World -> Prop} {Q : Exit -> Act -> World -> Prop} (hnd : ∀ (i : Nat) (o : Oper), ops[i]? = some o -> ∀ c, o.op ≠ .defer c) (sd : Sidesx ops kd l n) (hln : l < n)
 (hsub : ∀ w, ρ.r base w -> CB w) (hL : ∀ listed a w, L listed a w -> wpAnyIn (Fence.wide.inRound l0) n0 P mdA ops Q g listed a w) :
 ∀ (f : Nat) (listed : Array Bool) (Γ : zX) (a : Act) (w : World), HeadInv mdA ops n listed -> Atx ρ P base CB l listed Γ a w ->
  rxAny ρ P ops base CB kd n L f listed Γ a w -> wpAnyIn (Fence.wide.inRound l0) n0 P mdA ops Q (f + g) listed a w
 | 0, listed, Γ, a, w, _, _, h => by rw [Nat.zero_add]; exact hL _ _ _ h
 | f + 1, listed, Γ, a, w, inv, hat, h => by
  rw [show f + 1 + g = (f + g) + 1 by omega];refine ⟨λ h0 => absurd h0 h.1, λ i hi => ?_⟩;obtain ⟨hin, o, ho, hs⟩ := h.2 i hi;have hun := hQ (mem_ready.1 hi).1;have inv' := inv.set hi hin;have hgo := λ Γ' a' w' => lD hnd sd hln hsub hL f (listed.setIfInBounds i true) Γ' a' w' inv';unfold wpOpIn;simp only [ho];unfold xK at hs;have hne : (∀ R, kd i ≠ .late R) -> i ≠ l := λ h e => by
   obtain ⟨R, hR⟩ := sd.late;exact h R (e ▸ hR)
  have hone : i ≠ l -> (kd i).isBig = false -> listed.getD l false = false := λ h1 h2 => by
   rcases sd.ahead i hin h1 with h | h
   . rw [h] at h2; cases h2
   . exact (wU inv _ i h hun).1
  split at hs
  . rename_i hk;have hil : i ≠ l := hne (λ R => by rw [hk]; intro h; cases h);obtain ⟨v, hy, hK⟩ := hs;obtain ⟨h1, h2, h3⟩ := hat.one (hone hil (by rw [hk]; rfl));have hnext := hgo _ _ _ (hat.small (d := o.dst) (v := v) hil) hK;rcases hy with ⟨hw, hr⟩ | ⟨hw, rfl⟩
    . rw [if_pos hw];unfold Oper.wpIn;refine ⟨λ f _ => trivial, ?_⟩;rw [Oper.semAt_eq _ _ _ (hnd i o ho), hr w h1 (λ t _ ht => h2 t ht)];exact hnext
    . rw [if_neg (by simp [hw])];exact ⟨λ f _ => trivial, hnext⟩
  . rename_i S hk;have hil : i ≠ l := hne (λ R => by rw [hk]; intro h; cases h);obtain ⟨⟨hw, hSs, hm⟩, hK⟩ := hs;have hlu := hone hil (by rw [hk]; rfl);obtain ⟨h1, h2, h3⟩ := hat.one hlu;rw [if_pos hw];refine lB (hnd i o ho) (hm w h1 (λ t _ ht => h2 t ht)) λ v w' ⟨hb, hS⟩ => ?_;exact hgo _ _ _ (hat.make hlu hil hsub hb hS hSs) (hK v w' hb hS)
  . rename_i hk;have hil : i ≠ l := hne (λ R => by rw [hk]; intro h; cases h);obtain ⟨v, hy, hK⟩ := hs;have hnext := hgo _ _ _ (hat.small (d := o.dst) (v := v) hil) hK;rcases hy with ⟨hw, hr⟩ | ⟨hw, rfl⟩
    . rw [if_pos hw];unfold Oper.wpIn;refine ⟨λ f _ => trivial, ?_⟩;rw [Oper.semAt_eq _ _ _ (hnd i o ho), hr w hat.big];exact hnext
    . rw [if_neg (by simp [hw])];exact ⟨λ f _ => trivial, hnext⟩
  . rename_i R hk;have hil : i = l := by
     by_cases e : i = l
     . exact e
     . exact absurd hk (sd.others i hin e R)
    subst hil;obtain ⟨hw, R1, hm, hK⟩ := hs;rw [if_pos hw];refine lB (hnd i o ho) hm λ v w' ⟨hb, hS⟩ => ?_;refine hgo _ _ _ (Atx.late (Γ := Γ) (a := a) ?_ hb) (hK v w' hb hS);rw [inv.size];exact (Array.getElem?_eq_some_iff.1 ho).1
end
section
variable {P : Program} {id : Nat} {Q : Exit -> Act -> World -> Prop} {a : Act} {w : World} {ls : List Oper} {l0 n0 : Nat}
theorem kS (ρ : Grow) (n : Nat) (big : List Nat) (mk : Nat -> Option ((Nat -> Value) -> Spec)) (CB : World -> Prop) (R : Spec) (hm : P.follows .mixedOrders = true) (hB : (noDeferB ls.toArray && (lateB ls.toArray big n && aftB ls.toArray)) = true)
 (hsub : ∀ b, b.heap = w.heap -> Below w.heap.size w b -> ∀ w', ρ.r b w' -> CB w')
 (h : ∀ b, Below w.heap.size w b -> b.heap = w.heap -> oL ρ P ls.toArray b CB (sN big mk n R) (λ a' w' => wpListIn (Fence.wide.inRound l0) n0 P ls.toArray Q (ls.drop n) a' w') (ls.take n) 0 zX.empty a b) :
 (Code.region id ls.toArray true).wpIn (Fence.wide.inRound l0) n0 P Q a w := by
 obtain ⟨hdf, hB⟩ := Bool.and_eq_true_iff.1 hB;obtain ⟨hB, haft⟩ := Bool.and_eq_true_iff.1 hB;have aft := aftB_spec haft;simp only [lateB, Bool.and_eq_true, decide_eq_true_eq] at hB;obtain ⟨⟨⟨hB1, hpos⟩, hlast⟩, hbig⟩ := hB;simp only [Region.lexTailB, Bool.and_eq_true, decide_eq_true_eq] at hB1;obtain ⟨⟨⟨⟨hsel, hn⟩, hs⟩, hc⟩, hlex⟩ := hB1;have htl : (ls.take n).length = n := by simp at hn; simp; omega
 have hdl : (ls.drop n).length = ls.toArray.size - n := by simp
 have inv0 : HeadInv .any ls.toArray n (Array.replicate ls.toArray.size false) :=
  ⟨by simp, λ j oj _ hl => (by rw [getD_replicate_false] at hl; cases hl), λ t _ ht => getD_in (by simpa using ht) (getD_replicate_false _ _)⟩
 have sd : Sidesx ls.toArray (sN big mk n R) (n - 1) n := by
  refine ⟨Region.noSelect_spec hsel, λ i hin listed inv hun j hj => ?_, λ i hin hil => ?_, ⟨R, by simp [sN]⟩, λ i hin hil R' => ?_⟩
  . rcases Nat.lt_or_ge j n with h | h
    . exact h
    . exact absurd hj (tail_waits hs hc hn inv _ i rfl hin hun j h)
  . have := List.all_eq_true.1 hbig i (List.mem_range.2 (by omega));simp only [Bool.or_eq_true] at this;rcases this with h | h
    . left;unfold sN;rw [if_neg hil, if_pos h];rfl
    . exact .inr h
  . unfold sN;rw [if_neg hil]
    split
    . intro h; cases h
    . split <;> (intro h; cases h)
 have hw0 : Below w.heap.size w { w with drawn := w.drawn + 1 } := (Below.refl _ w).drew;have H := rx_lex (ρ := ρ) aft (g := ls.toArray.size - n) (Lq := λ a' w' => wpListIn (Fence.wide.inRound l0) n0 P ls.toArray Q (ls.drop n) a' w') sd (by omega)
  (λ listed' a' w' => Region.seqB .any ls.toArray (ls.toArray.size - n) n listed' = true /\ wpListIn (Fence.wide.inRound l0) n0 P ls.toArray Q (ls.drop n) a' w')
  (λ w' h' => hsub { w with drawn := w.drawn + 1 } rfl hw0 w' h') (λ listed a w hL => seqB_ready hL.1) (λ _ _ _ h1 h2 => ⟨h1, h2⟩)
  (ls.take n) 0 _ zX.empty a { w with drawn := w.drawn + 1 } (λ j hj => by
   have hj' : j < n := by rw [htl] at hj; exact hj
   simp [hj']) (by simpa using htl) inv0 (by rw [htl]; exact hlex) hlast rfl
  (λ _ => ⟨hsub { w with drawn := w.drawn + 1 } rfl hw0 _ (ρ.refl _), λ _ => ⟨ρ.refl _, zX.empty_ok _ _, (zX.empty_stab ρ)⟩⟩)
  (h { w with drawn := w.drawn + 1 } hw0 rfl)
 refine wpIn_region_any hm ?_;have := lD (ρ := ρ) (Q := Q) (g := ls.toArray.size - n) (l0 := l0) (n0 := n0) (noDefer hdf) sd (by omega) (λ w' h' => hsub { w with drawn := w.drawn + 1 } rfl hw0 w' h') (λ listed a' w' hL => by
  have := mA (Q := Q) (l0 := l0) (n0 := n0) (ls.drop n) n listed a' w' (λ j => by simp [List.getElem?_drop]) (by rw [hdl]; exact hL.1) hL.2
  rwa [hdl] at this) _ _ _ _ _ inv0 ⟨hsub { w with drawn := w.drawn + 1 } rfl hw0 _ (ρ.refl _), λ _ => ⟨ρ.refl _, zX.empty_ok _ _, (zX.empty_stab ρ)⟩⟩ H
 rw [htl, show n + (ls.toArray.size - n) = ls.toArray.size by simp at hn; simp; omega] at this;exact this
end
end Go.RG
namespace Go.Hp
open Go.RowKit Go.RG
structure GuardX (inv : World -> Prop) (Pr : World -> Nat -> Prop) : Prop where
 fresh : ∀ W W1, inv W -> Below W.heap.size W W1 -> inv W1 /\ (∀ k, Pr W k -> Pr W1 k) /\ ∀ k o, W.heap.size <= k -> W1.heap[k]? = some o -> o.isCells = true -> Pr W1 k
 lt : ∀ W k, Pr W k -> k < W.heap.size
 grown : ∀ W W' row, inv W -> W.grownBy W' row -> (∀ r, row = some r -> ∃ o : Obj, W.heap[r]? = some o /\ o.isCells = false) -> inv W' /\ ∀ k, Pr W k -> Pr W' k /\ W'.heap[k]? = W.heap[k]?
structure pJ (inv : World -> Prop) (Pr : World -> Nat -> Prop) (X : Nat -> Prop) (W W' : World) : Prop where
 safe : inv W -> inv W'
 size : W.heap.size <= W'.heap.size
 keep : inv W -> ∀ k, Pr W k -> ¬ X k -> Pr W' k /\ W'.heap[k]? = W.heap[k]?
section
variable {inv : World -> Prop} {Pr : World -> Nat -> Prop} {X : Nat -> Prop}
theorem pJ.refl (W : World) : pJ inv Pr X W W := ⟨id, Nat.le_refl _, λ _ _ h _ => ⟨h, rfl⟩⟩
theorem pJ.trans {A B C : World} (h : pJ inv Pr X A B) (k : pJ inv Pr X B C) : pJ inv Pr X A C :=
 ⟨λ h0 => k.safe (h.safe h0), Nat.le_trans h.size k.size, λ h0 i hi hx => let ⟨h1, h2⟩ := h.keep h0 i hi hx; let ⟨h3, h4⟩ := k.keep (h.safe h0) i h1 hx; ⟨h3, h4.trans h2⟩⟩
theorem pJ.grown (hG : GuardX inv Pr) {A B : World} {row : Option Nat} (hg : A.grownBy B row) (hr : ∀ r, row = some r -> ∃ o : Obj, A.heap[r]? = some o /\ o.isCells = false) : pJ inv Pr X A B :=
 ⟨λ h0 => (hG.grown A B row h0 hg hr).1, hg.size, λ h0 k hk _ => (hG.grown A B row h0 hg hr).2 k hk⟩
theorem pJ.putObj (hG : GuardX inv Pr) (W : World) (l : Nat) (o o' : Obj) (h : W.heap[l]? = some o) (ho : o.isCells = false) : pJ inv Pr X W (W.putObj l o') :=
 pJ.grown hG (grownBy_putObj' W l o') λ r e => by cases e; exact ⟨o, h, ho⟩
structure nI (inv : World -> Prop) (Pr : World -> Nat -> Prop) (A : Nat -> Prop) (w3 wr : World) : Prop where
 lo : inv wr
 pr : ∀ k, A k -> Pr wr k
 lt : ∀ k, A k -> k < wr.heap.size
 eq : ∀ k, A k -> wr.heap[k]? = w3.heap[k]?
variable {A A' : Nat -> Prop} {w3 wr W : World}
theorem nI.below (hG : GuardX inv Pr) (h : nI inv Pr A w3 wr) (hb : Below wr.heap.size wr W) : nI inv Pr A w3 W :=
 ⟨(hG.fresh wr W h.lo hb).1, λ k hk => (hG.fresh wr W h.lo hb).2.1 k (h.pr k hk), λ k hk => Nat.lt_of_lt_of_le (h.lt k hk) hb.size, λ k hk => (hb.block k (h.lt k hk)).trans (h.eq k hk)⟩
theorem nI.mono (h : nI inv Pr A w3 wr) (hA : ∀ k, A' k -> A k) : nI inv Pr A' w3 wr := ⟨h.lo, λ k hk => h.pr k (hA k hk), λ k hk => h.lt k (hA k hk), λ k hk => h.eq k (hA k hk)⟩
theorem nI.keep (h : nI inv Pr A w3 wr) (hb : pJ inv Pr X wr W) (hX : ∀ k, A k -> ¬ X k) : nI inv Pr A w3 W :=
 ⟨hb.safe h.lo, λ k hk => (hb.keep h.lo k (h.pr k hk) (hX k hk)).1, λ k hk => Nat.lt_of_lt_of_le (h.lt k hk) hb.size, λ k hk => (hb.keep h.lo k (h.pr k hk) (hX k hk)).2.trans (h.eq k hk)⟩
theorem nI.cell (h : nI inv Pr A w3 wr) {b o : Nat} {v : Value} (hb : A b) (hc : w3.cell? ⟨b, o, none⟩ = some v) : wr.cell? ⟨b, o, none⟩ = some v := by
 rw [World.cell?_of_block (w := w3) (h.eq b hb)]; exact hc
theorem qT {β : Type} {B : Nat} {J : β -> World -> Prop} (hJ : OwnFrom B J) {s : β} {W1 W2 : World} (h : J s W1) (hb : Below W1.heap.size W1 W2) : J s W2 :=
 hJ s W1 W2 none h ⟨hb.os, hb.tape, hb.output, hb.size, λ k hk _ => hb.block k hk⟩ (λ r e => by cases e)
end
end Go.Hp
namespace Go.Proofs.YtbjofbhhnmehgaaGreatDoor.TT
open Go.RowKit Go.RG Go.Hp Go.Proofs.YtbjofbhhnmehgaaGreatDoor
attribute [local go_sem] Oper.semAt_some
theorem und_entries : Tryz.prog.underlying 143 = some (.slice 148) := by kernel_rfl
theorem info_entry : (Tryz.prog.info? 148).map (λ i => (i.zero, i.size, i.bytes)) = some (some (.agg #[.int .u64 0, .slice none 0 0]), 2, 32) := by kernel_rfl
abbrev Ent2 := Nat × List Int
def entC : List Ent2 -> List Value -> List Value
 | e :: es, u :: us => .int .u64 e.1 :: u :: entC es us
 | _, _ => []
theorem entC_snoc : ∀ {es : List Ent2} {us : List Value} (_ : us.length = es.length) (e : Ent2) (u : Value), entC (es ++ [e]) (us ++ [u]) = entC es us ++ [.int .u64 e.1, u]
 | [], [], _, _, _ => rfl
 | _ :: es, _ :: us, h, e, u => by
  have := entC_snoc (es := es) (us := us) (by simpa using h) e u;simp only [List.cons_append, entC, this]
theorem entC_get : ∀ {es : List Ent2} {us : List Value} {i : Nat} {e : Ent2} {u : Value}, es[i]? = some e -> us[i]? = some u -> (entC es us)[i * 2]? = some (.int .u64 e.1) /\ (entC es us)[i * 2 + 1]? = some u
 | _ :: es, _ :: us, 0, e, u, h, k => by
  simp at h k;subst h k;exact ⟨rfl, rfl⟩
 | _ :: es, _ :: us, i + 1, e, u, h, k => by
  have := entC_get (es := es) (us := us) (i := i) (e := e) (u := u) (by simpa using h) (by simpa using k);rw [show (i + 1) * 2 = i * 2 + 1 + 1 by omega];simpa only [entC, List.getElem?_cons_succ] using this
 | [], _, i, e, u, h, k => by simp at h
 | _ :: es, [], i, e, u, h, k => by simp at k
def wR (w : World) (j : Nat) : Prop := ∃ o, w.heap[j]? = some o /\ o.isCells = true
theorem wR.lt {w : World} {j : Nat} (h : wR w j) : j < w.heap.size := by obtain ⟨o, h, -⟩ := h; exact zI h
theorem wR.below {w w' : World} {j : Nat} (h : wR w j) (hb : Below w.heap.size w w') : wR w' j := by obtain ⟨o, h1, h2⟩ := h; exact ⟨o, zK hb h1, h2⟩
theorem wR.ext {w w' : World} {j : Nat} {S : Nat -> Prop} (h : wR w j) (hX : Ext S w w') (hS : ¬ S j) : wR w' j := by
 obtain ⟨o, h1, h2⟩ := h;exact ⟨o, (hX.block j (zI h1) hS).trans h1, h2⟩
theorem sD {w : World} {B ty sz : Nat} {v : Value} {n : Nat} {xs : List Value} (h : w.ownsRow B ty sz v n xs) {k : Nat} (hk : v.ownBlock = some k) : wR w k := by
 rcases h.2 with ⟨rfl, -⟩ | ⟨g, cap, cur, rfl, -, hg, -⟩
 . cases hk
 . obtain rfl := Option.some.inj hk;exact ⟨_, hg, rfl⟩
structure mH (w : World) (B : Nat) (v : Value) (es : List Ent2) (us : List Value) : Prop where
 len : us.length = es.length
 row : w.ownsRow B 148 2 v es.length (entC es us)
 recs : ∀ (i : Nat) (e : Ent2) (u : Value), es[i]? = some e -> us[i]? = some u -> Src w u (u8s e.2) /\ ∀ j, u.ownBlock = some j -> B <= j /\ wR w j /\ v.ownBlock ≠ some j
 one : ∀ u ∈ us, u.oneCell' = true
theorem mH.below {w w' : World} {B : Nat} {v : Value} {es : List Ent2} {us : List Value} (h : mH w B v es us) (hb : Below w.heap.size w w') : mH w' B v es us :=
 ⟨h.len, yA h.row hb, λ i e u h1 h2 => ⟨(h.recs i e u h1 h2).1.below hb, λ j hj => let ⟨a, b, c⟩ := (h.recs i e u h1 h2).2 j hj; ⟨a, b.below hb, c⟩⟩, h.one⟩
theorem mH.nil (w : World) (B : Nat) : mH w B (.slice none 0 0) [] [] := ⟨rfl, World.ownsRow_nil _ _ _ _, λ i e u h => by simp at h, λ u h => by cases h⟩
theorem mH.app {w : World} {B : Nat} {v : Value} {es : List Ent2} {us : List Value} (h : mH w B v es us) (hn : es.length <= 1048576) (e : Ent2) (u : Value) (hu : Src w u (u8s e.2)) (hf : ∀ j, u.ownBlock = some j -> B <= j /\ wR w j /\ v.ownBlock ≠ some j) (hB : B <= w.heap.size) (g c : Nat)
 (hg : w.heap[g]? = some (.cells #[.int .u64 e.1, u] 148 (0, 0))) (ty : TypeId) :
 ∃ v' w', (Builtin.append_ #[143, 143] ty #[v, .slice (some ⟨g, 0, none⟩) 1 c]).run Tryz.prog w = .ok v' w' /\ mH w' B v' (es ++ [e]) (us ++ [u]) /\ Ext (λ j => v.ownBlock = some j) w w' /\ ∃ a cap, v' = .slice a (es.length + 1) cap := by
 have h1 : u.oneCell' = true := by obtain ⟨a, c, rfl, -⟩ := hu.shape; rfl
 obtain ⟨i0, hi, hz0, hz1, hz2⟩ := info_parts info_entry;obtain ⟨v', w', r1, r2, r3, r4⟩ := sG (P := Tryz.prog) w B 143 ty 148 i0 (.agg #[.int .u64 0, .slice none 0 0]) 2 32 und_entries hi hz0 hz1 hz2 rfl (by decide) v es.length _ h.row ⟨g, 0, none⟩ 1 c [.int .u64 e.1, u] rfl (λ j x hx => by
  rw [Addr.add_lit, Nat.zero_add];exact yV hg j x (by simpa using hx)) (λ x hx => by
   simp only [List.mem_cons, List.mem_nil_iff, or_false] at hx;rcases hx with rfl | rfl
   . rfl
   . exact h1) (by unfold maxLen; omega) (by omega) hB
 have hX : Ext (λ j => v.ownBlock = some j) w w' := r3.ext.mono λ k _ ⟨_, _, h, _⟩ => h;obtain ⟨a, cap, hsh, -⟩ := zP r2;refine ⟨v', w', r1, ⟨by simp [h.len], by rw [List.length_append, entC_snoc h.len]; exact r2, λ i e' u' he hu' => ?_, λ x hx => ?_⟩, hX, a, cap, hsh⟩
 . have hgo : ∀ u', Src w u' (u8s e'.2) -> (∀ j, u'.ownBlock = some j -> B <= j /\ wR w j /\ v.ownBlock ≠ some j) -> Src w' u' (u8s e'.2) /\ ∀ j, u'.ownBlock = some j -> B <= j /\ wR w' j /\ v'.ownBlock ≠ some j := λ u' hs hb =>
    ⟨xG hs hX λ j hj e => (hb j hj).2.2 e, λ j hj => let ⟨a, b, c⟩ := hb j hj; ⟨a, b.ext hX c, λ e => (r4 j e).elim c λ e => by have := b.lt; omega⟩⟩
   rcases Nat.lt_or_ge i es.length with hl | hl
   . rw [List.getElem?_append_left hl] at he;rw [List.getElem?_append_left (by rw [h.len]; exact hl)] at hu';exact hgo u' (h.recs i e' u' he hu').1 (h.recs i e' u' he hu').2
   . have : i = es.length := by
      have := (List.getElem?_eq_some_iff.1 he).1;simp at this;omega
     subst this;rw [List.getElem?_append_right (Nat.le_refl _), Nat.sub_self] at he;rw [List.getElem?_append_right (by rw [h.len]; omega), h.len, Nat.sub_self] at hu';simp at he hu';subst he hu';exact hgo u hu hf
 . rcases List.mem_append.1 hx with hx | hx
   . exact h.one x hx
   . rw [List.mem_singleton.1 hx]; exact h1
def HasRecs (x : Dsk) (first size : Nat) (L : LogS) (es : List Ent2) : Prop := es.map Prod.fst = L.starts /\ ∀ e ∈ es, ∃ ep, xL x first size e.1 0 L.head.epoch = .ok (e.2, ep)
theorem Win.blk {w : World} {B : Nat} {v : Value} {xs : List Value} (h : Win w B v xs) : ∀ j, v.ownBlock = some j -> B <= j /\ wR w j := by
 obtain ⟨g, o, c, L, rfl, h1, h2, -⟩ := h;intro j hj;injection hj with hj;subst hj;exact ⟨h1, _, h2, rfl⟩
def RecOk (Pr : World -> Nat -> Prop) (B : Nat) (es : List Ent2) (pre : List (Nat × Value)) (x : Nat × Value) (W : World) : Prop := ∃ e, es[pre.length]? = some e /\ x.1 = e.1 /\ Src W x.2 (u8s e.2) /\ ∀ j, x.2.ownBlock = some j -> B <= j /\ wR W j /\ Pr W j
def RecAll (es : List Ent2) (xs : List (Nat × Value)) : Prop := xs.map Prod.fst = es.map Prod.fst
theorem records_seq (m : Nat) (b : Bks) (x : Dsk) (N first size : Nat) (k : LBk) (L : LogS) (es : List Ent2) (w : World) (h : LSys w b x N first size k L) (hr : L.starts.Pairwise (· < ·)) (hs : L.starts.length <= 65536) (hfl : L.fallen = false) (hoff : x.off = false)
 (hlim : ∀ n ∈ L.starts, n <= 9223372036854775807) (hes : HasRecs x first size L es) (Bl Bn : Nat) (hbl : w.cell? ⟨Bl, 0, none⟩ = some (.pointer (some ⟨k.l, 0, none⟩))) (hbn : w.cell? ⟨Bn, 0, none⟩ = some (.int .u64 0))
 (inv : World -> Prop) (Pr : World -> Nat -> Prop) (hG : GuardX inv Pr) (hn0 : inv w) :
 SeqX Fence.wide m Tryz.prog 90 #[.pointer (some ⟨Bl, 0, none⟩), .pointer (some ⟨Bn, 0, none⟩)] (λ x : Nat × Value => #[.int .u64 x.1, x.2]) (λ _ => pJ inv Pr (λ _ => False)) (RecAll es) (λ _ => True) (RecOk Pr w.heap.size es) w := by
 intro l J Jx W hW hJ hJx hY hJ0;have hx := zG hW hbl;have hn := zG hW hbn;have hS := h.below hW;have hlen : L.starts.length = es.length := by rw [<- hes.1, List.length_map]
 have hRdy := zB (jR b x N first size k L W hS hfl hoff);have hpos : posU L.starts 0 = 0 := by
  unfold posU;rw [List.countP_eq_zero];intro n _;simp
 have HPos := zB hpos;have H := zB (zC hS (zC hr (zC hs (zC hfl (zC hoff (zC hlim hes))))));have HY := zB hY;have HJ0 := zB hJ0;have hwW := hW.size;clear hS h hbl hbn hY hJ0 hpos hr hs hfl hoff hlim hes;refine callsIn_wide.2 ?_;show Calls Tryz.prog 90 #[.func (.yield l) #[] #[], .pointer (some ⟨Bl, 0, none⟩), .pointer (some ⟨Bn, 0, none⟩)] W _;go_enter Tryz.func90, Tryz.ntmps90
 go_wp2_with fail
 refine hRdy.out.mono ?_;rintro e w1 ⟨rfl, hB1⟩;have hS1 := H.out.1.below hB1;have hcs := hS1.log.cs;obtain ⟨-, -, -, -, -, -, -, -, y8, -⟩ := hcs;have hst := hS1.log.starts;obtain ⟨n, hnn⟩ : ∃ n, es.length = n := ⟨_, rfl⟩;rw [hlen, hnn] at hst;obtain ⟨sa, sc, hks, -⟩ := zP hst;have hn6 : n <= 65536 := by have := H.out.2.2.1; omega
 rw [hks] at y8 hst;have Hst := zB hst;have HBS := zB λ W' (hW' : Below w1.heap.size w1 W') => nN (.slice sa n sc) L.starts H.out.2.1 0 W' (Src.of_owns (yA Hst.out hW')) (by have := H.out.2.2.1; omega);have y1 := zG hB1 hx;have y2 := zG hB1 hn;have Hn := zB hnn;clear hst hks hx hn hRdy hS1 hlen hnn
 go_wp2_with fail
 refine zY (λ i => if i = 5 then some (λ v _ => v = .tuple #[.int .i64 0, .bool (decide (0 ∈ L.starts))]) else none) fol (by kernel_rfl) (λ W2 hW2 hh => ?_);clear hh;have q1 := zV hW2 y1;have q2 := zV hW2 y2;have q8 := zV hW2 y8
 repeat ((first | refine lxM ?_ | refine lxF ?_ | refine zM rfl ?_); simp only [zD])
 refine zW _ rfl (λ _ _ _ h _ => h) rfl (λ w1 hb1 hf1 => ?_) ?_
 . have hb1' := hb1
   (unfold yE; go_simp; simp only [zN])
   refine (HBS.out _ (zF hW2 hb1')).mono ?_;rintro e w' ⟨rfl, hB⟩;rw [HPos.out];exact ⟨_, rfl, hB, rfl⟩
 rintro v3 W3 hB3 rfl;simp only [zD]
 repeat ((first | refine lxM ?_ | refine lxF ?_ | refine zM rfl ?_); simp only [zD])
 refine zZ ?_;have hBW := zF hB1 (zF hW2 hB3);have y1 := zG (zF hW2 hB3) y1;have y8 := zG (zF hW2 hB3) y8;have Hst3 := zB (yA Hst.out (zF hW2 hB3));have HS3 := zB (H.out.1.below hBW);have HBW := zB hBW;clear q1 q2 q8 hW2 hB1 hB3 HBS Hst hBW y2
 go_wp2_with fail
 go_loopw [4, 32] (λ va vi wr => ∃ (i : Nat) (us : List Value), vi = .int .i64 i /\ i <= n /\ mH wr W3.heap.size va (es.take i) us /\ Below W3.heap.size W3 wr) (λ _ vi _ => n - (intOf vi).toNat)
 case atStart => exact ⟨0, [], rfl, Nat.zero_le _, mH.nil _ _, Below.refl _ _⟩
 case round =>
  obtain ⟨i, us, rfl, hi, hE, hBr⟩ := hrel;by_cases hin : i < n
  . have hin' : (i : Int) < (n : Int) := by omega
    obtain ⟨e0, he0⟩ : ∃ e, es[i]? = some e := ⟨_, List.getElem?_eq_getElem (by rw [Hn.out]; exact hin)⟩;obtain ⟨ep, hep⟩ := H.out.2.2.2.2.2.2.2 e0 (List.mem_of_getElem? he0);have hst0 : L.starts[i]? = some e0.1 := by rw [<- H.out.2.2.2.2.2.2.1, List.getElem?_map, he0]; rfl
    have hin0 := List.mem_of_getElem? hst0;have hel0 := H.out.2.2.2.2.2.1 _ hin0;obtain ⟨gs, sc2, hsl, -, -, -, -, hsc, -⟩ := xB Hst3.out (by omega);injection hsl with hsl1 _ hsl3;subst hsl1 hsl3;have hci := hsc i (by omega);rw [iQ hst0] at hci;have hci := zG hBr hci;have y1r := zG hBr y1;have hlr : lreadR x first size L e0.1 = .ok e0.2 := by
     unfold lreadR;rw [if_neg (by rw [H.out.2.2.2.1, H.out.2.2.2.2.1]; decide), if_pos hin0, hep]
    have hrd := lread_still b x N first size k L e0.1 hel0 wr (HS3.out.below hBr) H.out.2.1 H.out.2.2.1 H.out.2.2.2.1 H.out.2.2.2.2.1;rw [hlr] at hrd;have HRD := zB hrd;obtain ⟨na, nc, rfl, -⟩ := zP hE.row;have hll : (es.take i).length = i := by rw [List.length_take, Hn.out]; omega
    have HE := zB hE;rw [hll];have Hll := zB hll;have He0 := zB he0;clear hrd hlr hep hin0 hst0 hE hsc hll he0
    go_wp2_with fail
    refine HRD.out.mono ?_;rintro e w5 ⟨⟨u, rfl, hwin⟩, hB5⟩;obtain ⟨ug, uo, ul, uc, rfl⟩ := hwin.shape;have hb6 := zQ w5 (.cells #[.int .u64 e0.1, .slice (some ⟨ug, uo, none⟩) ul uc] 148);have g6 := World.alloc_heap_new w5 (.cells #[.int .u64 e0.1, .slice (some ⟨ug, uo, none⟩) ul uc] 148);have hwr3 := hBr.size;have hr5 := hB5.size;have hal : ∀ j, (Value.slice na (es.take i).length nc).ownBlock = some j -> j < wr.heap.size := λ j hj => xD HE.out.row hj;obtain ⟨v', w', ra, hE', hX', va', vc', hv'⟩ := ((HE.out.below hB5).below hb6).app (by rw [Hll.out]; omega) e0 (.slice (some ⟨ug, uo, none⟩) ul uc) (hwin.src.below hb6) (λ j hj => by
     obtain ⟨h1, h2⟩ := hwin.blk j hj;exact ⟨by omega, h2.below hb6, λ e => by have := hal j e; omega⟩) (by have := hb6.size; omega) w5.heap.size 1 g6 143
    rw [Hll.out] at hv' ra hal;subst hv';have HR := zB (zC hE' (zC hX' hb6));have Hra := zB ra;have HB5 := zB hB5;clear hE' hX' hb6 g6 ra hwin hB5
    go_wp2_with (at_builtin; refine yW rfl (yM (.tmp 44) (.tmp 48) 143 143 rfl Hra.out) ?_)
    have htk : es.take (i + 1) = es.take i ++ [e0] := by rw [List.take_add_one, He0.out]; rfl
    refine ⟨⟨i + 1, us ++ [.slice (some ⟨ug, uo, none⟩) ul uc], by simp, by omega, by rw [htk]; exact HR.out.1, ?_⟩, ?_⟩
    . refine (((hBr.trans (HB5.out.mono hwr3)).trans (HR.out.2.2.mono (Nat.le_trans hwr3 hr5)))).trans (Ext.to_belowAt HR.out.2.1 (by have := HR.out.2.2.size; omega) λ k hk e => ?_);have := (HE.out.row.lt k (show (Value.slice na (es.take i).length nc).ownBlock = some k from e)).1;omega
    . show n - ((i : Int) + 1).toNat < n - (i : Int).toNat;omega
  . obtain rfl : i = n := by omega
    have hin' : ¬ (i : Int) < (i : Int) := by omega
    have htk : es.take i = es := List.take_of_length_le (by rw [Hn.out]; exact Nat.le_refl _);rw [htk] at hE;have hrow := hE.row;rw [Hn.out] at hrow;obtain ⟨na, nc, rfl, -⟩ := zP hrow;have HE := zB hE;have Hrow := zB hrow;clear hE htk hrow;obtain ⟨xs, hxs⟩ : ∃ xs : List (Nat × Value), (es.map Prod.fst).zip us = xs := ⟨_, rfl⟩;have hxl : xs.length = i := by rw [<- hxs, List.length_zip, List.length_map, HE.out.len, Hn.out, Nat.min_self]
    have hxf : xs.map Prod.fst = es.map Prod.fst := by rw [<- hxs]; exact List.map_fst_zip (by rw [List.length_map, HE.out.len]; exact Nat.le_refl _)
    have hxg : ∀ q, q < i -> ∃ e u, es[q]? = some e /\ us[q]? = some u /\ xs[q]? = some (e.1, u) := λ q hq => by
     have h1 : q < es.length := by rw [Hn.out]; exact hq
     have h2 : q < us.length := by rw [HE.out.len]; exact h1
     refine ⟨es[q], us[q], List.getElem?_eq_getElem h1, List.getElem?_eq_getElem h2, ?_⟩;rw [<- hxs, List.getElem?_zip_eq_some];simp [h1, h2]
    have HX := zB (zC hxl (zC hxf hxg));clear hxs hxl hxf hxg;have hWr := HBW.out.trans (hBr.mono HBW.out.size);have hinvW := (hG.fresh w W hn0 hW).1;have hK0 : nI inv Pr (λ k => (Value.slice na i nc).ownBlock = some k \/ ∃ u ∈ us, u.ownBlock = some k) wr wr := by
     have hAB : ∀ k, ((Value.slice na i nc).ownBlock = some k \/ ∃ u ∈ us, u.ownBlock = some k) -> W.heap.size <= k /\ wR wr k := λ k hk => by
      have hz := HBW.out.size;rcases hk with hk | ⟨u, hu, hk⟩
      . exact ⟨Nat.le_trans hz (Hrow.out.lt k hk).1, sD Hrow.out hk⟩
      . obtain ⟨q, hq⟩ := List.mem_iff_getElem?.1 hu;have hql := (List.getElem?_eq_some_iff.1 hq).1;obtain ⟨e, he⟩ : ∃ e, es[q]? = some e := ⟨_, List.getElem?_eq_getElem (by rw [<- HE.out.len]; exact hql)⟩;obtain ⟨h1, h2, -⟩ := (HE.out.recs q e u he hq).2 k hk;exact ⟨Nat.le_trans hz h1, h2⟩
     refine ⟨(hG.fresh W wr hinvW hWr).1, λ k hk => ?_, λ k hk => (hAB k hk).2.lt, λ _ _ => rfl⟩;obtain ⟨h1, o, h2, h3⟩ := hAB k hk;exact (hG.fresh W wr hinvW hWr).2.2 k o h1 h2 h3
    have hJr : J [] wr := qT hJ HJ0.out hWr;clear y8 y1 Hst3 HS3
    go_wp2_with fail
    generalize wr = wA at *;refine (wpIn_wide (n := m)).1 ?_
    gi_loopw [53] (λ vi wr => ∃ q : Nat, vi = .int .i64 q /\ q <= i /\ J (xs.take q) wr /\ nI inv Pr (λ k => (Value.slice na i nc).ownBlock = some k \/ ∃ u ∈ us, u.ownBlock = some k) wA wr) (λ vi _ => i - (intOf vi).toNat)
    case atStart => exact ⟨0, rfl, Nat.zero_le _, hJr, hK0⟩
    case round =>
     obtain ⟨q, rfl, hq, hJ1, hK1⟩ := hrel;by_cases hqi : q < i
     . have hqi' : (q : Int) < (i : Int) := by omega
       obtain ⟨e1, u1, he1, hu1, hx1⟩ := HX.out.2.2 q hqi;obtain ⟨ga, gc, hsl, -, -, -, -, hrc, -⟩ := xB Hrow.out (by omega);injection hsl with hsl1 _ hsl3;subst hsl1 hsl3;obtain ⟨k1, k2⟩ := entC_get he1 hu1;have c1 := hrc (q * 2) (by omega);have c2 := hrc (q * 2 + 1) (by omega);rw [k1] at c1;rw [k2] at c2;have c1 := hK1.cell (b := ga) (.inl rfl) c1;have c2 := hK1.cell (b := ga) (.inl rfl) c2;obtain ⟨hs1, hf1⟩ := HE.out.recs q e1 u1 he1 hu1;have hum := List.mem_of_getElem? hu1;have huA : ∀ j, u1.ownBlock = some j -> (Value.slice (some ⟨ga, 0, none⟩) i nc).ownBlock = some j \/ ∃ u ∈ us, u.ownBlock = some j := λ j hj => .inr ⟨u1, hum, hj⟩;obtain ⟨ua, uc, rfl, -⟩ := hs1.shape;have hb1 := zQ wr (.cells #[.int .u64 e1.1, .slice ua (u8s e1.2).length uc] 148);have g1 := World.alloc_heap_new wr (.cells #[.int .u64 e1.1, .slice ua (u8s e1.2).length uc] 148);have hK2 := hK1.below hG hb1;have hJ2 := qT hJ hJ1 hb1;have hs2 : Src (wr.alloc (.cells #[.int .u64 e1.1, .slice ua (u8s e1.2).length uc] 148)) (.slice ua (u8s e1.2).length uc) (u8s e1.2) := by
        rcases hs1 with ⟨g, o, c, e, h1, h2⟩ | h
        . refine .inl ⟨g, o, c, e, h1, λ j y hy => hK2.cell (huA g (by rw [e]; rfl)) (h2 j y hy)⟩
        . exact .inr h
       have hok : RecOk Pr w.heap.size es (xs.take q) (e1.1, .slice ua (u8s e1.2).length uc) (wr.alloc (.cells #[.int .u64 e1.1, .slice ua (u8s e1.2).length uc] 148)) := by
        refine ⟨e1, ?_, rfl, hs2, λ j hj => ?_⟩
        . rw [List.length_take, HX.out.1, Nat.min_eq_left hq];exact he1
        . obtain ⟨h1, ⟨o, h2, h3⟩, -⟩ := hf1 j hj;have hz := HBW.out.size;exact ⟨by omega, ⟨o, (hK2.eq j (huA j hj)).trans h2, h3⟩, hK2.pr j (huA j hj)⟩
       obtain ⟨fn, tmps, assign, body, hy, hR⟩ := HY.out _ _ _ hJ2 hok;have htk : xs.take (q + 1) = xs.take q ++ [(e1.1, .slice ua (u8s e1.2).length uc)] := by rw [List.take_add_one, hx1]; rfl
       have HT := zB htk;have HK2 := zB hK2;dsimp only at hy;clear htk hK2 hJ2 hok hs2 hb1 g1 hs1 hf1 hrc k1 k2 he1 hu1 hx1
       gi_wp2_with fail
       refine ⟨λ h => (by cases h), hR.mono ?_⟩;rintro e W5 (⟨rfl, hJ5, hk5, -⟩ | ⟨rfl, hJx5, -⟩)
       . gi_wp2_with fail
         go_roundw
         case rel => exact ⟨q + 1, by simp, by omega, by rw [HT.out]; exact hJ5, HK2.out.keep hk5 (λ _ _ h => h)⟩
         case measure =>
          show i - ((q : Int) + 1).toNat < i - (q : Int).toNat;omega
       . gi_wp2_with fail
         refine bodyPost_ret (results_none rfl _ _ _) rfl ?_;exact ⟨⟨_, rfl⟩, .inr ⟨_, trivial, hJx5⟩⟩
     . obtain rfl : q = i := by omega
       have hqi' : ¬ (q : Int) < (q : Int) := by omega
       rw [List.take_of_length_le (by rw [HX.out.1]; exact Nat.le_refl _)] at hJ1
       gi_wp2_with fail
       go_end0
       exact ⟨⟨_, rfl⟩, .inl ⟨xs, HX.out.2.1, hJ1⟩⟩
end Go.Proofs.YtbjofbhhnmehgaaGreatDoor.TT
namespace Go.Proofs.YtbjofbhhnmehgaaGreatDoor.TT
open Go.RowKit Go.RG Go.Hp Go.Proofs.YtbjofbhhnmehgaaGreatDoor
theorem und_recs : Tryz.prog.underlying 66 = some (.slice 52) := by kernel_rfl
theorem info_bytes : (Tryz.prog.info? 52).map (λ i => (i.zero, i.size, i.bytes)) = some (some (.slice none 0 0), 1, 24) := by kernel_rfl
def AppOne (t e : TypeId) : Prop := ∀ (w : World) (B : Nat) (v : Value) (n : Nat) (xs : List Value) (_ : w.ownsRow B e 1 v n xs) (_ : n <= 1048576) (g c : Nat) (y : Value) (_ : w.cell? ⟨g, 0, none⟩ = some y) (_ : y.oneCell' = true) (_ : B <= w.heap.size) (ty : TypeId), ∃ v' w', (Builtin.append_ #[t, t] ty #[v, .slice (some ⟨g, 0, none⟩) 1 c]).run Tryz.prog w = .ok v' w' /\ w'.ownsRow B e 1 v' (n + 1) (xs ++ [y]) /\ yL (λ k j z => v.ownBlock = some k /\ j = n /\ z = y) w w' /\ (∀ k, v'.ownBlock = some k -> v.ownBlock = some k \/ w.heap.size <= k)
theorem appOne_of {t e : TypeId} {z : Value} {bytes : Nat} (hund : Tryz.prog.underlying t = some (.slice e)) (hinfo : (Tryz.prog.info? e).map (λ i => (i.zero, i.size, i.bytes)) = some (some z, 1, bytes)) (hzs : z.cells.size = 1) (hby : bytes <= 1024) : AppOne t e := by
 intro w B v n xs hown hn g c y hy h1 hB ty;obtain ⟨i0, hi, hz0, hz1, hz2⟩ := info_parts hinfo;obtain ⟨v', w', r1, r2, r3, r4⟩ := sG (P := Tryz.prog) w B t ty e i0 z 1 bytes hund hi hz0 hz1 hz2 hzs (by decide) v n xs hown ⟨g, 0, none⟩ 1 c [y] rfl (λ j u hu => by
  have : j = 0 := by have := (List.getElem?_eq_some_iff.1 hu).1; simp at this; exact this
  subst this;rw [Addr.add_lit, Nat.zero_add];simp at hu;rw [<- hu];exact hy) (λ u hu => by rw [List.mem_singleton.1 hu]; exact h1) (by unfold maxLen; omega) (Nat.le_trans (Nat.mul_le_mul (show n + 1 <= 1048577 by omega) hby) (by decide)) hB
 refine ⟨v', w', r1, r2, r3.mono λ k j u ⟨h2, h3, h4⟩ => ?_, r4⟩;have hj := (List.getElem?_eq_some_iff.1 h4).1;simp only [List.length_singleton] at hj;have : j = n := by omega
 subst this;rw [Nat.mul_one, Nat.sub_self] at h4;simp at h4;exact ⟨h2, rfl, h4.symm⟩
theorem app_u64 : AppOne 101 28 := appOne_of nK info_u64 rfl (by decide)
theorem app_rec : AppOne 66 52 := appOne_of und_recs info_bytes rfl (by decide)
def twoS (v1 v2 : Value) (n : Nat) (a b : Value) (k j : Nat) (y : Value) : Prop := (v1.ownBlock = some k /\ j = n /\ y = a) \/ (v2.ownBlock = some k /\ j = n /\ y = b)
def oneV (B : Nat) (a v : Value) (w : World) : Prop := ∃ g, v = .slice (some ⟨g, 0, none⟩) 1 1 /\ B <= g /\ w.cell? ⟨g, 0, none⟩ = some a
def appV (B base : Nat) (e : TypeId) (v0 : Value) (xs : List Value) (a v : Value) (w : World) : Prop := w.ownsRow base e 1 v (xs.length + 1) (xs ++ [a]) /\ ∀ j, v.ownBlock = some j -> v0.ownBlock = some j \/ B <= j
section
variable {v1 v2 a b : Value} {n B : Nat}
theorem pP {g : Nat} (h1 : v1.ownBlock ≠ some g) (h2 : v2.ownBlock ≠ some g) : ∀ j y, ¬ twoS v1 v2 n a b g j y := by
 rintro j y (⟨h, -⟩ | ⟨h, -⟩)
 . exact h1 h
 . exact h2 h
theorem oneV_stab (hlt1 : ∀ j, v1.ownBlock = some j -> j < B) (hlt2 : ∀ j, v2.ownBlock = some j -> j < B) (c : Value) : Spec.stab (vF (twoS v1 v2 n a b)) (oneV B c) := by
 rintro v w1 w2 ⟨g, rfl, hg, hc⟩ hr;exact ⟨g, rfl, hg, yL.cell (p := ⟨g, 0, none⟩) hr hc (pP (λ e => by have := hlt1 g e; omega) λ e => by have := hlt2 g e; omega)⟩
theorem appV_stab1 (hlt1 : ∀ j, v1.ownBlock = some j -> j < B) (hlt2 : ∀ j, v2.ownBlock = some j -> j < B) (hne : ∀ j, v1.ownBlock = some j -> v2.ownBlock ≠ some j) {base : Nat} {e : TypeId} {xs : List Value} (hn : xs.length = n) : Spec.stab (vF (twoS v1 v2 n a b)) (appV B base e v1 xs a) := by
 rintro v w1 w2 ⟨h1, h2⟩ hr;refine ⟨yL.owns hr h1 λ g j y hg hs => ?_, h2⟩;rcases h2 g hg with h3 | h3
 . rcases hs with ⟨-, rfl, rfl⟩ | ⟨h4, -⟩
   . right;rw [<- hn, List.getElem?_append_right (Nat.le_refl _), Nat.sub_self];rfl
   . exact absurd h4 (hne g h3)
 . exact absurd hs (pP (λ e => by have := hlt1 g e; omega) (λ e => by have := hlt2 g e; omega) j y)
theorem appV_stab2 (hlt1 : ∀ j, v1.ownBlock = some j -> j < B) (hlt2 : ∀ j, v2.ownBlock = some j -> j < B) (hne : ∀ j, v1.ownBlock = some j -> v2.ownBlock ≠ some j) {base : Nat} {e : TypeId} {xs : List Value} (hn : xs.length = n) (u : Value) : Spec.stab (vF (twoS v1 v2 n a b)) (λ v w => appV B base e v2 xs b v w /\ ∀ j, u.ownBlock = some j -> v.ownBlock ≠ some j) := by
 rintro v w1 w2 ⟨⟨h1, h2⟩, h5⟩ hr;refine ⟨⟨yL.owns hr h1 λ g j y hg hs => ?_, h2⟩, h5⟩;rcases h2 g hg with h3 | h3
 . rcases hs with ⟨h4, -⟩ | ⟨-, rfl, rfl⟩
   . exact absurd h3 (hne g h4)
   . right;rw [<- hn, List.getElem?_append_right (Nat.le_refl _), Nat.sub_self];rfl
 . exact absurd hs (pP (λ e => by have := hlt1 g e; omega) (λ e => by have := hlt2 g e; omega) j y)
end
structure pK (B1 B2 : Nat) (W : World) : Prop where
 one : ∃ v t, W.heap[B1]? = some (.cells #[v] t (0, 0)) /\ ∀ j, v.ownBlock = some j -> j < W.heap.size
 two : ∃ v t, W.heap[B2]? = some (.cells #[v] t (0, 0)) /\ ∀ j, v.ownBlock = some j -> j < W.heap.size
def fF (B1 B2 : Nat) (W : World) (k : Nat) : Prop := wR W k /\ k ≠ B1 /\ k ≠ B2 /\ ∀ v, (W.cell? ⟨B1, 0, none⟩ = some v \/ W.cell? ⟨B2, 0, none⟩ = some v) -> v.ownBlock ≠ some k
theorem pD (B1 B2 : Nat) : GuardX (pK B1 B2) (fF B1 B2) := by
 have key : ∀ W W1 : World, pK B1 B2 W -> W.heap.size <= W1.heap.size -> (∀ k, wR W k -> W1.heap[k]? = W.heap[k]?) -> pK B1 B2 W1 /\ (∀ k, fF B1 B2 W k -> fF B1 B2 W1 k) /\ ∀ k, W.heap.size <= k -> wR W1 k -> fF B1 B2 W1 k := by
  rintro W W1 ⟨⟨v1, t1, h1, l1⟩, ⟨v2, t2, h2, l2⟩⟩ hs hk;have k1 := hk B1 ⟨_, h1, rfl⟩;have k2 := hk B2 ⟨_, h2, rfl⟩;have c1 : ∀ v, W1.cell? ⟨B1, 0, none⟩ = some v -> v = v1 := λ v hv => by simp [World.cell?, k1, h1] at hv; exact hv.symm
  have c2 : ∀ v, W1.cell? ⟨B2, 0, none⟩ = some v -> v = v2 := λ v hv => by simp [World.cell?, k2, h2] at hv; exact hv.symm
  have d1 : W.cell? ⟨B1, 0, none⟩ = some v1 := by simp [World.cell?, h1]
  have d2 : W.cell? ⟨B2, 0, none⟩ = some v2 := by simp [World.cell?, h2]
  refine ⟨⟨⟨v1, t1, k1.trans h1, λ j hj => Nat.lt_of_lt_of_le (l1 j hj) hs⟩, ⟨v2, t2, k2.trans h2, λ j hj => Nat.lt_of_lt_of_le (l2 j hj) hs⟩⟩, λ k ⟨p1, p2, p3, p4⟩ => ⟨?_, p2, p3, λ v hv => ?_⟩, λ k hk1 hc => ⟨hc, ?_, ?_, λ v hv e => ?_⟩⟩
  . obtain ⟨o, ho, hc⟩ := p1;exact ⟨o, (hk k ⟨o, ho, hc⟩).trans ho, hc⟩
  . rcases hv with hv | hv
    . rw [c1 v hv]; exact p4 _ (.inl d1)
    . rw [c2 v hv]; exact p4 _ (.inr d2)
  . rintro rfl; have := zI h1; omega
  . rintro rfl; have := zI h2; omega
  . rcases hv with hv | hv
    . rw [c1 v hv] at e; have := l1 _ e; omega
    . rw [c2 v hv] at e; have := l2 _ e; omega
 refine ⟨λ W W1 h0 hb => ?_, λ W k h => h.1.lt, λ W W' row h0 hg hr => ?_⟩
 . obtain ⟨a, b, c⟩ := key W W1 h0 hb.size λ k hk => hb.block k hk.lt;exact ⟨a, b, λ k o hk ho hc => c k hk ⟨o, ho, hc⟩⟩
 . have hkk : ∀ k, wR W k -> W'.heap[k]? = W.heap[k]? := λ k ⟨o, ho, hc⟩ => (hg.block k (zI ho) λ e => by
    obtain ⟨o2, h2, h3⟩ := hr k e.symm;rw [ho] at h2;injection h2 with h2;subst h2;rw [hc] at h3
    cases h3)
   obtain ⟨a, b, c⟩ := key W W' h0 hg.size hkk;exact ⟨a, λ k hk => ⟨b k hk, hkk k hk.1⟩⟩
end Go.Proofs.YtbjofbhhnmehgaaGreatDoor.TT
namespace Go.Proofs.YtbjofbhhnmehgaaGreatDoor.TT
open Go.RowKit Go.RG Go.Hp Go.Proofs.YtbjofbhhnmehgaaGreatDoor
attribute [local go_sem] Oper.semAt_some
def TOpenOk (w : World) (b : Bks) (x : Dsk) (N first size : Nat) (L : LogS) (T : TblS) (e : Ending) (w' : World) : Prop :=
 ∃ (b' : Bks) (k : LBk) (q : TBk), e = .returned (.tuple #[.pointer (some ⟨q.t, 0, none⟩), .int .i64 0]) /\ b'.d = b.d /\ w.heap.size <= q.t /\ (∀ j, allB b' k q j -> b.all j \/ w.heap.size <= j) /\ Ext b.all w w' /\ TSys w' b' x N first size k L q T
theorem allocs4 (w : World) (o1 o2 o3 o4 : Obj) : Below w.heap.size w ((((w.alloc o1).alloc o2).alloc o3).alloc o4) /\ ((((w.alloc o1).alloc o2).alloc o3).alloc o4).heap[w.heap.size]? = some o1 /\ ((((w.alloc o1).alloc o2).alloc o3).alloc o4).heap[w.heap.size + 1]? = some o2 /\
 ((((w.alloc o1).alloc o2).alloc o3).alloc o4).heap[w.heap.size + 1 + 1]? = some o3 /\ ((((w.alloc o1).alloc o2).alloc o3).alloc o4).heap[w.heap.size + 1 + 1 + 1]? = some o4 /\ ((((w.alloc o1).alloc o2).alloc o3).alloc o4).heap.size = w.heap.size + 4 := by
 obtain ⟨h0, h1, h2, h3⟩ := allocs3 w o1 o2 o3;have hs : (((w.alloc o1).alloc o2).alloc o3).heap.size = w.heap.size + 1 + 1 + 1 := by simp
 generalize ((w.alloc o1).alloc o2).alloc o3 = W at *;have b4 := zQ W o4;have g4 := World.alloc_heap_new W o4;rw [hs] at g4;refine ⟨h0.trans (b4.mono h0.size), zK b4 h1, zK b4 h2, zK b4 h3, g4, by simp [hs]⟩
def TOpenBad (w : World) (b : Bks) (x : Dsk) (N : Nat) (c : Int) (e : Ending) (w' : World) : Prop := e = .returned (.tuple #[.pointer none, .int .i64 c]) /\ wH w b x N w'
theorem records_call (l : Nat) (w : World) : Calls Tryz.prog 50 #[.pointer (some ⟨l, 0, none⟩), .int .u64 0] w λ e w' => e = .returned (.func (.func 90) #[] #[.pointer (some ⟨w.heap.size, 0, none⟩), .pointer (some ⟨w.heap.size + 1, 0, none⟩)]) /\ w' = (w.alloc (.cells #[.pointer (some ⟨l, 0, none⟩)] 71)).alloc (.cells #[.int .u64 0] 28) := by
 go_enter Tryz.func50, Tryz.ntmps50
 go_wp2_with fail
 go_ret
 exact ⟨rfl, rfl⟩
theorem topen_fin {w w2 W W' : World} {b b1 : Bks} {x'' : Dsk} {N'' first size D : Nat} {k : LBk} {L'' : LogS} {q0 : TBk} {T'' : TblS} (hd1 : b1.d = b.d) (ha1 : ∀ j, b1.all j \/ k.all j -> b.all j \/ w.heap.size <= j) (hX1 : Ext b.all w w2) (hl1 : ∀ j, b1.all j \/ k.all j -> j < w2.heap.size)
 (hBW : Below w2.heap.size w2 W) (hq : ∀ j, q0.all j -> w2.heap.size <= j) (hD : W.heap[D]? = some (.deferred (some []))) (hDl : ¬ allB b1 k q0 D) (hDw : w2.heap.size <= D) (h10 : 10 <= w2.heap.size) (hP : xF W b1 k q0 x'' N'' first size L'' T'' W') :
 W'.heap[D]? = some (.deferred (some [])) /\ TOpenOk w b x'' N'' first size L'' T'' (.returned (.tuple #[.pointer (some ⟨q0.t, 0, none⟩), .int .i64 0])) (W'.putObj D (.deferred none)) /\ wH w b x'' N'' (W'.putObj D (.deferred none)) := by
 obtain ⟨b', k', q', hd, hl, ht, ha, hX, hS⟩ := hP;have hDW := zI hD;have hD' := (hX.block D hDW hDl).trans hD;have hXD : Ext (· = D) W' (W'.putObj D (.deferred none)) := Ext.grown (grownBy_putObj' W' D _) λ k e _ => (Option.some.inj e).symm;have hnD : ¬ allB b' k' q' D := λ h => (ha D h).elim hDl λ h => by omega
 have hSf := hS.ext (S := (· = D)) hXD λ j hj => ⟨by omega, λ h => hnD (hj ▸ h)⟩;have hws := hX1.size;have hsW := hBW.size;have hall : ∀ j, allB b1 k q0 j -> b.all j \/ w.heap.size <= j := λ j hj => by
  rcases hj with hj | hj
  . exact ha1 j hj
  . have := hq j hj; exact .inr (by omega)
 have hXf : Ext b.all w (W'.putObj D (.deferred none)) := by
  have e1 : Ext b.all w W := hX1.trans (Ext.of_below (S := b.all) hBW) λ k hk h => h;refine (e1.trans hX λ j hj h => (hall j h).elim id λ h => by omega).trans hXD λ j hj h => by omega
 have hsb : ∀ j, allB b' k' q' j -> b.all j \/ w.heap.size <= j := λ j hj => (ha j hj).elim (hall j) λ h => .inr (by omega);refine ⟨hD', ⟨b', k', q', by rw [ht], hd.trans hd1, by have := hq q0.t (.inl rfl); rw [ht]; omega, hsb, hXf, hSf⟩, b', hd.trans hd1, λ j hj => hsb j (.inl (.inl hj)), hXf, hSf.lsys.sys⟩
structure OpI (w5 : World) (B1 B2 : Nat) (es : List Ent2) (pre : List (Nat × Value)) (W : World) : Prop where
 below : Below B1 w5 W
 len : pre.length <= es.length
 fst : pre.map Prod.fst = (es.take pre.length).map Prod.fst
 rows : ∃ v1 v2, W.heap[B1]? = some (.cells #[v1] 101 (0, 0)) /\ W.heap[B2]? = some (.cells #[v2] 66 (0, 0)) /\ W.ownsRow w5.heap.size 28 1 v1 pre.length (nums (pre.map Prod.fst)) /\ W.ownsRow w5.heap.size 52 1 v2 pre.length (pre.map Prod.snd) /\
  (∀ j, v1.ownBlock = some j -> v2.ownBlock ≠ some j) /\ ∀ (i : Nat) (x : Nat × Value) (e : Ent2), pre[i]? = some x -> es[i]? = some e -> Src W x.2 (u8s e.2) /\ ∀ j, x.2.ownBlock = some j -> w5.heap.size <= j /\ wR W j /\ v1.ownBlock ≠ some j /\ v2.ownBlock ≠ some j
theorem oZ {W W' : World} {row : Option Nat} (hg : W.grownBy W' row) (hr : ∀ r, row = some r -> ∃ o : Obj, W.heap[r]? = some o /\ o.isCells = false) : Ext (λ k => ¬ wR W k) W W' :=
 ⟨hg.os, hg.tape, hg.output, hg.size, λ k hk hc => by
  have hc : wR W k := Classical.not_not.1 hc;refine hg.block k hk λ e => ?_;obtain ⟨o, ho, h1⟩ := hc;obtain ⟨o2, h2, h3⟩ := hr k e.symm;rw [ho] at h2;injection h2 with h2;subst h2;rw [h1] at h3
  cases h3⟩
theorem opI_own {w5 : World} {B1 B2 : Nat} {es : List Ent2} (hB : B1 <= w5.heap.size) : OwnFrom w5.heap.size (OpI w5 B1 B2 es) := by
 rintro pre A B row ⟨h1, h2, h3, v1, v2, k1, k2, k3, k4, k5, k6⟩ hg hr;have hX := oZ hg λ r e => (hr r e).2;have hc1 : wR A B1 := ⟨_, k1, rfl⟩;have hc2 : wR A B2 := ⟨_, k2, rfl⟩;refine ⟨⟨hg.os.trans h1.os, hg.tape.trans h1.tape, hg.output.trans h1.output, Nat.le_trans h1.size hg.size, λ k hk => (hg.block k (Nat.lt_of_lt_of_le (Nat.lt_of_lt_of_le hk hB) h1.size) λ e => by have := (hr k e.symm).1; omega).trans (h1.block k hk)⟩, h2, h3, v1, v2, ?_, ?_, ?_, ?_, k5, ?_⟩
 . exact (hX.block _ hc1.lt (λ h => h hc1)).trans k1
 . exact (hX.block _ hc2.lt (λ h => h hc2)).trans k2
 . exact xQ k3 hX λ j hj h => h (sD k3 hj)
 . exact xQ k4 hX λ j hj h => h (sD k4 hj)
 . intro i x e h5 h6;obtain ⟨m1, m2⟩ := k6 i x e h5 h6;refine ⟨xG m1 hX λ j hj h => h (m2 j hj).2.1, λ j hj => ?_⟩;obtain ⟨m3, m4, m5⟩ := m2 j hj;exact ⟨m3, m4.ext hX λ h => h m4, m5⟩
theorem OpI.box {w5 : World} {B1 B2 : Nat} {es : List Ent2} {pre : List (Nat × Value)} {W : World} (h : OpI w5 B1 B2 es pre W) : pK B1 B2 W := by
 obtain ⟨v1, v2, k1, k2, k3, k4, -⟩ := h.rows;exact ⟨⟨v1, _, k1, λ j hj => xD k3 hj⟩, ⟨v2, _, k2, λ j hj => xD k4 hj⟩⟩
theorem yL.keeps {S : Nat -> Nat -> Value -> Prop} {w w' : World} (h : yL S w w') {k : Nat} {o : Obj} (hk : w.heap[k]? = some o) (ho : o.isCells = false) : w'.heap[k]? = some o := by
 rcases h.block k (zI hk) with e | ⟨-, L, L', ty, h1, -⟩
 . exact e.trans hk
 . rw [hk] at h1;injection h1 with h1;subst h1
   cases ho
theorem opI_step {w5 W U w19 w20 w21 : World} {B1 B2 n : Nat} {es : List Ent2} {pre : List (Nat × Value)} {e0 : Ent2} {u v1 v2 v8 v19 : Value} (hB12 : B1 < B2) (hB2 : B2 < w5.heap.size) (hI : OpI w5 B1 B2 es pre W) (k1 : W.heap[B1]? = some (.cells #[v1] 101 (0, 0))) (k2 : W.heap[B2]? = some (.cells #[v2] 66 (0, 0)))
 (k3 : W.ownsRow w5.heap.size 28 1 v1 n (nums (pre.map Prod.fst))) (k4 : W.ownsRow w5.heap.size 52 1 v2 n (pre.map Prod.snd)) (hn : pre.length = n)
 (k6 : ∀ (i : Nat) (x : Nat × Value) (e : Ent2), pre[i]? = some x -> es[i]? = some e -> Src W x.2 (u8s e.2) /\ ∀ j, x.2.ownBlock = some j -> w5.heap.size <= j /\ wR W j /\ v1.ownBlock ≠ some j /\ v2.ownBlock ≠ some j)
 (he0 : es[pre.length]? = some e0) (hxs : Src W u (u8s e0.2)) (hxb : ∀ j, u.ownBlock = some j -> w5.heap.size <= j /\ fF B1 B2 W j) (hU : Below W.heap.size W U) (hr : yL (twoS v1 v2 n (.int .u64 e0.1) u) U w19)
 (hS8 : appV W.heap.size w5.heap.size 28 v1 (nums (pre.map Prod.fst)) (.int .u64 e0.1) v8 w19) (hS19 : appV W.heap.size w5.heap.size 52 v2 (pre.map Prod.snd) u v19 w19) (hd : ∀ j, v8.ownBlock = some j -> v19.ownBlock ≠ some j)
 (hX20 : Ext (· = B1) w19 w20) (hX21 : Ext (· = B2) w20 w21) (t1 : w21.heap[B1]? = some (.cells #[v8] 101 (0, 0))) (t2 : w21.heap[B2]? = some (.cells #[v19] 66 (0, 0))) :
 KeepsFrom w5.heap.size W w21 /\ pJ (pK B1 B2) (fF B1 B2) (λ _ => False) W w21 /\ OpI w5 B1 B2 es (pre ++ [(e0.1, u)]) w21 := by
 have hX : Ext (λ k => k = B1 \/ k = B2 \/ v1.ownBlock = some k \/ v2.ownBlock = some k) W w21 := (((Ext.of_below hU).trans (hr.ext.mono (S' := λ k => k = B1 \/ k = B2 \/ v1.ownBlock = some k \/ v2.ownBlock = some k) λ k _ ⟨j, y, h⟩ => h.elim (λ h => .inr (.inr (.inl h.1))) λ h => .inr (.inr (.inr h.1))) λ _ _ h => h).trans hX20 λ k _ h => .inl h).trans hX21 λ k _ h => .inr (.inl h);have hc1 : w21.cell? ⟨B1, 0, none⟩ = some v8 := by simp [World.cell?, t1]
 have hc2 : w21.cell? ⟨B2, 0, none⟩ = some v19 := by simp [World.cell?, t2]
 have d1 : W.cell? ⟨B1, 0, none⟩ = some v1 := by simp [World.cell?, k1]
 have d2 : W.cell? ⟨B2, 0, none⟩ = some v2 := by simp [World.cell?, k2]
 have o8 : w21.ownsRow w5.heap.size 28 1 v8 ((nums (pre.map Prod.fst)).length + 1) (nums (pre.map Prod.fst) ++ [.int .u64 e0.1]) := xQ (xQ hS8.1 hX20 λ j hj e => by have := (hS8.1.lt j hj).1; omega) hX21 λ j hj e => by have := (hS8.1.lt j hj).1; omega
 have o19 : w21.ownsRow w5.heap.size 52 1 v19 ((pre.map Prod.snd).length + 1) (pre.map Prod.snd ++ [u]) := xQ (xQ hS19.1 hX20 λ j hj e => by have := (hS19.1.lt j hj).1; omega) hX21 λ j hj e => by have := (hS19.1.lt j hj).1; omega
 have hw5 := hI.below.size;have hB1W : B1 < W.heap.size := zI k1;have hB2W : B2 < W.heap.size := zI k2;have hpl : pre.length + 1 <= es.length := (List.getElem?_eq_some_iff.1 he0).1;have keep : ∀ k, wR W k -> k ≠ B1 -> k ≠ B2 -> v1.ownBlock ≠ some k -> v2.ownBlock ≠ some k -> w21.heap[k]? = W.heap[k]? := λ k hk h1 h2 h3 h4 => hX.block k hk.lt λ e => by
  rcases e with e | e | e | e
  . exact h1 e
  . exact h2 e
  . exact h3 e
  . exact h4 e
 have hnew : OpI w5 B1 B2 es (pre ++ [(e0.1, u)]) w21 := by
  refine ⟨?_, by simpa using hpl, ?_, v8, v19, t1, t2, by simpa [tD, xE] using o8, by simpa using o19, hd, λ i x e hx he => ?_⟩
  . refine hI.below.trans ⟨hX.os, hX.tape, hX.output, hX.size, λ k hk => hX.block k (by omega) λ e => ?_⟩;rcases e with e | e | e | e
    . omega
    . omega
    . have := (k3.lt k e).1; omega
    . have := (k4.lt k e).1; omega
  . rw [List.map_append, List.length_append, List.length_singleton, List.take_add_one, he0, List.map_append, hI.fst];rfl
  . have hgo : ∀ (y : Value) (ys : List Value), Src W y ys -> (∀ j, y.ownBlock = some j -> w5.heap.size <= j /\ wR W j /\ v1.ownBlock ≠ some j /\ v2.ownBlock ≠ some j) -> Src w21 y ys /\ ∀ j, y.ownBlock = some j -> w5.heap.size <= j /\ wR w21 j /\ v8.ownBlock ≠ some j /\ v19.ownBlock ≠ some j := λ y ys hs hb => by
     have hno : ∀ j, y.ownBlock = some j -> ¬ (j = B1 \/ j = B2 \/ v1.ownBlock = some j \/ v2.ownBlock = some j) := λ j hj e => by
      obtain ⟨h1, h2, h3, h4⟩ := hb j hj;rcases e with e | e | e | e
      . omega
      . omega
      . exact h3 e
      . exact h4 e
     refine ⟨xG hs hX hno, λ j hj => ?_⟩;obtain ⟨h1, h2, h3, h4⟩ := hb j hj;exact ⟨h1, h2.ext hX (hno j hj), λ e => (hS8.2 j e).elim h3 λ e => by have := h2.lt; omega, λ e => (hS19.2 j e).elim h4 λ e => by have := h2.lt; omega⟩
    rcases Nat.lt_or_ge i pre.length with hl | hl
    . rw [List.getElem?_append_left hl] at hx;obtain ⟨h1, h2⟩ := k6 i x e hx he;exact hgo x.2 _ h1 h2
    . have : i = pre.length := by
       have := (List.getElem?_eq_some_iff.1 hx).1;simp at this;omega
      subst this;rw [List.getElem?_append_right (Nat.le_refl _), Nat.sub_self] at hx;simp at hx;subst hx;rw [he0] at he;injection he with he;subst he;refine hgo u _ hxs λ j hj => ?_;obtain ⟨h1, h2, h3, h4, h5⟩ := hxb j hj;exact ⟨h1, h2, h5 v1 (.inl d1), h5 v2 (.inr d2)⟩
 refine ⟨⟨hX.size, λ k o hk ho hc => ?_⟩, ⟨λ _ => hnew.box, hX.size, λ h0 k hk _ => ?_⟩, hnew⟩
 . have h1 := yL.keeps hr (zK hU ho) hc;have h2 := (hX20.block k (zI h1) (λ e => by omega)).trans h1;exact (hX21.block k (zI h2) (λ e => by omega)).trans h2
 . obtain ⟨h2, h3, h4, h5⟩ := hk;have hkk := keep k h2 h3 h4 (h5 v1 (.inl d1)) (h5 v2 (.inr d2));refine ⟨⟨by obtain ⟨o, h6, h7⟩ := h2; exact ⟨o, hkk.trans h6, h7⟩, h3, h4, λ v hv => ?_⟩, hkk⟩;have hkl := h2.lt;rcases hv with hv | hv
   . rw [hc1] at hv;injection hv with hv;subst hv;exact λ e => (hS8.2 k e).elim (h5 v1 (.inl d1)) λ e => by omega
   . rw [hc2] at hv;injection hv with hv;subst hv;exact λ e => (hS19.2 k e).elim (h5 v2 (.inr d2)) λ e => by omega
theorem build_rec (a : Option Addr) (n c : Nat) (w : World) : (Instr.buildSlice 66 1 #[(0, .slice a n c)]).run Tryz.prog w = .ok (.slice (some ⟨w.heap.size, 0, none⟩) 1 1) (w.alloc (.cells #[.slice a n c] 52)) := by
 kernel_rfl
def OpX (w5 : World) (B1 B2 : Nat) (es : List Ent2) (pre : List (Nat × Value)) (x : Nat × Value) (W : World) : Prop :=
 pK B1 B2 W /\ ∃ e, es[pre.length]? = some e /\ x.1 = e.1 /\ Src W x.2 (u8s e.2) /\ ∀ j, x.2.ownBlock = some j -> w5.heap.size <= j /\ fF B1 B2 W j
theorem opX_own {w5 : World} {B1 B2 : Nat} {es : List Ent2} {pre : List (Nat × Value)} {x : Nat × Value} : OwnFrom w5.heap.size (λ (_ : Unit) W => OpX w5 B1 B2 es pre x W) := by
 rintro - A B row ⟨h0, e, h1, h2, h3, h4⟩ hg hr;have hX := oZ hg λ r e => (hr r e).2;obtain ⟨k1, k2⟩ := (pD B1 B2).grown A B row h0 hg λ r e => (hr r e).2;exact ⟨k1, e, h1, h2, xG h3 hX λ j hj h => h (h4 j hj).2.1, λ j hj => ⟨(h4 j hj).1, (k2 j (h4 j hj).2).1⟩⟩
theorem goes_off {x : Dsk} (h : vC x = true) : (vJ x).off = false := by
 unfold vC at h;simp only [Bool.and_eq_true, Bool.not_eq_true', decide_eq_true_eq] at h;unfold vJ;rw [if_neg (by rw [h.1]; decide), if_neg h.2]
 split
 . exact h.1
 . exact h.1
theorem goesE_zero {x : Dsk} : uO x = 0 ↔ vC x = true := by
 unfold uO
 split
 . rename_i h; simp [h]
 . rename_i h; simp [h]
theorem flushX_off {x : Dsk} (h : vC x = true) : (uC x).off = false := by
 unfold uC;rw [if_pos h];exact goes_off h
theorem layX_off {x : Dsk} {i : Nat} {bs : List Int} (h : layE x i bs = 0) : (layX x i bs).off = false := by
 unfold layE at h;unfold layX
 split
 . rename_i h1;rw [if_pos h1] at h;exact flushX_off (goesE_zero.1 h)
 . rename_i h1;rw [if_neg h1] at h;exact absurd h (by decide)
theorem openR_off {x : Dsk} {first size : Nat} (h : (yT x first size).2.1 = 0) : (yT x first size).1.off = false := by
 have h0 := h;obtain ⟨-, h1, h2, h3, h4⟩ := jD h;have hx : (yT x first size).1 = qU x first size (rB x first size (yS x first size).1) (jE (yS x first size).1) := by rw [h4]
 rw [hx];refine layX_off ?_;have h5 : x.off = false := (jD h0).1;unfold yT at h0;rw [if_neg (by rw [h5]; decide), if_neg h1, if_neg (λ e => e.elim h2 h3)] at h0;exact h0
theorem topen_ok (b : Bks) (x : Dsk) (N first size : Nat) (h1 : 83 <= size) (h2 : first + size <= x.dur.length) (w : World) (h : Sys w b x N) (hN : N <= 1080000000000) (he : (yT x first size).2.1 = 0)
 (es : List Ent2) (ps : List Pr) (css : List (List Chg)) (hv : Nat) (hes : HasRecs (yT x first size).1 first size (yT x first size).2.2 es) (hrec : es.map Prod.snd = wS ps css hv) (hr : yQ (zS ps))
 (hg : ∀ p ∈ ps, zO p.1 /\ zO p.2 /\ 0 < p.1.length /\ p.1.length <= 64 /\ p.2.length <= 1024)
 (hcs : ∀ cs ∈ css, cs ≠ [] /\ cs.length <= 80 /\ ∀ c ∈ cs, c.good = true /\ zO c.key /\ zO c.value /\ c.value.length <= 1024)
 (hcap : ∀ c, CapOf (size - 2) c -> ∀ i, i <= css.length -> zU (allP ps (css.take i)) <= c) (hh : hv <= yF (zU (allP ps css))) :
 Calls Tryz.prog 16 #[.pointer (some ⟨b.d, 0, none⟩), .int .i64 first, .int .i64 size] w λ e w' => ∃ c, CapOf (size - 2) c /\
  if hv = 0 then TOpenOk w b (yT x first size).1 (N + 1) first size (yT x first size).2.2 ⟨c, allP ps css, zU (allP ps css), 0, 0⟩ e w'
  else if (rG (yT x first size).1 first size (yT x first size).2.2 ⟨c, allP ps css, zU (allP ps css), 0, 0⟩ hv ((yT x first size).2.2.starts.getD (yF (zU ps) + css.length) 0)).2.2.2 = 0 then
   TOpenOk w b (rG (yT x first size).1 first size (yT x first size).2.2 ⟨c, allP ps css, zU (allP ps css), 0, 0⟩ hv ((yT x first size).2.2.starts.getD (yF (zU ps) + css.length) 0)).1 (N + 79 * yF (zU (allP ps css)) + 2) first size
    (rG (yT x first size).1 first size (yT x first size).2.2 ⟨c, allP ps css, zU (allP ps css), 0, 0⟩ hv ((yT x first size).2.2.starts.getD (yF (zU ps) + css.length) 0)).2.1
    (rG (yT x first size).1 first size (yT x first size).2.2 ⟨c, allP ps css, zU (allP ps css), 0, 0⟩ hv ((yT x first size).2.2.starts.getD (yF (zU ps) + css.length) 0)).2.2.1 e w'
  else TOpenBad w b (rG (yT x first size).1 first size (yT x first size).2.2 ⟨c, allP ps css, zU (allP ps css), 0, 0⟩ hv ((yT x first size).2.2.starts.getD (yF (zU ps) + css.length) 0)).1 (N + 79 * yF (zU (allP ps css)) + 2)
   (rG (yT x first size).1 first size (yT x first size).2.2 ⟨c, allP ps css, zU (allP ps css), 0, 0⟩ hv ((yT x first size).2.2.starts.getD (yF (zU ps) + css.length) 0)).2.2.2 e w' := by
 have hlim := h.dsk.lim;have HF := zB (tfits_yes b x first size w h.dsk.head hlim h1 h2);have hO := open_any b x N first size (by omega) h2 w h (by omega);obtain ⟨hok, hfl⟩ := openR_ok h.dsk.full h.ok.ok (first := first) (size := size) (by omega) he;have hx1 := openR_off he;unfold vN at hO;simp only [he, if_true] at hO;generalize yT x first size = r at hO he hes hok hfl hx1 ⊢;obtain ⟨x1, c, L1⟩ := r;simp only at hO he hes hok hfl hx1 ⊢;subst he;have hesl : es.length = L1.starts.length := by rw [<- hes.1, List.length_map]
 obtain ⟨K, hK⟩ : ∃ K, yF (zU ps) = K := ⟨_, rfl⟩;have hlen : es.length = K + (css.length + hv) := by
  have := congrArg List.length hrec;rw [List.length_map] at this;rw [this, <- hK];unfold wS;simp only [List.length_append, List.length_map, List.length_range, wP, xA]
 have hshort := hok.short;have HC := zB λ w' => capacity_any (size - 2) (by omega) w';rw [show ((size - 2 : Nat) : Int) = (size : Int) - 2 by omega] at HC;have e1 := IntWalk.i64_in ((size : Int) - 2) (by omega);have hmm := @run_makeMap Tryz.prog;have HO := zB hO;have HH := zB (zC hes (zC hrec (zC hr (zC hg (zC hcs (zC hcap (zC hh (zC hok (zC hfl hx1)))))))));have hKl := hlen;have HK := zB hK;have Hlen := zB (zC hesl hlen);clear h hO hes hrec hr hg hcs hcap hh hok hfl hx1 hlen hesl hK;rw [HK.out];refine (callsIn_wide (n := 3)).1 ?_;refine callsIn_of_wp_marks Tryz.func16 rfl trivial ?_ rfl;simp only [Tryz.ntmps16, List.size_toArray, List.length_cons, List.length_nil, Nat.reduceAdd, Nat.reduceSub, Array.replicate_succ, Array.replicate_zero, List.push_toArray, List.append_toArray, List.nil_append, List.cons_append]
 gi_wp2_with fail
 refine ⟨trivial, callsIn_wide.2 (HF.out.mono ?_)⟩;rintro e w1 ⟨rfl, rfl⟩
 gi_wp2_with fail
 refine ⟨trivial, callsIn_wide.2 (HO.out.mono ?_)⟩;rintro e w2 ⟨b1, k, rfl, hd1, ha1, hX1, hS1⟩;have HS1 := zB (zC hd1 (zC ha1 (zC hX1 hS1)));clear hd1 ha1 hX1 hS1 HO HF
 gi_wp2_with fail
 refine ⟨trivial, callsIn_wide.2 ((HC.out _).mono ?_)⟩;rintro e w3 ⟨c, rfl, hC, hB3⟩;have HB3 := zB (zC hC hB3);clear hC hB3 HC
 gi_wp2_with fail
 obtain ⟨hb4, g0, g1, g2, g3, hs4⟩ := allocs4 w3 (.map #[] 0) (.cells #[.pointer (some ⟨b.d, 0, none⟩), .pointer (some ⟨k.l, 0, none⟩), .int .i64 c, .map (some w3.heap.size), .slice none 0 0, .int .i64 0, .int .i64 0, .int .i64 0] 75) (.cells #[.slice none 0 0] 101) (.cells #[.slice none 0 0] 66);obtain ⟨w4, hw4⟩ : ∃ w4, ((((w3.alloc (.map #[] 0)).alloc (.cells #[.pointer (some ⟨b.d, 0, none⟩), .pointer (some ⟨k.l, 0, none⟩), .int .i64 c, .map (some w3.heap.size), .slice none 0 0, .int .i64 0, .int .i64 0, .int .i64 0] 75)).alloc (.cells #[.slice none 0 0] 101)).alloc (.cells #[.slice none 0 0] 66)) = w4 := ⟨_, rfl⟩;rw [hw4] at hb4 g0 g1 g2 g3 hs4 ⊢;clear hw4 hmm;refine ⟨trivial, callsIn_wide.2 ((records_call k.l w4).mono ?_)⟩;rintro e w5 ⟨rfl, rfl⟩
 gi_wp2_with fail
 have hb5 := qV w4 (.cells #[.pointer (some ⟨k.l, 0, none⟩)] 71) (.cells #[.int .u64 0] 28);rw [hs4] at hb5;obtain ⟨hb5, g5, g6⟩ := hb5;obtain ⟨w5, hw5⟩ : ∃ w5, (w4.alloc (.cells #[.pointer (some ⟨k.l, 0, none⟩)] 71)).alloc (.cells #[.int .u64 0] 28) = w5 := ⟨_, rfl⟩;have hs5 : w5.heap.size = w3.heap.size + 6 := by rw [<- hw5]; simp [hs4]
 rw [hw5] at hb5 g5 g6 ⊢;have hb5 : Below w4.heap.size w4 w5 := by rw [hs4]; exact hb5
 have k1 := zK hb5 g1;have k2 := zK hb5 g2;have k3 := zK hb5 g3;have hB35 := hb4.trans (hb5.mono hb4.size);have hB25 := HB3.out.2.trans (hB35.mono HB3.out.2.size);have hS5 := HS1.out.2.2.2.below hB25;have hI0 : OpI w5 (w3.heap.size + 1 + 1) (w3.heap.size + 1 + 1 + 1) es [] w5 := ⟨Below.refl _ _, Nat.zero_le _, rfl, _, _, k2, k3, World.ownsRow_nil _ _ _ _, World.ownsRow_nil _ _ _ _, λ j hj => (by cases hj), λ i x e hx => (by simp at hx)⟩;have hX0 : pK (w3.heap.size + 1 + 1) (w3.heap.size + 1 + 1 + 1) w5 := ⟨⟨_, _, k2, λ j hj => (by cases hj)⟩, ⟨_, _, k3, λ j hj => (by cases hj)⟩⟩;have HI0 := zB (zC hI0 (zC hX0 (zC k1 (zC hB25 (zC hB35 (zC hS5 (zC hs4 hs5)))))));have Hg := zB (zC (zK hb5 g0) (zC g5 g6));clear hI0 hX0 k1 k2 k3 hB25 hB35 hS5 g0 g1 g2 g3 g5 g6 hb5 hb4 hw5 hs4 hs5;have c5 : w5.cell? ⟨w3.heap.size + 4, 0, none⟩ = some (.pointer (some ⟨k.l, 0, none⟩)) := by have := Hg.out.2.1; simp [World.cell?, this]
 have c6 : w5.cell? ⟨w3.heap.size + 4 + 1, 0, none⟩ = some (.int .u64 0) := by have := Hg.out.2.2; simp [World.cell?, this]
 have hseq := records_seq 2 b1 x1 (N + 1) first size k L1 es w5 HI0.out.2.2.2.2.2.1 HH.out.2.2.2.2.2.2.2.1.rise HH.out.2.2.2.2.2.2.2.1.short HH.out.2.2.2.2.2.2.2.2.1 HH.out.2.2.2.2.2.2.2.2.2 (λ n hn => by have h1 := (HH.out.2.2.2.2.2.2.2.1.low n hn).2; have h2 := HH.out.2.2.2.2.2.2.2.1.next; omega) HH.out.1 (w3.heap.size + 4) (w3.heap.size + 4 + 1) c5 c6
  (pK (w3.heap.size + 1 + 1) (w3.heap.size + 1 + 1 + 1)) (fF (w3.heap.size + 1 + 1) (w3.heap.size + 1 + 1 + 1)) (pD _ _) HI0.out.2.1
 have hB1 : w3.heap.size + 1 + 1 <= w5.heap.size := by have := HI0.out.2.2.2.2.2.2.2; omega
 have HB1 := zB hB1;clear c5 c6 hB1;generalize hA0 : Act.mk _ [] = a0;refine jK (F := Fence.wide) rfl (by decide) (gf := 90) (lb := #[.pointer (some ⟨w3.heap.size + 4, 0, none⟩), .pointer (some ⟨w3.heap.size + 4 + 1, 0, none⟩)]) (by subst hA0; rfl) trivial (enters_of Tryz.func90 (by kernel_rfl) rfl) hseq (λ h k => h.trans k) (λ x W l o o' h1 h2 h3 h4 => pJ.putObj (pD _ _) W l o o' h2 h3) (Below.refl _ _) (λ _ => rfl)
  (OpI w5 (w3.heap.size + 1 + 1) (w3.heap.size + 1 + 1 + 1) es) (λ c pre W => False) (opI_own HB1.out) (λ c pre A B row hs hg hr => hs) HI0.out.1
  (λ pre x a' W => a' = { tmps := (((a0.tmps.setIfInBounds 42 (.int .u64 x.1)).setIfInBounds 43 x.2).setIfInBounds 13 (.int .u64 x.1)).setIfInBounds 14 x.2, defers := [] } /\ OpX w5 (w3.heap.size + 1 + 1) (w3.heap.size + 1 + 1 + 1) es pre x W)
  (λ pre x a' u A B row hs hg hr => ⟨hs.1, opX_own u A B row hs.2 hg hr⟩) ?assign ?body ?done ?stop
 case assign =>
  rintro l pre x W K hI hok hK;subst hA0
  gi_wp2_with fail
  exact hK _ _ (KeepsFrom.refl _ _) (pJ.refl _) hI ⟨rfl, hI.box, by obtain ⟨e, q1, q2, q3, q4⟩ := hok; exact ⟨e, q1, q2, q3, λ j hj => ⟨(q4 j hj).1, (q4 j hj).2.2⟩⟩⟩
 case body =>
  rintro l pre x a' W hl ⟨r, hr⟩ hI ⟨rfl, hX⟩;subst hA0;simp only [List.setIfInBounds_toArray, List.set_cons_succ, List.set_cons_zero];obtain ⟨n, hn⟩ : ∃ n, pre.length = n := ⟨_, rfl⟩;obtain ⟨-, e0, he0, hx1, hxs, hxb⟩ := hX;obtain ⟨v1, v2, k1, k2, k3, k4, k5, k6⟩ := hI.rows;rw [hn] at k3 k4;obtain ⟨a1, m1, rfl, -⟩ := zP k3;obtain ⟨a2, m2, rfl, -⟩ := zP k4;obtain ⟨ax, mx, hxv, -⟩ := hxs.shape;obtain ⟨x1', x2'⟩ := x;simp only at hx1 hxs hxb hxv;subst hxv;subst hx1;obtain ⟨u, hu⟩ : ∃ u : Value, u = .slice ax (u8s e0.2).length mx := ⟨_, rfl⟩;rw [<- hu] at hxs hxb ⊢;dsimp only;have hu1 : u.oneCell' = true := by rw [hu]; rfl
  have Hu := zB hu;clear hu;have hz5 : w5.heap.size = w3.heap.size + 6 := HI0.out.2.2.2.2.2.2.2;have hlt1 : ∀ j, (Value.slice a1 n m1).ownBlock = some j -> j < W.heap.size := λ j hj => xD k3 hj;have hlt2 : ∀ j, (Value.slice a2 n m2).ownBlock = some j -> j < W.heap.size := λ j hj => xD k4 hj;have hbx1 : (Value.slice a1 n m1).ownBlock ≠ some (w3.heap.size + 1 + 1) /\ (Value.slice a1 n m1).ownBlock ≠ some (w3.heap.size + 1 + 1 + 1) := ⟨λ e => by have := (k3.lt _ e).1; omega, λ e => by have := (k3.lt _ e).1; omega⟩;have hbx2 : (Value.slice a2 n m2).ownBlock ≠ some (w3.heap.size + 1 + 1) /\ (Value.slice a2 n m2).ownBlock ≠ some (w3.heap.size + 1 + 1 + 1) := ⟨λ e => by have := (k4.lt _ e).1; omega, λ e => by have := (k4.lt _ e).1; omega⟩;have hn6 : n <= 65536 := by have h1 := hI.len; have h2 := Hlen.out.1; omega
  have hnl1 : (nums (pre.map Prod.fst)).length = n := by rw [xE, List.length_map, hn]
  have hnl2 : (pre.map Prod.snd).length = n := by rw [List.length_map, hn]
  have hw5W : w5.heap.size <= W.heap.size := hI.below.size;have HK := zB (zC k1 (zC k2 (zC k3 (zC k4 (zC k5 (zC k6 (zC hxs (zC hxb (zC hI he0)))))))));have Hn := zB hn;clear k1 k2 k3 k4 k5 k6 hxs hxb hI he0
  gi_wp2_with fail
  refine kS (vF (twoS (.slice a1 n m1) (.slice a2 n m2) n (.int .u64 e0.1) u)) 9 [] (λ i => if i = 2 then some (λ _ => oneV W.heap.size (.int .u64 e0.1)) else if i = 3 then some (λ _ => appV W.heap.size w5.heap.size 28 (.slice a1 n m1) (nums (pre.map Prod.fst)) (.int .u64 e0.1)) else if i = 6 then some (λ _ => oneV W.heap.size u) else if i = 7 then some (λ sn v w => appV W.heap.size w5.heap.size 52 (.slice a2 n m2) (pre.map Prod.snd) u v w /\ ∀ j, (sn 47).ownBlock = some j -> v.ownBlock ≠ some j) else none) (λ _ => True) (λ _ _ => True) fol (by kernel_rfl) (λ _ _ _ _ _ => trivial) (λ U hU hh => ?_);clear hh;have q1 := uJ (S := twoS (.slice a1 n m1) (.slice a2 n m2) n (.int .u64 e0.1) u) (p := ⟨w3.heap.size + 1 + 1, 0, none⟩) (zG hU (show W.cell? ⟨w3.heap.size + 1 + 1, 0, none⟩ = some (.slice a1 n m1) by have := HK.out.1; simp [World.cell?, this])) (pP hbx1.1 hbx2.1);have q2 := uJ (S := twoS (.slice a1 n m1) (.slice a2 n m2) n (.int .u64 e0.1) u) (p := ⟨w3.heap.size + 1 + 1 + 1, 0, none⟩) (zG hU (show W.cell? ⟨w3.heap.size + 1 + 1 + 1, 0, none⟩ = some (.slice a2 n m2) by have := HK.out.2.1; simp [World.cell?, this])) (pP hbx1.2 hbx2.2);have HSZ := zB hU.size;simp only [fT]
  repeat ((first | refine rxM ?_ | refine rxF ?_ | (refine vA (by first | exact .inl rfl | exact .inr rfl) rfl ?_)); simp only [zD])
  refine xV _ rfl (oneV_stab hlt1 hlt2 _) rfl (λ w1 hr1 hf1 => ?_) (λ v7 w7 hr7 hS7 => ?_)
  . exact xT (xO 101 1 (.tmp 45) rfl (nF e0.1 w1)) ⟨yL.of_below (zQ _ _), _, rfl, Nat.le_trans HSZ.out hr1.size, yV (World.alloc_heap_new _ _) 0 _ rfl⟩
  obtain ⟨g7, rfl, hg7, hc7⟩ := hS7;simp only [zD];refine xV _ rfl (appV_stab1 hlt1 hlt2 HK.out.2.2.2.2.1 hnl1) rfl (λ w1 hr1 hf1 => ?_) (λ v8 w8 hr8 hS8 => ?_)
  . have h7 : oneV W.heap.size (.int .u64 e0.1) (.slice (some ⟨g7, 0, none⟩) 1 1) w1 := hf1 46 (.inl (by decide)) (by simp);obtain ⟨g7', e7, -, hc7'⟩ := h7;injection e7 with e7;injection e7 with e7;injection e7 with e7;subst e7;have hrow : w1.ownsRow w5.heap.size 28 1 (.slice a1 n m1) n (nums (pre.map Prod.fst)) := yL.owns hr1 (yA HK.out.2.2.1 hU) λ g j y hg hs => by
     rcases hs with ⟨-, rfl, -⟩ | ⟨h4, -⟩
     . left; omega
     . exact absurd h4 (HK.out.2.2.2.2.1 g hg)
    obtain ⟨v', w', r1, r2, r3, r4⟩ := app_u64 w1 w5.heap.size (.slice a1 n m1) n _ hrow (by omega) g7 1 _ hc7' rfl (Nat.le_trans hw5W (Nat.le_trans HSZ.out hr1.size)) 101;refine xT (yM (.tmp 44) (.tmp 46) 101 101 rfl r1) ⟨r3.mono λ k j y h => .inl h, by rw [hnl1]; exact r2, λ j hj => (r4 j hj).imp id λ h => Nat.le_trans HSZ.out (Nat.le_trans hr1.size h)⟩
  simp only [zD]
  repeat ((first | refine rxM ?_ | refine rxF ?_ | (refine vA (by first | exact .inl rfl | exact .inr rfl) rfl ?_)); simp only [zD])
  refine xV _ rfl (oneV_stab hlt1 hlt2 _) rfl (λ w1 hr1 hf1 => ?_) (λ v18 w18 hr18 hS18 => ?_)
  . have hbu : (Instr.buildSlice 66 1 #[(0, u)]).run Tryz.prog w1 = .ok (.slice (some ⟨w1.heap.size, 0, none⟩) 1 1) (w1.alloc (.cells #[u] 52)) := by rw [Hu.out]; exact build_rec _ _ _ w1
    exact xT (xO 66 1 (.tmp 49) rfl hbu) ⟨yL.of_below (zQ _ _), _, rfl, Nat.le_trans HSZ.out hr1.size, yV (World.alloc_heap_new _ _) 0 _ rfl⟩
  obtain ⟨g18, rfl, hg18, hc18⟩ := hS18;simp only [zD];refine xV _ rfl (appV_stab2 hlt1 hlt2 HK.out.2.2.2.2.1 hnl2 _) rfl (λ w1 hr1 hf1 => ?_) (λ v19 w19 hr19 hS19 => ?_)
  . have h7 : oneV W.heap.size u (.slice (some ⟨g18, 0, none⟩) 1 1) w1 := hf1 50 (.inl (by decide)) (by simp);have h8 : appV W.heap.size w5.heap.size 28 (.slice a1 n m1) (nums (pre.map Prod.fst)) (.int .u64 e0.1) v8 w1 := hf1 47 (.inr (by decide)) (by simp);obtain ⟨g7', e7, -, hc7'⟩ := h7;injection e7 with e7;injection e7 with e7;injection e7 with e7;subst e7;have hrow : w1.ownsRow w5.heap.size 52 1 (.slice a2 n m2) n (pre.map Prod.snd) := yL.owns hr1 (yA HK.out.2.2.2.1 hU) λ g j y hg hs => by
     rcases hs with ⟨h4, -⟩ | ⟨-, rfl, -⟩
     . exact absurd hg (HK.out.2.2.2.2.1 g h4)
     . left; omega
    obtain ⟨v', w', r1, r2, r3, r4⟩ := app_rec w1 w5.heap.size (.slice a2 n m2) n _ hrow (by omega) g18 1 _ hc7' hu1 (Nat.le_trans hw5W (Nat.le_trans HSZ.out hr1.size)) 66;refine xT (yM (.tmp 48) (.tmp 50) 66 66 rfl r1) ⟨r3.mono λ k j y h => .inr h, ⟨by rw [hnl2]; exact r2, λ j hj => (r4 j hj).imp id λ h => Nat.le_trans HSZ.out (Nat.le_trans hr1.size h)⟩, ?_⟩;rw [uQ (t := 47) (v := v8) ?s1 ?s2]
    case s1 => exact .inr (by decide)
    case s2 => rfl
    intro j hj hj2;have hlt8 := xD h8.1 hj;rcases r4 j hj2 with h | h
    . rcases h8.2 j hj with h9 | h9
      . exact HK.out.2.2.2.2.1 j h9 h
      . have := hlt2 j h; omega
    . omega
  rw [uQ (t := 47) (v := v8) ?s1 ?s2] at hS19
  case s1 => exact .inr (by decide)
  case s2 => rfl
  obtain ⟨hS19, hd19⟩ := hS19;have hrW := (vF (twoS (.slice a1 n m1) (.slice a2 n m2) n (.int .u64 e0.1) u)).trans hr7 ((vF (twoS (.slice a1 n m1) (.slice a2 n m2) n (.int .u64 e0.1) u)).trans hr8 ((vF (twoS (.slice a1 n m1) (.slice a2 n m2) n (.int .u64 e0.1) u)).trans hr18 hr19));have hS8' := appV_stab1 hlt1 hlt2 HK.out.2.2.2.2.1 hnl1 v8 _ _ hS8 ((vF (twoS (.slice a1 n m1) (.slice a2 n m2) n (.int .u64 e0.1) u)).trans hr18 hr19);have z1 := yL.heap hrW (zK hU HK.out.1) (pP hbx1.1 hbx2.1);have z2 := yL.heap hrW (zK hU HK.out.2.1) (pP hbx1.2 hbx2.2);have zf1 : w19.frozen? ⟨w3.heap.size + 1 + 1, 0, none⟩ = false := by simp [World.frozen?, z1]
  have zc1 : w19.cell? ⟨w3.heap.size + 1 + 1, 0, none⟩ = some (.slice a1 n m1) := by simp [World.cell?, z1]
  obtain ⟨a8, m8, rfl, -⟩ := zP hS8'.1;obtain ⟨a19, m19, rfl, -⟩ := zP hS19.1;simp only [zD];refine sZ (λ _ w' => w' = w19.setCell ⟨w3.heap.size + 1 + 1, 0, none⟩ (.slice a8 ((nums (pre.map Prod.fst)).length + 1) m8)) _ rfl rfl ?_ ?_
  . clear hr8 hr18 hr19 hrW hS8' hS19 q1 q2
    (unfold yE; go_simp; simp only [zN])
  rintro v22 w22 - rfl;simp only [zD];refine oJ ?_;have hX20 : Ext (· = w3.heap.size + 1 + 1) w19 (w19.setCell ⟨w3.heap.size + 1 + 1, 0, none⟩ (.slice a8 ((nums (pre.map Prod.fst)).length + 1) m8)) := Ext.setCell (S := (· = w3.heap.size + 1 + 1)) (p := ⟨w3.heap.size + 1 + 1, 0, none⟩) rfl _;have t1 := yB (j := 0) z1 (.slice a8 ((nums (pre.map Prod.fst)).length + 1) m8);have t2 := (hX20.block _ (zI z2) (by omega)).trans z2;have H20 := zB (zC hX20 (zC t1 t2));have HSS := zB (zC hS8' (zC hS19 (zC hd19 hrW)));clear hX20 t1 hS8' hS19 hd19 hrW zf1 zc1 z1 z2 hS8 hr7 hr8 hr18 hr19 q1 q2 hc7 hc18;generalize w19.setCell ⟨w3.heap.size + 1 + 1, 0, none⟩ (.slice a8 ((nums (pre.map Prod.fst)).length + 1) m8) = w20 at H20 t2 ⊢;have zf2 : w20.frozen? ⟨w3.heap.size + 1 + 1 + 1, 0, none⟩ = false := by simp [World.frozen?, t2]
  have zc2 : w20.cell? ⟨w3.heap.size + 1 + 1 + 1, 0, none⟩ = some (.slice a2 n m2) := by simp [World.cell?, t2]
  have hX21 : Ext (· = w3.heap.size + 1 + 1 + 1) w20 (w20.setCell ⟨w3.heap.size + 1 + 1 + 1, 0, none⟩ (.slice a19 ((pre.map Prod.snd).length + 1) m19)) := Ext.setCell (S := (· = w3.heap.size + 1 + 1 + 1)) (p := ⟨w3.heap.size + 1 + 1 + 1, 0, none⟩) rfl _;have t3 := yB (j := 0) t2 (.slice a19 ((pre.map Prod.snd).length + 1) m19);have t4 := (hX21.block _ (zI H20.out.2.1) (by omega)).trans H20.out.2.1;have H21 := zB (zC hX21 (zC t3 t4));clear hX21 t3 t4 t2
  gi_wp2_with fail
  rw [hnl2] at H21;have h19 := HSS.out.2.1;have hd19 := HSS.out.2.2.1;rw [hnl2] at h19 hd19;exact opI_step (by omega) (by have := HI0.out.2.2.2.2.2.2.2; omega) HK.out.2.2.2.2.2.2.2.2.1 HK.out.1 HK.out.2.1 HK.out.2.2.1 HK.out.2.2.2.1 Hn.out HK.out.2.2.2.2.2.1 HK.out.2.2.2.2.2.2.2.2.2 HK.out.2.2.2.2.2.2.1 HK.out.2.2.2.2.2.2.2.1 hU HSS.out.2.2.2 HSS.out.1 h19 hd19 H20.out.1 H21.out.1 H21.out.2.2 H21.out.2.1
 case stop =>
  rintro D c pre W hD hpre h;exact h.elim
 case done =>
  rintro D zs W hD hS hI hK;subst hA0;have hz : zs.length = es.length := by have := congrArg List.length hS; simpa using this
  have hz5 : w5.heap.size = w3.heap.size + 6 := HI0.out.2.2.2.2.2.2.2;have hw23 := HB3.out.2.size;have hBW : Below w2.heap.size w2 W := HI0.out.2.2.2.1.trans (hI.below.mono (by omega));have hLS := HS1.out.2.2.2.below hBW;have hl2 := HS1.out.2.2.2.lt;obtain ⟨v1, v2, k1, k2, k3, k4, k5, k6⟩ := hI.rows;rw [hz, Hlen.out.2] at k3 k4;have gt := (hI.below.block _ (by omega)).trans HI0.out.2.2.1;have gm := (hI.below.block _ (by omega : w3.heap.size < w3.heap.size + 1 + 1)).trans Hg.out.1;obtain ⟨q0, hq0⟩ : ∃ q0 : TBk, q0 = ⟨w3.heap.size + 1, w3.heap.size, .slice none 0 0, λ _ => .slice none 0 0⟩ := ⟨_, rfl⟩;have hqa : ∀ j, q0.all j -> j = w3.heap.size + 1 \/ j = w3.heap.size := λ j hj => by
   rw [hq0] at hj;rcases hj with h | h | h | ⟨i, h⟩
   . exact .inl h
   . exact .inr h
   . cases h
   . cases h
  have hqt : q0.t = w3.heap.size + 1 := by rw [hq0]
  have hT0 : sH W b1.d k.l q0 ⟨c, [], 0, 0, 0⟩ := by
   rw [HS1.out.1];subst hq0;exact { cells := gt, keys := World.ownsRow_nil _ _ _ _, map := PMap.new gm, vals := λ p hp => (by cases hp), rise := .nil, good := λ p hp => (by cases hp), ne1 := ⟨by simp, λ j hj => (by cases hj)⟩, ne2 := λ i j hj => (by cases hj) }
  obtain ⟨a2, m2, hv2, hm2, -⟩ := zP k4;have hrl : (wS ps css hv).length = K + (css.length + hv) := by rw [<- HH.out.2.1, List.length_map, Hlen.out.2]
  have hrecs : nH W q0.all v2 (wS ps css hv) := by
   refine ⟨a2, m2, by rw [hrl]; exact hv2, λ i rec hi => ?_⟩;rw [<- HH.out.2.1, List.getElem?_map] at hi;obtain ⟨e, he, rfl⟩ := Option.map_eq_some_iff.1 hi;have hil := (List.getElem?_eq_some_iff.1 he).1;obtain ⟨x, hx⟩ : ∃ x, zs[i]? = some x := ⟨_, List.getElem?_eq_getElem (by rw [hz]; exact hil)⟩;obtain ⟨h1, h2⟩ := k6 i x e hx he;have hn1 : 0 < K + (css.length + hv) := by omega
   obtain ⟨g, cp, hv3, hg1, -, -, -, hcl, -⟩ := xB k4 hn1;have hcc := hcl i (by omega);rw [List.getElem?_map, hx] at hcc;rw [hv3] at hv2;injection hv2 with hv2;refine ⟨g, 0, x.2, hv2.symm, by rw [Nat.zero_add]; exact hcc, h1, λ h => ?_, λ j hj => ⟨(h2 j hj).2.1.lt, λ h => ?_⟩⟩
   . have := hqa g h; omega
   . have h3 := hqa j h;have := (h2 j hj).1;omega
  have hTS : TSys W b1 x1 (N + 1) first size k L1 q0 ⟨c, [], 0, 0, 0⟩ := ⟨hLS, hT0, λ j hj => by
   have h3 := hqa j hj;exact ⟨λ e => by have := hl2 j (.inl e); omega, λ e => by have := hl2 j (.inr e); omega⟩, λ j hj => by
   have h3 := hqa j hj;have := HS1.out.2.2.2.sys.pkg.lt;omega⟩
  have hRP := replay_any b1.d k.l q0 ⟨c, [], 0, 0, 0⟩ v2 ps css hv W hT0 ⟨rfl, rfl⟩ (by have := HB3.out.1.le; show c <= _; omega) HH.out.2.2.1 HH.out.2.2.2.1 HH.out.2.2.2.2.1 (HH.out.2.2.2.2.2.1 c HB3.out.1) (by have := Hlen.out.1; omega) HH.out.2.2.2.2.2.2.1 hrecs (λ a' n' c' e => by rw [hv2] at e; injection e with e4 e5 e6; omega);rw [HK.out, hqt] at hRP;rw [hv2] at k2 hRP;have x2 : W.cell? ⟨w3.heap.size + 1 + 1 + 1, 0, none⟩ = some (.slice a2 (K + (css.length + hv)) m2) := by simp [World.cell?, k2]
  have HRP := zB hRP;have HD := zB (zC hK (zC hTS (zC k1 (zC k3 (zC hI.below hqa)))));have HSz := zB hS;clear hRP hTS hT0 hrecs hLS k1 k2 k3 k4 k5 k6 hI hK gt gm hS;have hDno : ¬ allB b1 k q0 D := λ h => by
   rcases h with h | h
   . have := hl2 D h; omega
   . have := hqa D h; omega
  have h10 : 10 <= w2.heap.size := HS1.out.2.2.2.sys.pkg.lt;have hHS := HS1.out.2.1;have HFIN := zB λ (x'' : Dsk) (N'' : Nat) (L'' : LogS) (T'' : TblS) (W' : World) hP => topen_fin (x'' := x'') (N'' := N'') (first := first) (size := size) (L'' := L'') (T'' := T'') (W' := W') HS1.out.1 HS1.out.2.1 HS1.out.2.2.1 hl2 hBW (λ j hj => by have := hqa j hj; omega) HD.out.1 hDno (by omega) h10 hP;rcases Nat.eq_zero_or_pos hv with hv0 | hv0
  . subst hv0
    gi_wp2_with fail
    refine ⟨trivial, callsIn_wide.2 (HRP.out.mono ?_)⟩;rintro e W2 ⟨rfl, hP⟩;have hF := HFIN.out _ _ _ _ W2 (HD.out.2.1.tabled hP);have HF := zB hF;clear hF hP
    gi_wp2_with fail
    refine ⟨by simp, .inl ⟨_, _, rfl, run_takeDeferred HF.out.1, ?_⟩⟩;refine ⟨.tuple #[.pointer (some ⟨w3.heap.size + 1, 0, none⟩), .int .i64 0], by simp [results, Tryz.f16, go_sem], ?_⟩;refine ⟨c, HB3.out.1, ?_⟩;rw [<- hqt];exact HF.out.2.1
  . have hne : hv ≠ 0 := by omega
    have hv1 : (0 : Int) < (hv : Int) := by omega
    gi_wp2_with fail
    refine ⟨trivial, callsIn_wide.2 (HRP.out.mono ?_)⟩;rintro e W2 ⟨rfl, hP⟩;have hTP := HD.out.2.1.tabled hP;have hXq := (show vX W b1.d k.l q0 _ _ W2 from hP);obtain ⟨qx, -, -, -, hXq, -⟩ := hXq;have hB1q : ¬ q0.all (w3.heap.size + 1 + 1) := λ h => by have := hqa _ h; omega
    have hnb : ∀ j, w5.heap.size <= j -> ¬ q0.all j := λ j hj h => by have := hqa _ h; omega
    have n1 := hXq.heap HD.out.2.2.1 hB1q;have n3 := xQ HD.out.2.2.2.1 hXq λ j hj => hnb j (HD.out.2.2.2.1.lt j hj).1;obtain ⟨ag, mg, hv1e, -, -, -, -, hcn, -⟩ := xB n3 (by omega);have hcx := hcn (K + css.length) (by omega);clear hcn;have hst : L1.starts[K + css.length]? = some (L1.starts.getD (K + css.length) 0) := by
     have h3 : K + css.length < L1.starts.length := by have h4 := Hlen.out.1; omega
     rw [List.getD_eq_getElem?_getD, List.getElem?_eq_getElem h3];rfl
    have hzst : zs.map Prod.fst = L1.starts := (show zs.map Prod.fst = es.map Prod.fst from HSz.out).trans HH.out.1.1;rw [hzst, iQ hst] at hcx;have hnl : L1.starts.getD (K + css.length) 0 <= 9223372036854775807 := by
     have h3 := (HH.out.2.2.2.2.2.2.2.1.low _ (List.mem_of_getElem? hst)).2;have h4 := HH.out.2.2.2.2.2.2.2.1.next;omega
    obtain ⟨nn, hnn⟩ : ∃ m, L1.starts.getD (K + css.length) 0 = m := ⟨_, rfl⟩;rw [hnn] at hcx hnl;have HNN := zB (show L1.starts[K + css.length]?.getD 0 = nn by rw [<- List.getD_eq_getElem?_getD]; exact hnn);rw [hv1e] at n1;have x1c : W2.cell? ⟨w3.heap.size + 1 + 1, 0, none⟩ = some (.slice (some ⟨ag, 0, none⟩) (K + (css.length + hv)) mg) := by simp [World.cell?, n1]
    have hnat : ((K : Int) + (css.length : Int)).toNat = K + css.length := by omega
    have hKn0 : (0 : Int) <= (K : Int) + (css.length : Int) := by omega
    have hKn : (K : Int) + (css.length : Int) < (K : Int) + ((css.length : Int) + (hv : Int)) := by omega
    obtain ⟨b2, k2, q2, hd2, hl2', ht2, ha2, hX2, hS2⟩ := hTP;have hliv := HH.out.2.2.2.2.2.1 c HB3.out.1 css.length (Nat.le_refl _);rw [List.take_length] at hliv;have hcle := HB3.out.1.le;have hck := mD b2 x1 (N + 1) first size k2 L1 q2 ⟨c, allP ps css, zU (allP ps css), 0, 0⟩ hv nn W2 hS2 rfl (show zU (allP ps css) <= 1073741824 by omega) HH.out.2.2.2.2.2.2.2.1 (by omega) HH.out.2.2.2.2.2.2.1 hnl;obtain ⟨r, hr⟩ : ∃ r, rG x1 first size L1 ⟨c, allP ps css, zU (allP ps css), 0, 0⟩ hv nn = r := ⟨_, rfl⟩;rw [hr, ht2, hqt] at hck;have HCK := zB hck;have H2 := zB (zC hd2 (zC hl2' (zC ht2 (zC ha2 (zC hX2 (zC hr hliv))))));clear hck hd2 hl2' ht2 ha2 hX2 hS2 hr hliv hst hnn hzst n1 n3 hXq hP hB1q hnb hcle hnl
    gi_wp2_with fail
    refine ⟨trivial, callsIn_wide.2 (HCK.out.mono ?_)⟩;rintro e W3 ⟨rfl, hP3⟩;obtain ⟨r1, r2, r3, r4⟩ := r;have hF := HFIN.out _ _ _ _ W3 (xF.trans H2.out.1 H2.out.2.1 H2.out.2.2.1 H2.out.2.2.2.1 H2.out.2.2.2.2.1 hP3);have HF := zB hF;clear hF hP3;have hrr := zB H2.out.2.2.2.2.2.1;by_cases hr4 : r4 = 0
    . subst hr4
      gi_wp2_with fail
      refine ⟨by simp, .inl ⟨_, _, rfl, run_takeDeferred HF.out.1, ?_⟩⟩;refine ⟨.tuple #[.pointer (some ⟨w3.heap.size + 1, 0, none⟩), .int .i64 0], by simp [results, Tryz.f16, go_sem], ?_⟩;refine ⟨c, HB3.out.1, ?_⟩;rw [HNN.out, hrr.out, if_pos rfl, <- hqt];have h9 := HF.out.2.1;rw [show N + 79 * yF (zU (allP ps css)) + 2 = N + 1 + 79 * yF (zU (allP ps css)) + 1 by omega];exact h9
    . have hnb4 : (r4 != 0) = true := by rw [bne, beq_eq_false_iff_ne.2 hr4]; rfl
      gi_wp2_with fail
      refine ⟨by simp, .inl ⟨_, _, rfl, run_takeDeferred HF.out.1, ?_⟩⟩;refine ⟨.tuple #[.pointer none, .int .i64 r4], by simp [results, Tryz.f16, go_sem], ?_⟩;refine ⟨c, HB3.out.1, ?_⟩;rw [HNN.out, hrr.out, if_neg hr4];have h9 := HF.out.2.2;rw [show N + 79 * yF (zU (allP ps css)) + 2 = N + 1 + 79 * yF (zU (allP ps css)) + 1 by omega];exact ⟨rfl, h9⟩
end Go.Proofs.YtbjofbhhnmehgaaGreatDoor.TT
