
/-
 halyardlaw06: small functions: span, value, Bytes, below.
-/
import Derived.Test.YtbjofbhhnmehgaaGreatDoorCNHz10
import Derived.Test.YtbjofbhhnmehgaaGreatDoorCNHz0
set_option linter.unusedSimpArgs false
set_option linter.unusedVariables false
set_option maxHeartbeats 4000000
set_option maxRecDepth 100000
open Go.IntWalk (toNatUp iteOmega)
namespace Go.Proofs.YtbjofbhhnmehgaaGreatDoor.TT
open Go.RowKit Go.RG Go.Hp Go.Proofs.YtbjofbhhnmehgaaGreatDoor
def pS (n lo hi : Int) : Int := lo + (if n < 0 then -(n + 1) else n) % (hi - lo + 1)
theorem lL (n : Int) {lo hi : Int} (h : lo <= hi) : lo <= pS n lo hi /\ pS n lo hi <= hi := by
 unfold pS;have h1 := Int.emod_nonneg (if n < 0 then -(n + 1) else n) (show hi - lo + 1 ≠ 0 by omega);have h2 := Int.emod_lt_of_pos (if n < 0 then -(n + 1) else n) (show 0 < hi - lo + 1 by omega);omega
theorem span_any (n lo hi : Int) (hn : -9223372036854775808 <= n /\ n <= 9223372036854775807) (hlo : 0 <= lo /\ lo <= hi /\ hi <= 1099511627776) (w : World) :
 Calls Tryz.prog 13 #[.int .i64 n, .int .i64 lo, .int .i64 hi] w λ e w' => e = .returned (.int .i64 (pS n lo hi)) /\ w = w' := by
 obtain ⟨h1, h2, h3⟩ := hlo;have e1 := IntWalk.i64_in (n + 1);have e2 := IntWalk.i64_in (-(n + 1));have e3 := IntWalk.i64_in (hi - lo) (by omega);have e4 := IntWalk.i64_in (hi - lo + 1) (by omega);have hne : ¬ hi - lo + 1 = 0 := by omega
 have Hsp := zB (lL n h2);by_cases h0 : n < 0
 . have e1 := e1 (by omega);have e2 := e2 (by omega);have hs : lo + -(n + 1).tmod (hi - lo + 1) = pS n lo hi := by
    unfold pS;rw [if_pos h0, <- Int.neg_tmod, Int.tmod_eq_emod_of_nonneg (by omega)]
   have Hs := zB hs;clear hs;go_enter Tryz.func13, Tryz.ntmps13
   go_wp2_with fail
   go_ret
   rw [Hs.out, IntWalk.wrap64_in _ (by have := Hsp.out; omega)];exact ⟨rfl, rfl⟩
 . have hs : lo + n % (hi - lo + 1) = pS n lo hi := by unfold pS; rw [if_neg h0]
   have Hs := zB hs;clear hs e1 e2;go_enter Tryz.func13, Tryz.ntmps13
   go_wp2_with fail
   go_ret
   rw [Hs.out, IntWalk.wrap64_in _ (by have := Hsp.out; omega)];exact ⟨rfl, rfl⟩
structure TChg where
 key : List Int
 value : List Int
 long : Int
 fill : Int
 gone : Bool
def iB (f : Int) (n : Nat) : List Int := (List.range n).map λ i : Nat => (f + ((i % 7 : Nat) : Int)) % 256
def TChg.val (c : TChg) : List Int := if c.value ≠ [] then c.value else iB c.fill (pS c.long 0 1100).toNat
def TChg.chg (c : TChg) : Chg := ⟨c.key, c.val, c.gone⟩
theorem nA (f : Int) (n : Nat) : (iB f n).length = n := by simp [iB]
theorem fillB_succ (f : Int) (n : Nat) : iB f (n + 1) = iB f n ++ [(f + ((n % 7 : Nat) : Int)) % 256] := by simp [iB, List.range_succ]
def obk : Value -> Option Nat
 | .slice (some a) (_ + 1) _ => some a.block
 | _ => none
theorem obk_own {v : Value} {j : Nat} (h : obk v = some j) : v.ownBlock = some j := by
 unfold obk at h
 split at h
 . exact h
 . cases h
def SrcE (w : World) (v : Value) (xs : List Value) : Prop := Src w v xs \/ (xs = [] /\ ∃ a c, v = .slice a 0 c)
theorem Src.e {w : World} {v : Value} {xs : List Value} (h : Src w v xs) : SrcE w v xs := .inl h
theorem SrcE.below {w w' : World} {v : Value} {xs : List Value} (h : SrcE w v xs) (hb : Below w.heap.size w w') : SrcE w' v xs := h.imp (·.below hb) id
theorem SrcE.shape {w : World} {v : Value} {xs : List Value} (h : SrcE w v xs) : ∃ a c, v = .slice a xs.length c /\ xs.length <= xs.length := by
 rcases h with h | ⟨rfl, a, c, rfl⟩
 . obtain ⟨a, c, e, -⟩ := h.shape;exact ⟨a, c, e, Nat.le_refl _⟩
 . exact ⟨a, c, rfl, Nat.le_refl _⟩
theorem SrcE.src {w : World} {v : Value} {xs : List Value} (h : SrcE w v xs) (hne : xs ≠ []) : Src w v xs := h.resolve_right λ e => hne e.1
theorem iJ {w w' : World} {v : Value} {xs : List Value} {S : Nat -> Prop} (h : Src w v xs) (hX : Ext S w w') (hS : ∀ j, obk v = some j -> ¬ S j) : Src w' v xs := by
 rcases h with ⟨g, o, c, rfl, hc, h⟩ | h
 . refine .inl ⟨g, o, c, rfl, hc, λ j u hu => hX.cell_some (h j u hu) (hS g ?_)⟩
   cases xs with
   | nil => simp at hu
   | cons x xs => rfl
 . exact .inr h
theorem SrcE.ext {w w' : World} {v : Value} {xs : List Value} {S : Nat -> Prop} (h : SrcE w v xs) (hX : Ext S w w') (hS : ∀ j, obk v = some j -> ¬ S j) : SrcE w' v xs := h.imp (iJ · hX hS) id
structure TChgV (c : TChg) (ka va : Value) (w : World) : Prop where
 key : SrcE w ka (u8s c.key)
 val : SrcE w va (u8s c.value)
 kb : zO c.key
 vb : zO c.value
 long : -9223372036854775808 <= c.long /\ c.long <= 9223372036854775807
 fill : 0 <= c.fill /\ c.fill < 256
 kl : c.key.length <= 1048576
 vl : c.value.length <= 1048576
theorem TChgV.below {c : TChg} {ka va : Value} {w w' : World} (h : TChgV c ka va w) (hb : Below w.heap.size w w') : TChgV c ka va w' :=
 ⟨h.key.below hb, h.val.below hb, h.kb, h.vb, h.long, h.fill, h.kl, h.vl⟩
theorem lF (c : TChg) (ka va : Value) (w : World) (h : TChgV c ka va w) :
 Calls Tryz.prog 54 #[.agg #[ka, va, .int .i64 c.long, .int .u8 c.fill, .bool c.gone]] w λ e w' => ∃ u, e = .returned u /\ w'.ownsRow w.heap.size 5 1 u c.val.length (u8s c.val) /\ Below w.heap.size w w' := by
 obtain ⟨a1, c1, hka, -⟩ := h.key.shape;rw [zH] at hka;subst hka;obtain ⟨a2, c2, hva, -⟩ := h.val.shape;rw [zH] at hva;obtain ⟨n, hn⟩ : ∃ n, c.value.length = n := ⟨_, rfl⟩;rw [hn] at hva;subst hva;have hvl := h.vl;rw [hn] at hvl;have H := zB h;have Hn := zB hn;clear h hn;obtain ⟨key, value, long, fill, gone⟩ := c;simp only at H Hn ⊢;have hb0 := zQ w (.cells #[.slice a1 key.length c1, .slice a2 n c2, .int .i64 long, .int .u8 fill, .bool gone] 54);by_cases hn0 : 0 < n
 . have hn0' : (0 : Int) < (n : Int) := by omega
   have hv : TChg.val ⟨key, value, long, fill, gone⟩ = value := by unfold TChg.val; rw [if_pos (by intro e; have := Hn.out; simp only at e this; rw [e] at this; simp at this; omega)]
   rw [hv];clear hv;have hb1 := zQ (w.alloc (.cells #[.slice a1 key.length c1, .slice a2 n c2, .int .i64 long, .int .u8 fill, .bool gone] 54)) (.cells #[] 5);have hown0 : ((w.alloc (.cells #[.slice a1 key.length c1, .slice a2 n c2, .int .i64 long, .int .u8 fill, .bool gone] 54)).alloc (.cells #[] 5)).ownsRow w.heap.size 5 1 (.slice (some ⟨w.heap.size + 1, 0, none⟩) 0 0) 0 [] := by
    have := World.ownsRow_made (w.alloc (.cells #[.slice a1 key.length c1, .slice a2 n c2, .int .i64 long, .int .u8 fill, .bool gone] 54)) #[] 0 (base := w.heap.size) (e := 5) (size := 1) (by simp) (Nat.zero_le _) rfl;simpa using this
   have hval := ((H.out.val.below hb0).below hb1).src (λ e => by have h1 := congrArg List.length e; rw [zH] at h1; have h2 := Hn.out; simp only at h2 h1; rw [h2] at h1; simp at h1; omega);simp only at hval;have hbb := hb0.trans (hb1.mono hb0.size);have HB := zB (zC hbb (zC hown0 hval));clear hb1 hown0 hval hbb hb0;go_enter Tryz.func54, Tryz.ntmps54
   go_wp2_with (at_builtin; go_loud (refine xN rfl _ _ rfl w.heap.size 0 _ _ [] (u8s value) rfl HB.out.2.1 rfl HB.out.2.2 (yU _) (by rw [zH, Hn.out]; omega) HB.out.1.size ?_; intro v2 w2 hown2 hg2; have Hg2 := zB hg2; have Hown2 := zB hown2; clear hown2 hg2))
   go_ret
   have := Hown2.out;rw [zH, Nat.zero_add, List.nil_append] at this;exact ⟨_, rfl, this, HB.out.1.trans Hg2.out⟩
 . obtain rfl : n = 0 := by omega
   have hv : TChg.val ⟨key, value, long, fill, gone⟩ = iB fill (pS long 0 1100).toNat := by
    unfold TChg.val;rw [if_neg (λ h => h (List.eq_nil_of_length_eq_zero Hn.out))]
   have hsp := lL long (show (0 : Int) <= 1100 by decide);obtain ⟨m, hm⟩ : ∃ m : Nat, pS long 0 1100 = m := ⟨(pS long 0 1100).toNat, by omega⟩;rw [hv, hm, Int.toNat_natCast];have HSP := zB λ w' => span_any long 0 1100 H.out.long (by decide) w';rw [hm] at HSP hsp;have hfl := H.out.fill;have HB0 := zB hb0;simp only at hfl;clear hv hm hb0;go_enter Tryz.func54, Tryz.ntmps54
   go_wp2_with fail
   refine (HSP.out _).mono ?_;rintro e w1 ⟨rfl, rfl⟩
   go_wp2_with fail
   go_loopw [4, 5] (λ vb vi wr => ∃ i : Nat, vi = .int .i64 i /\ i <= m /\ wr.ownsRow w.heap.size 5 1 vb i (u8s (iB fill i)) /\ wr.cell? ⟨w.heap.size, 3, none⟩ = some (.int .u8 fill) /\ Below w.heap.size w wr /\ w.heap.size < wr.heap.size /\ vb.ownBlock ≠ some w.heap.size) (λ _ vi _ => m - (intOf vi).toNat)
   case atStart =>
    refine ⟨0, rfl, Nat.zero_le _, World.ownsRow_nil _ _ _ _, ?_, HB0.out, by simp, λ h => (by cases h)⟩;exact yV (World.alloc_heap_new w _) 3 _ rfl
   case round =>
    obtain ⟨i, rfl, hi, hown, hcf, hB, hsz, hne⟩ := hrel;obtain ⟨va4, vc4, rfl, -⟩ := zP hown;by_cases him : i < m
    . have him' : (i : Int) < (m : Int) := by omega
      have hr7 : ((i % 7 : Nat) : Int) = (i : Int) % 7 := by omega
      obtain ⟨b, hb⟩ : ∃ b, (fill + ((i % 7 : Nat) : Int)) % 256 = b := ⟨_, rfl⟩;have hb2 : 0 <= b /\ b < 256 := by omega
      have hs2 : iB fill (i + 1) = iB fill i ++ [b] := by rw [fillB_succ, hb]
      have e8 : IntKind.u8.wrap ((i : Int) % 7) = (i : Int) % 7 := IntWalk.u8_in _ (by omega);have e9 : IntKind.u8.wrap (fill + (i : Int) % 7) = b := by rw [<- hr7, <- hb]; rfl
      have hg := World.alloc_heap_new wr (.cells #[.int .u8 b] 5);have hbx := zQ wr (.cells #[.int .u8 b] 5);have hf1 := nA fill i;obtain ⟨v', w', ra, r2, r3, r4⟩ := app_byte (wr.alloc (.cells #[.int .u8 b] 5)) w.heap.size (.slice va4 i vc4) (iB fill i) (by rw [hf1]; exact yA hown hbx) (by omega) wr.heap.size 1 b (yV hg 0 _ rfl) (by have := hbx.size; omega) 52;rw [hf1] at r2;obtain ⟨va5, vc5, rfl, -⟩ := zP r2;have hX : Ext (λ k => (Value.slice va4 i vc4).ownBlock = some k) (wr.alloc (.cells #[.int .u8 b] 5)) w' := r3.ext.mono λ k _ ⟨_, _, h, _⟩ => h;have hcf2 : w'.cell? ⟨w.heap.size, 3, none⟩ = some (.int .u8 fill) := hX.cell_some (zG hbx hcf) hne;have hB2 : Below w.heap.size w w' := (hB.trans (hbx.mono hB.size)).trans (hX.to_belowAt (by have := hbx.size; omega) λ k hk e => by have := (hown.lt k e).1; omega);have hne2 : (Value.slice va5 (i + 1) vc5).ownBlock ≠ some w.heap.size := λ e => (r4 _ e).elim hne λ e => by have := hbx.size; omega
      have HF := zB (zC r2 (zC hcf2 (zC hB2 (zC hne2 (zC hs2 (show w.heap.size < w'.heap.size by have h1 := hX.size; have h2 := hbx.size; omega))))));have Hra := zB ra;clear ra r2 r3 r4 hX hcf2 hB2 hne2 hs2 hg hb hown hr7
      go_wp2_with (at_builtin; refine yW rfl (yM (.tmp 22) (.tmp 29) 52 52 rfl Hra.out) ?_)
      refine ⟨⟨i + 1, by simp, by omega, by rw [HF.out.2.2.2.2.1]; exact HF.out.1, HF.out.2.1, HF.out.2.2.1, HF.out.2.2.2.2.2, HF.out.2.2.2.1⟩, ?_⟩;show m - ((i : Int) + 1).toNat < m - (i : Int).toNat;omega
    . obtain rfl : i = m := by omega
      have him' : ¬ (i : Int) < (i : Int) := by omega
      have Hown := zB hown;clear hown
      go_wp2_with fail
      go_ret
      exact ⟨_, rfl, by rw [nA]; exact Hown.out, hB⟩
theorem src_at {w : World} {v : Value} {bs : List Int} (h : SrcE w v (u8s bs)) {i : Nat} {b : Int} (hi : bs[i]? = some b) : ∃ g o c, v = .slice (some ⟨g, o, none⟩) bs.length c /\ w.cell? ⟨g, o + i, none⟩ = some (.int .u8 b) := by
 rcases h with (⟨g, o, c, e, -, h⟩ | ⟨-, e⟩) | ⟨e, -⟩
 . rw [zH] at e;exact ⟨g, o, c, e, h i _ (pO hi)⟩
 . have := congrArg List.length e;rw [zH] at this;have h2 := (List.getElem?_eq_some_iff.1 hi).1;simp at this;rw [this] at h2;simp at h2
 . have := congrArg List.length e;rw [zH] at this;have h2 := (List.getElem?_eq_some_iff.1 hi).1;simp at this;rw [this] at h2;simp at h2
theorem kM (va vb : Value) (xs ys : List Int) (w : World) (hx : SrcE w va (u8s xs)) (hy : SrcE w vb (u8s ys)) (hl : xs.length <= 1099511627776) (hl2 : ys.length <= 1099511627776) :
 Calls Tryz.prog 29 #[va, vb] w λ e w' => e = .returned (.bool (decide (xs = ys))) /\ Below w.heap.size w w' := by
 obtain ⟨aa, ca, rfl, -⟩ := hx.shape;obtain ⟨ab, cb, rfl, -⟩ := hy.shape;rw [zH] at hx ⊢;rw [zH] at hy ⊢;have HX := zB hx;have HY := zB hy;obtain ⟨n, hn⟩ : ∃ n, xs.length = n := ⟨_, rfl⟩;obtain ⟨m, hm⟩ : ∃ m, ys.length = m := ⟨_, rfl⟩;rw [hn] at hl HX ⊢;rw [hm] at hl2 HY ⊢;have Hn := zB (zC hn hm);clear hx hy hn hm;by_cases hnm : n = m
 . subst hnm;go_enter Tryz.func29, Tryz.ntmps29
   go_wp2_with fail
   go_loopw [5] (λ vi wr => ∃ i : Nat, vi = .int .i64 i /\ i <= n /\ xs.take i = ys.take i /\ Below w.heap.size w wr) (λ vi _ => n - (intOf vi).toNat)
   case atStart => exact ⟨0, rfl, Nat.zero_le _, rfl, Below.refl _ _⟩
   case round =>
    obtain ⟨i, rfl, hi, htk, hB⟩ := hrel;by_cases hin : i < n
    . have hin' : (i : Int) < (n : Int) := by omega
      obtain ⟨x, hxi⟩ : ∃ x, xs[i]? = some x := ⟨_, List.getElem?_eq_getElem (by rw [Hn.out.1]; exact hin)⟩;obtain ⟨y, hyi⟩ : ∃ y, ys[i]? = some y := ⟨_, List.getElem?_eq_getElem (by rw [Hn.out.2]; exact hin)⟩;obtain ⟨g1, o1, c1, e1, k1⟩ := src_at (HX.out.below hB) hxi;obtain ⟨g2, o2, c2, e2, k2⟩ := src_at (HY.out.below hB) hyi;injection e1 with e1 f1 e3;injection e2 with e2 f2 e4;subst e1 e3 e2 e4;clear f1 f2;have HT := zB (zC htk (zC hxi hyi));clear htk hxi hyi
      go_wp2_with fail
      refine zY (λ _ => none) fol (by kernel_rfl) (λ W hW hh => ?_);clear hh;have q1 := zV hW k1;have q2 := zV hW k2
      repeat ((first | refine zL _ (by first | exact .inl rfl | exact .inr rfl) rfl rfl ?_ | (refine zJ ?_ rfl rfl (λ w1 hb1 hf1 => ?_) ?_; rotate_left; (go_simp; (try simp (disch := omega) only [zE, toNatUp, iteOmega]); (try go_simp); rfl)) | refine zM rfl ?_); simp only [zD])
      refine zZ ?_;have hB2 := hB.trans (hW.mono hB.size);clear q1 q2;by_cases hxy : x = y
      . subst hxy;have hne : (x != x) = false := by simp
        go_wp2_with fail
        refine ⟨⟨i + 1, by simp, by omega, ?_, hB2⟩, ?_⟩
        . rw [List.take_add_one, List.take_add_one, HT.out.1, HT.out.2.1, HT.out.2.2]
        . show n - ((i : Int) + 1).toNat < n - (i : Int).toNat;omega
      . have hne : (x != y) = true := by simp [bne, hxy]
        go_wp2_with fail
        go_ret
        have hf : decide (xs = ys) = false := decide_eq_false (by rintro rfl; exact hxy (Option.some.inj (HT.out.2.1.symm.trans HT.out.2.2)));rw [hf];exact ⟨rfl, hB2⟩
    . obtain rfl : i = n := by omega
      have hin' : ¬ (i : Int) < (i : Int) := by omega
      rw [List.take_of_length_le (by rw [Hn.out.1]; exact Nat.le_refl _), List.take_of_length_le (by rw [Hn.out.2]; exact Nat.le_refl _)] at htk;have HT := zB htk;clear htk
      go_wp2_with fail
      go_ret
      exact ⟨by rw [HT.out]; simp, hB⟩
 . have hnm' : ((n : Int) != (m : Int)) = true := by
    rw [bne, beq_eq_false_iff_ne.2 (by omega)];rfl
   go_enter Tryz.func29, Tryz.ntmps29
   go_wp2_with fail
   go_ret
   have hf : decide (xs = ys) = false := decide_eq_false (by rintro rfl; exact hnm (Hn.out.1.symm.trans Hn.out.2));rw [hf];exact ⟨rfl, Below.refl _ _⟩
theorem klt_at : ∀ {xs ys : List Int} {i : Nat} {x y : Int}, xs.take i = ys.take i -> xs[i]? = some x -> ys[i]? = some y -> x ≠ y -> klt xs ys = decide (x < y)
 | a :: xs, b :: ys, 0, x, y, _, hx, hy, hne => by
  simp at hx hy;subst hx hy;simp [klt, hne]
 | a :: xs, b :: ys, i + 1, x, y, ht, hx, hy, hne => by
  simp at ht hx hy;obtain ⟨rfl, ht⟩ := ht;simp [klt, klt_at ht hx hy hne]
 | [], _, _, _, _, _, hx, _, _ => by simp at hx
 | _ :: _, [], _, _, _, _, _, hy, _ => by simp at hy
theorem klt_end : ∀ {xs ys : List Int}, (xs.take (min xs.length ys.length) = ys.take (min xs.length ys.length)) -> klt xs ys = decide (xs.length < ys.length)
 | [], [], _ => rfl
 | [], _ :: _, _ => by simp [klt]
 | _ :: _, [], _ => by simp [klt]
 | a :: xs, b :: ys, h => by
  have hm : min (a :: xs).length (b :: ys).length = min xs.length ys.length + 1 := by simp only [List.length_cons]; omega
  rw [hm, List.take_succ_cons, List.take_succ_cons] at h;injection h with h1 h2;subst h1;simp [klt, klt_end h2]
theorem below_any (va vb : Value) (xs ys : List Int) (w : World) (hx : SrcE w va (u8s xs)) (hy : SrcE w vb (u8s ys)) (hl : xs.length <= 1099511627776) (hl2 : ys.length <= 1099511627776) :
 Calls Tryz.prog 27 #[va, vb] w λ e w' => e = .returned (.bool (klt xs ys)) /\ Below w.heap.size w w' := by
 obtain ⟨aa, ca, rfl, -⟩ := hx.shape;obtain ⟨ab, cb, rfl, -⟩ := hy.shape;rw [zH] at hx ⊢;rw [zH] at hy ⊢;have HX := zB hx;have HY := zB hy;obtain ⟨n, hn⟩ : ∃ n, xs.length = n := ⟨_, rfl⟩;obtain ⟨m, hm⟩ : ∃ m, ys.length = m := ⟨_, rfl⟩;rw [hn] at hl HX ⊢;rw [hm] at hl2 HY ⊢;have Hn := zB (zC hn hm);clear hx hy hn hm;go_enter Tryz.func27, Tryz.ntmps27
 go_wp2_with fail
 go_loopw [5] (λ vi wr => ∃ i : Nat, vi = .int .i64 i /\ i <= n /\ i <= m /\ xs.take i = ys.take i /\ Below w.heap.size w wr) (λ vi _ => n - (intOf vi).toNat)
 case atStart => exact ⟨0, rfl, Nat.zero_le _, Nat.zero_le _, rfl, Below.refl _ _⟩
 case round =>
  obtain ⟨i, rfl, hi, hi2, htk, hB⟩ := hrel;have HE : ¬ (i < n /\ i < m) -> Hid (klt xs ys = decide (n < m)) := λ h => by
   refine zB ?_;rw [<- Hn.out.1, <- Hn.out.2];refine klt_end ?_;have : min xs.length ys.length = i := by rw [Hn.out.1, Hn.out.2]; omega
   rw [this];exact htk
  have hcast : decide ((n : Int) < (m : Int)) = decide (n < m) := by rw [decide_eq_decide]; omega
  by_cases hin : i < n
  . have hin' : (i : Int) < (n : Int) := by omega
    by_cases him : i < m
    . have him' : (i : Int) < (m : Int) := by omega
      obtain ⟨x, hxi⟩ : ∃ x, xs[i]? = some x := ⟨_, List.getElem?_eq_getElem (by rw [Hn.out.1]; exact hin)⟩;obtain ⟨y, hyi⟩ : ∃ y, ys[i]? = some y := ⟨_, List.getElem?_eq_getElem (by rw [Hn.out.2]; exact him)⟩;obtain ⟨g1, o1, c1, e1, k1⟩ := src_at (HX.out.below hB) hxi;obtain ⟨g2, o2, c2, e2, k2⟩ := src_at (HY.out.below hB) hyi;injection e1 with e1 f1 e3;injection e2 with e2 f2 e4;subst e1 e3 e2 e4;have HT := zB (zC htk (zC hxi hyi));clear htk hxi hyi f1 f2 HE hcast
      go_wp2_with fail
      refine zY (λ _ => none) fol (by kernel_rfl) (λ W hW hh => ?_);clear hh;have q1 := zV hW k1;have q2 := zV hW k2
      repeat ((first | refine zL _ (by first | exact .inl rfl | exact .inr rfl) rfl rfl ?_ | (refine zJ ?_ rfl rfl (λ w1 hb1 hf1 => ?_) ?_; rotate_left; (go_simp; (try simp (disch := omega) only [zE, toNatUp, iteOmega]); (try go_simp); rfl)) | refine zM rfl ?_); simp only [zD])
      refine zZ ?_;have hB2 := hB.trans (hW.mono hB.size);have k1 := zG hW k1;have k2 := zG hW k2;clear q1 q2;by_cases hxy : x = y
      . subst hxy;have hne : (x != x) = false := by simp
        go_wp2_with fail
        refine ⟨⟨i + 1, by simp, by omega, by omega, ?_, hB2⟩, ?_⟩
        . rw [List.take_add_one, List.take_add_one, HT.out.1, HT.out.2.1, HT.out.2.2]
        . show n - ((i : Int) + 1).toNat < n - (i : Int).toNat;omega
      . have hne : (x != y) = true := by simp [bne, hxy]
        have HK := zB (klt_at HT.out.1 HT.out.2.1 HT.out.2.2 hxy)
        go_wp2_with fail
        refine zY (λ _ => none) fol (by kernel_rfl) (λ W3 hW3 hh => ?_);clear hh;have q1 := zV hW3 k1;have q2 := zV hW3 k2
        repeat ((first | refine zL _ (by first | exact .inl rfl | exact .inr rfl) rfl rfl ?_ | (refine zJ ?_ rfl rfl (λ w1 hb1 hf1 => ?_) ?_; rotate_left; (go_simp; (try simp (disch := omega) only [zE, toNatUp, iteOmega]); (try go_simp); rfl)) | refine zM rfl ?_); simp only [zD])
        refine zZ ?_;have hB3 := hB2.trans (hW3.mono hB2.size);clear q1 q2
        go_wp2_with fail
        go_ret
        rw [HK.out];exact ⟨rfl, hB3⟩
    . have him' : ¬ (i : Int) < (m : Int) := by omega
      have HK := HE (λ h => him h.2);clear htk HE
      go_wp2_with fail
      go_ret
      rw [HK.out, <- hcast];exact ⟨by simp, hB⟩
  . have hin' : ¬ (i : Int) < (n : Int) := by omega
    have HK := HE (λ h => hin h.1);clear htk HE
    go_wp2_with fail
    go_ret
    rw [HK.out, <- hcast];exact ⟨by simp, hB⟩
structure Dsk.wf (x : Dsk) : Prop where
 len : x.torn.length = x.dur.length
 some' : ∀ i, i ∈ x.ks -> x.cache i ≠ []
 none' : ∀ i, i ∉ x.ks -> x.cache i = []
 in' : ∀ i ∈ x.ks, 0 <= i /\ i < (x.dur.length : Int)
theorem wQ.wf {w : World} {b : Bks} {x : Dsk} (h : wQ w b x) : x.wf := ⟨h.len, λ i hi e => absurd (h.rows i hi).1 (by rw [e]; exact Nat.lt_irrefl 0), h.none', h.in'⟩
theorem readD_goes (x : Dsk) (i : Nat) : xP (vJ x) i = xP x i := by
 obtain ⟨h1, h2, -, h4⟩ := uI x;unfold xP;rw [h1, h2, h4]
theorem iR {ks : List Int} {i j : Int} : j ∈ addK ks i ↔ j = i \/ j ∈ ks := by
 unfold addK
 split
 . rename_i h;constructor
   . exact .inr
   . rintro (rfl | h')
     . exact h
     . exact h'
 . simp [or_comm]
theorem Dsk.wf.wrote {x : Dsk} (h : x.wf) {i : Nat} (hi : i < x.dur.length) (bs : List Int) : (uP x i bs).wf := by
 refine ⟨h.len, λ j hj => ?_, λ j hj => ?_, λ j hj => ?_⟩
 . show (if j = (i : Int) then x.cache i ++ [bs] else x.cache j) ≠ []
   split
   . simp
   . rename_i hne;exact h.some' j ((iR.1 hj).resolve_left hne)
 . show (if j = (i : Int) then x.cache i ++ [bs] else x.cache j) = [];rw [if_neg (λ e => hj (iR.2 (.inl e)))];exact h.none' j λ h' => hj (iR.2 (.inr h'))
 . rcases iR.1 hj with rfl | h'
   . exact ⟨Int.natCast_nonneg _, by show (i : Int) < (x.dur.length : Int); omega⟩
   . exact h.in' j h'
theorem rN (x : Dsk) (i j : Nat) (bs : List Int) : xP (uP x i bs) j = if j = i then some bs else xP x j := by
 unfold xP uP;simp only;by_cases h : j = i
 . subst h; simp
 . rw [if_neg (by omega), if_neg h]
theorem Dsk.wf.flushed {x : Dsk} (h : x.wf) : (vT x).wf := by
 refine ⟨?_, λ i hi => ?_, λ _ _ => rfl, λ i hi => ?_⟩
 . simp [vT, kW, h.len]
 . cases hi
 . cases hi
theorem rO {x : Dsk} (h : x.wf) (i : Nat) : xP (vT x) i = xP x i := by
 unfold xP vT kW;simp only [List.getLast?_nil, List.getD_eq_getElem?_getD, List.getElem?_mapIdx];by_cases hi : (i : Int) ∈ x.ks
 . obtain ⟨h1, h2⟩ := h.in' _ hi;have hlt : i < x.dur.length := by omega
   have hltt : i < x.torn.length := by rw [h.len]; exact hlt
   have hne := h.some' _ hi;rw [List.getElem?_eq_getElem hlt, List.getElem?_eq_getElem hltt];obtain ⟨s, hs⟩ : ∃ s, (x.cache (i : Int)).getLast? = some s := ⟨_, List.getLast?_eq_some_getLast hne⟩;simp [hi, hs]
 . have hn := h.none' _ hi;by_cases hlt : i < x.dur.length
   . have hltt : i < x.torn.length := by rw [h.len]; exact hlt
     rw [List.getElem?_eq_getElem hlt, List.getElem?_eq_getElem hltt];simp [hi, hn]
   . have hl' := h.len;rw [List.getElem?_eq_none (l := x.torn) (by omega), List.getElem?_eq_none (l := x.dur) (by omega)];simp [hn]
structure Dsk.on (x : Dsk) : Prop where
 off : x.off = false
 fuse : x.fuse = -1
theorem Dsk.on.goesB {x : Dsk} (h : x.on) : vC x = true := by unfold TT.vC; rw [h.off, h.fuse]; rfl
theorem Dsk.on.goesD {x : Dsk} (h : x.on) : vJ x = x := by unfold TT.vJ; rw [h.off, h.fuse]; rfl
theorem Dsk.on.write {x : Dsk} (h : x.on) (i : Nat) (bs : List Int) : vP x i bs = uP x i bs := by unfold vP; rw [if_pos h.goesB, h.goesD]
theorem Dsk.on.wrote {x : Dsk} (h : x.on) (i : Nat) (bs : List Int) : (uP x i bs).on := ⟨h.off, h.fuse⟩
theorem Dsk.on.flush {x : Dsk} (h : x.on) : uC x = vT x := by unfold uC; rw [if_pos h.goesB, h.goesD]
theorem Dsk.on.flushed {x : Dsk} (h : x.on) : (vT x).on := ⟨h.off, h.fuse⟩
theorem Dsk.on.goesE {x : Dsk} (h : x.on) : uO x = 0 := by unfold TT.uO; rw [if_pos h.goesB]
theorem Dsk.on.lay {x : Dsk} (h : x.on) (i : Nat) (bs : List Int) : layX x i bs = vT (uP x i bs) /\ layE x i bs = 0 := by
 unfold layX layE;rw [if_pos h.goesB, if_pos h.goesB, h.write, (h.wrote i bs).flush, (h.wrote i bs).goesE];exact ⟨rfl, rfl⟩
theorem lU {x : Dsk} (hw : x.wf) (h : x.on) {i : Nat} (hi : i < x.dur.length) (bs : List Int) (j : Nat) : xP (layX x i bs) j = if j = i then some bs else xP x j := by
 rw [(h.lay i bs).1, rO (hw.wrote hi bs), rN]
theorem Dsk.wf.lay {x : Dsk} (hw : x.wf) (h : x.on) {i : Nat} (hi : i < x.dur.length) (bs : List Int) : (layX x i bs).wf := by
 rw [(h.lay i bs).1]; exact (hw.wrote hi bs).flushed
theorem Dsk.on.layOn {x : Dsk} (h : x.on) (i : Nat) (bs : List Int) : (layX x i bs).on := by
 rw [(h.lay i bs).1]; exact (h.wrote i bs).flushed
theorem leNum_le (v n : Nat) : mU (zT v n) = ((v % 256 ^ n : Nat) : Int) := by
 induction n with
 | zero => simp [zT, mU, Nat.mod_one]
 | succ n ih =>
  show mU (zT v n ++ [(v : Int) / 256 ^ n % 256]) = _;rw [jS, ih, yI];show _ + 256 ^ n * ((v : Int) / 256 ^ n % 256 + 256 * 0) = _;rw [Nat.pow_succ, Nat.mod_mul, Int.mul_zero, Int.add_zero, Int.natCast_add, Int.natCast_mul, Int.natCast_emod v, Int.natCast_emod (v / 256 ^ n), Int.natCast_ediv, Int.natCast_pow];rfl
theorem leNum_of (v n : Nat) (h : v < 256 ^ n) : mU (zT v n) = v := by rw [leNum_le, Nat.mod_eq_of_lt h]
theorem sM (a d b D : List Int) (h : d.length = D.length) (n : Nat) (hn : n = a.length) : layB (a ++ d ++ b) n D = a ++ D ++ b := by
 subst hn;unfold layB;have e1 : (a ++ d ++ b).take a.length = a := by rw [List.append_assoc, List.take_left]
 have e2 : (a ++ d ++ b).drop (a.length + D.length) = b := by rw [<- h, show a.length + d.length = (a ++ d).length by simp, List.drop_left]
 rw [e1, e2]
theorem fieldOf_mid (a d b : List Int) (n m : Nat) (hn : n = a.length) (hm : m = d.length) : oH (a ++ d ++ b) n m = d := by
 subst hn hm;unfold oH;rw [List.append_assoc, List.drop_left, List.take_left]
theorem uS (a b : Nat) : yN (a + b) = yN a ++ yN b := by unfold yN; rw [List.replicate_append_replicate]
theorem rE (a b : List Int) (v n at' : Nat) (hn : at' = a.length) (hv : v < 256 ^ n) : getN (a ++ zT v n ++ b) at' n = v := by
 unfold getN getF;rw [fieldOf_mid a (zT v n) b at' n hn (by rw [yI]), leNum_of v n hv];rfl
theorem jX (n : Nat) : rC (yN n) = true := by
 unfold rC yN;simp
theorem headRaw_eq (h : Head) (size : Nat) : rU h size = yX ++ zT h.gen 6 ++ zT h.epoch 6 ++ zT h.first 6 ++ zT h.least 6 ++ zT size 4 ++ yN 92 := by
 have l := yI;unfold rU;rw [show yN 120 = yN 6 ++ yN 114 from uS 6 114, <- List.append_assoc, sM _ _ _ _ (by rw [l]; rfl) 4 rfl];rw [show yN 114 = yN 6 ++ yN 108 from uS 6 108, <- List.append_assoc, sM _ _ _ _ (by rw [l]; rfl) 10 (by simp [l, yX])];rw [show yN 108 = yN 6 ++ yN 102 from uS 6 102, <- List.append_assoc, sM _ _ _ _ (by rw [l]; rfl) 16 (by simp [l, yX])];rw [show yN 102 = yN 6 ++ yN 96 from uS 6 96, <- List.append_assoc, sM _ _ _ _ (by rw [l]; rfl) 22 (by simp [l, yX])];rw [show yN 96 = yN 4 ++ yN 92 from uS 4 92, <- List.append_assoc, sM _ _ _ _ (by rw [l]; rfl) 28 (by simp [l, yX])]
theorem headRaw_back (h : Head) (hl : h.low) (size : Nat) (hs : size < 4294967296) : (rU h size).take 4 = yX /\ rC ((rU h size).drop 32) = true /\ getN (rU h size) 28 4 = size /\ pC (rU h size) = h := by
 have l := yI;obtain ⟨g, e, f, m⟩ := h;obtain ⟨h1, h2, h3, h4⟩ := hl;simp only at h1 h2 h3 h4;rw [headRaw_eq];simp only;refine ⟨?_, ?_, ?_, ?_⟩
 . simp only [List.append_assoc];exact List.take_left (l₁ := yX)
 . have : yX ++ zT g 6 ++ zT e 6 ++ zT f 6 ++ zT m 6 ++ zT size 4 ++ yN 92 = (yX ++ zT g 6 ++ zT e 6 ++ zT f 6 ++ zT m 6 ++ zT size 4) ++ yN 92 := rfl;rw [this, show 32 = (yX ++ zT g 6 ++ zT e 6 ++ zT f 6 ++ zT m 6 ++ zT size 4).length by simp [l, yX], List.drop_left];exact jX 92
 . exact rE _ _ size 4 28 (by simp [l, yX]) (by simpa using hs)
 . unfold pC;have e1 : getN (yX ++ zT g 6 ++ zT e 6 ++ zT f 6 ++ zT m 6 ++ zT size 4 ++ yN 92) 4 6 = g := by
    simp only [List.append_assoc]; rw [<- List.append_assoc]; exact rE _ _ g 6 4 rfl (by simpa using h1)
   have e2 : getN (yX ++ zT g 6 ++ zT e 6 ++ zT f 6 ++ zT m 6 ++ zT size 4 ++ yN 92) 10 6 = e := by
    have := rE (yX ++ zT g 6) (zT f 6 ++ zT m 6 ++ zT size 4 ++ yN 92) e 6 10 (by simp [l, yX]) (by simpa using h2);simpa only [List.append_assoc] using this
   have e3 : getN (yX ++ zT g 6 ++ zT e 6 ++ zT f 6 ++ zT m 6 ++ zT size 4 ++ yN 92) 16 6 = f := by
    have := rE (yX ++ zT g 6 ++ zT e 6) (zT m 6 ++ zT size 4 ++ yN 92) f 6 16 (by simp [l, yX]) (by simpa using h3);simpa only [List.append_assoc] using this
   have e4 : getN (yX ++ zT g 6 ++ zT e 6 ++ zT f 6 ++ zT m 6 ++ zT size 4 ++ yN 92) 22 6 = m := by
    have := rE (yX ++ zT g 6 ++ zT e 6 ++ zT f 6) (zT size 4 ++ yN 92) m 6 22 (by simp [l, yX]) (by simpa using h4);simpa only [List.append_assoc] using this
   rw [e1, e2, e3, e4]
theorem rK (t : List Int) : vM (tM t) = some t := by
 unfold vM tM;have h4 := pU t;rw [List.length_append, h4, Nat.add_sub_cancel, List.take_left, List.drop_left, if_pos ⟨by omega, rfl⟩]
theorem slotR_text {x : Dsk} (ho : x.off = false) {first size k : Nat} {h : Head} (hl : h.low) (hs : size < 4294967296) (hr : xP x (first + k) = some (yR h size)) : wX x first size k = (h, decide (0 < h.gen) && decide (h.gen % 2 = k)) := by
 obtain ⟨h1, h2, h3, h4⟩ := headRaw_back h hl size hs;unfold wX wZ;rw [ho, hr];simp only [yR, rK, h1, if_true, Bool.false_eq_true, if_false, h2, h3, and_self, h4]
structure qC.fine (p : qC) : Prop where
 num : p.num < 281474976710656
 epoch : p.epoch < 281474976710656
 bytes : p.bytes <= 8192
 index : p.index < need p.bytes
 len : p.data.length = min 104 (p.bytes - p.index * 104)
theorem pieceRaw_eq (p : qC) (hl : p.data.length <= 104) : wN p = yP ++ zT p.num 6 ++ zT p.epoch 6 ++ zT p.bytes 2 ++ zT p.index 2 ++ p.data ++ yN (104 - p.data.length) := by
 have l := yI;unfold wN;rw [show yN 120 = yN 6 ++ yN 114 from uS 6 114, <- List.append_assoc, sM _ _ _ _ (by rw [l]; rfl) 4 rfl];rw [show yN 114 = yN 6 ++ yN 108 from uS 6 108, <- List.append_assoc, sM _ _ _ _ (by rw [l]; rfl) 10 (by simp [l, yP])];rw [show yN 108 = yN 2 ++ yN 106 from uS 2 106, <- List.append_assoc, sM _ _ _ _ (by rw [l]; rfl) 16 (by simp [l, yP])];rw [show yN 106 = yN 2 ++ yN 104 from uS 2 104, <- List.append_assoc, sM _ _ _ _ (by rw [l]; rfl) 18 (by simp [l, yP])];rw [show yN 104 = yN p.data.length ++ yN (104 - p.data.length) by rw [<- uS]; congr 1; omega, <- List.append_assoc, sM _ _ _ _ (wF _) 20 (by simp [l, yP])]
theorem lX (p : qC) (h : p.fine) : (wN p).take 4 = yP /\ getN (wN p) 4 6 = p.num /\ getN (wN p) 10 6 = p.epoch /\ getN (wN p) 16 2 = p.bytes /\ getN (wN p) 18 2 = p.index /\
 rC ((wN p).drop (20 + p.data.length)) = true /\ ((wN p).take (20 + p.data.length)).drop 20 = p.data := by
 have l := yI;have hl := h.len;rw [pieceRaw_eq p (by omega)];obtain ⟨n, e, b, i, d⟩ := p;obtain ⟨h1, h2, h3, h4, -⟩ := h;simp only at h1 h2 h3 h4 hl ⊢;have hn79 := mR b;refine ⟨?_, ?_, ?_, ?_, ?_, ?_, ?_⟩
 . simp only [List.append_assoc];exact List.take_left (l₁ := yP)
 . simp only [List.append_assoc]; rw [<- List.append_assoc]; exact rE _ _ n 6 4 rfl (by simpa using h1)
 . have := rE (yP ++ zT n 6) (zT b 2 ++ zT i 2 ++ d ++ yN (104 - d.length)) e 6 10 (by simp [l, yP]) (by simpa using h2);simpa only [List.append_assoc] using this
 . have := rE (yP ++ zT n 6 ++ zT e 6) (zT i 2 ++ d ++ yN (104 - d.length)) b 2 16 (by simp [l, yP]) (by simp; omega);simpa only [List.append_assoc] using this
 . have := rE (yP ++ zT n 6 ++ zT e 6 ++ zT b 2) (d ++ yN (104 - d.length)) i 2 18 (by simp [l, yP]) (by simp; omega);simpa only [List.append_assoc] using this
 . rw [show 20 + d.length = (yP ++ zT n 6 ++ zT e 6 ++ zT b 2 ++ zT i 2 ++ d).length by simp [l, yP]; omega, List.drop_left];exact jX _
 . rw [show 20 + d.length = (yP ++ zT n 6 ++ zT e 6 ++ zT b 2 ++ zT i 2 ++ d).length by simp [l, yP]; omega, List.take_left, show 20 = (yP ++ zT n 6 ++ zT e 6 ++ zT b 2 ++ zT i 2).length by simp [l, yP], List.drop_left]
theorem gJ {x : Dsk} (ho : x.off = false) {first size n : Nat} {p : qC} (h : p.fine) (hn : p.num = n) (hr : xP x (wY first size n) = some (tM (wN p))) : xR x first size n = .ok p := by
 obtain ⟨h1, h2, h3, h4, h5, h6, h7⟩ := lX p h;unfold xR wZ;rw [ho, hr];have he : sJ (wN p) = 20 + p.data.length := by unfold sJ; rw [h4, h5, h.len]
 simp only [rK, h1, if_true, Bool.false_eq_true, if_false];rw [h2, h4, h5, he, if_neg (by have := h.index; omega), h6, h7, if_pos rfl];unfold oB;rw [h2, h3, h4, h5]
abbrev Rc := List Int × Nat
def Chain (x : Dsk) (first size n : Nat) (r : Rc) : Prop := ∀ j, j < need r.1.length -> xP x (wY first size (n + j)) = some (uE n r.2 r.1 j)
theorem kB {n : Nat} (h : n <= 8192) : 1 <= need n /\ n <= 104 * need n := by unfold need; rw [if_pos h]; omega
theorem piece_fine {n ep : Nat} {rec : List Int} {j : Nat} (hl : rec.length <= 8192) (hj : j < need rec.length) (hn : n + need rec.length <= 281474976710656) (he : ep < 281474976710656) : qC.fine ⟨n + j, ep, rec.length, j, nE rec j⟩ :=
 ⟨by show n + j < _; omega, he, hl, hj, kL _ _⟩
theorem fA {x : Dsk} (ho : x.off = false) {first size n : Nat} {r : Rc} (h : Chain x first size n r) (hl : r.1.length <= 8192) (hn : n + need r.1.length <= 281474976710656) (he : r.2 < 281474976710656) {j : Nat} (hj : j < need r.1.length) :
 xR x first size (n + j) = .ok ⟨n + j, r.2, r.1.length, j, nE r.1 j⟩ := gJ ho (piece_fine hl hj hn he) rfl (h j hj)
theorem chunk_take (rec : List Int) (k : Nat) : rec.take (104 * k) ++ nE rec k = rec.take (104 * (k + 1)) := by
 unfold nE;rw [show k * 104 = 104 * k by omega, show 104 * (k + 1) = 104 * k + 104 by omega, List.take_add]
theorem gH {x : Dsk} (ho : x.off = false) {first size n : Nat} {r : Rc} (h : Chain x first size n r) (hl : r.1.length <= 8192) (hn : n + need r.1.length <= 281474976710656) (he : r.2 < 281474976710656) :
 ∀ k, k < need r.1.length -> oM x first size n ⟨n, r.2, r.1.length, 0, nE r.1 0⟩ k = .ok (r.1.take (104 * (k + 1)))
 | 0, _ => by
  show Except.ok (nE r.1 0) = _
  congr 1
 | k + 1, hk => by
  unfold oM;rw [gH ho h hl hn he k (by omega)];simp only;rw [fA ho h hl hn he hk];simp only [ne_eq, not_true_eq_false, or_self, if_false];rw [chunk_take]
theorem lR {x : Dsk} (ho : x.off = false) {first size n least most : Nat} {r : Rc} (h : Chain x first size n r) (hl : r.1.length <= 8192) (hn : n + need r.1.length <= 281474976710656) (he : r.2 < 281474976710656) (h1 : least <= r.2) (h2 : r.2 <= most) :
 xL x first size n least most = .ok r := by
 have hp := kB hl;unfold xL;have h0 := fA ho h hl hn he (j := 0) (by omega);rw [Nat.add_zero] at h0;rw [h0];simp only;rw [if_neg (by omega), gH ho h hl hn he _ (by omega)];simp only;rw [show 104 * (need r.1.length - 1 + 1) = 104 * need r.1.length by congr 1; omega, List.take_of_length_le hp.2]
def endN : Nat -> List Rc -> Nat
 | n, [] => n
 | n, r :: rs => endN (n + need r.1.length) rs
def xX : Nat -> List Rc -> List Nat
 | _, [] => []
 | n, r :: rs => n :: xX (n + need r.1.length) rs
def tY (x : Dsk) (first size : Nat) : Nat -> List Rc -> Prop
 | _, [] => True
 | n, r :: rs => Chain x first size n r /\ tY x first size (n + need r.1.length) rs
def Asc : Nat -> List Rc -> Prop
 | _, [] => True
 | l, r :: rs => l <= r.2 /\ Asc r.2 rs
def oE : Nat -> List Rc -> Nat
 | l, [] => l
 | _, r :: rs => oE r.2 rs
theorem endN_app : ∀ (n : Nat) (a b : List Rc), endN n (a ++ b) = endN (endN n a) b
 | _, [], _ => rfl
 | n, r :: rs, b => endN_app (n + need r.1.length) rs b
theorem mL : ∀ (n : Nat) (a b : List Rc), xX n (a ++ b) = xX n a ++ xX (endN n a) b
 | _, [], _ => rfl
 | n, r :: rs, b => by show n :: xX _ (rs ++ b) = _; rw [mL]; rfl
theorem wM : ∀ (n : Nat) (a : List Rc), (xX n a).length = a.length
 | _, [] => rfl
 | n, r :: rs => by show (xX _ rs).length + 1 = _; rw [wM]; rfl
theorem jJ {x : Dsk} {first size : Nat} : ∀ {n : Nat} {a b : List Rc}, tY x first size n (a ++ b) ↔ tY x first size n a /\ tY x first size (endN n a) b
 | n, [], b => by simp [tY, endN]
 | n, r :: rs, b => by
  show (Chain x first size n r /\ tY x first size _ (rs ++ b)) ↔ (Chain x first size n r /\ tY x first size _ rs) /\ _;rw [jJ (a := rs), and_assoc];rfl
theorem Asc_app : ∀ {l : Nat} {a b : List Rc}, Asc l (a ++ b) ↔ Asc l a /\ Asc (oE l a) b
 | l, [], b => by simp [Asc, oE]
 | l, r :: rs, b => by
  show (l <= r.2 /\ Asc r.2 (rs ++ b)) ↔ (l <= r.2 /\ Asc r.2 rs) /\ _;rw [Asc_app (a := rs), and_assoc];rfl
theorem gO : ∀ (l : Nat) (a b : List Rc), oE l (a ++ b) = oE (oE l a) b
 | _, [], _ => rfl
 | _, r :: rs, b => gO r.2 rs b
theorem nB : ∀ (n : Nat) (a : List Rc), n <= endN n a
 | _, [] => Nat.le_refl _
 | n, r :: rs => by have := nB (n + need r.1.length) rs; show n <= endN _ rs; omega
theorem kJ : ∀ (n : Nat) (a : List Rc), (∀ r ∈ a, r.1.length <= 8192) -> n + a.length <= endN n a
 | _, [], _ => Nat.le_refl _
 | n, r :: rs, h => by
  have := kJ (n + need r.1.length) rs λ s hs => h s (List.mem_cons_of_mem _ hs);have := (kB (h r (List.mem_cons_self))).1;show n + (rs.length + 1) <= endN _ rs;omega
theorem Asc.last : ∀ {l : Nat} {a : List Rc}, Asc l a -> ∀ {m}, l <= m -> (∀ r ∈ a, r.2 <= m) -> l <= oE l a /\ oE l a <= m
 | _, [], _, _, h, _ => ⟨Nat.le_refl _, h⟩
 | l, s :: rs, h, m, hm, ha => by
  have := h.2.last (ha s List.mem_cons_self) λ r hr => ha r (List.mem_cons_of_mem _ hr);exact ⟨Nat.le_trans h.1 this.1, this.2⟩
theorem sR : ∀ (n : Nat) (a : List Rc), (∀ r ∈ a, r.1.length <= 8192) -> (xX n a).Pairwise (· < ·) /\ ∀ m ∈ xX n a, n <= m /\ m < endN n a
 | _, [], _ => ⟨List.Pairwise.nil, λ m hm => by cases hm⟩
 | n, r :: rs, h => by
  obtain ⟨h1, h2⟩ := sR (n + need r.1.length) rs λ s hs => h s (List.mem_cons_of_mem _ hs);have hp := (kB (h r List.mem_cons_self)).1;have he := nB (n + need r.1.length) rs;refine ⟨List.pairwise_cons.2 ⟨λ m hm => by have := (h2 m hm).1; omega, h1⟩, λ m hm => ?_⟩;rcases List.mem_cons.1 hm with rfl | hm
  . exact ⟨Nat.le_refl _, by show m < endN _ rs; omega⟩
  . have := h2 m hm;exact ⟨by omega, this.2⟩
theorem jO {x : Dsk} (ho : x.off = false) {first size most h0 l0 : Nat} (hm : most < 281474976710656) : ∀ (rs : List Rc) (j n l : Nat) (st ep : List Nat), xY x first size most h0 l0 j = ⟨st, ep, n, l, true⟩ -> tY x first size n rs -> Asc l rs -> (∀ r ∈ rs, r.2 <= most /\ r.1.length <= 8192) ->
 h0 <= n -> endN n rs <= 281474976710656 -> endN n rs - h0 <= size - 2 -> xY x first size most h0 l0 (j + rs.length) = ⟨st ++ xX n rs, ep ++ rs.map Prod.snd, endN n rs, oE l rs, true⟩
 | [], j, n, l, st, ep, hs, _, _, _, _, _, _ => by simpa [xX, endN, oE] using hs
 | r :: rs, j, n, l, st, ep, hs, hc, ha, hr, h0n, h1, h2 => by
  obtain ⟨hr1, hr2⟩ := hr r List.mem_cons_self;have he := nB (n + need r.1.length) rs;have h1' : endN (n + need r.1.length) rs <= 281474976710656 := h1;have h2' : endN (n + need r.1.length) rs - h0 <= size - 2 := h2;have hstep : xY x first size most h0 l0 (j + 1) = ⟨st ++ [n], ep ++ [r.2], n + need r.1.length, r.2, true⟩ := by
   show (if (xY x first size most h0 l0 j).go then uX x first size most h0 (xY x first size most h0 l0 j) else _) = _;rw [hs, if_pos rfl];unfold uX;simp only;rw [lR ho hc.1 hr2 (by omega) (by omega) ha.1 hr1];simp only;rw [if_neg (by omega)]
  have := jO ho hm rs (j + 1) _ _ _ _ hstep hc.2 ha.2 (λ s hs => hr s (List.mem_cons_of_mem _ hs)) (by omega) h1' h2';rw [show j + (r :: rs).length = j + 1 + rs.length by simp; omega, this];simp [xX, endN, oE]
theorem scanR_chain {x : Dsk} (ho : x.off = false) {first size : Nat} {h : Head} (h2 : 2 < size) (hm : h.epoch < 281474976710656) {rs : List Rc} (hc : tY x first size h.first rs) (ha : Asc h.least rs) (hr : ∀ r ∈ rs, r.2 <= h.epoch /\ r.1.length <= 8192)
 (h1 : endN h.first rs <= 281474976710656) (h3 : endN h.first rs - h.first <= size - 2) {c : Int} (hs : xL x first size (endN h.first rs) (oE h.least rs) h.epoch = .error c) :
 scanR x first size h = ⟨xX h.first rs, rs.map Prod.snd, endN h.first rs, oE h.least rs, false⟩ := by
 have hu := jO ho (size := size) (h0 := h.first) (l0 := h.least) hm rs 0 h.first h.least [] [] rfl hc ha hr (Nat.le_refl _) h1 h3;rw [Nat.zero_add] at hu;have hlen := kJ h.first rs λ r hr' => (hr r hr').2;have hst : xY x first size h.epoch h.first h.least (rs.length + 1) = ⟨xX h.first rs, rs.map Prod.snd, endN h.first rs, oE h.least rs, false⟩ := by
  show (if (xY x first size h.epoch h.first h.least rs.length).go then uX x first size h.epoch h.first (xY x first size h.epoch h.first h.least rs.length) else _) = _;rw [hu, if_pos rfl];unfold uX;simp only;rw [hs];simp
 unfold scanR;rw [gD (j := rs.length + 1) (by rw [hst]) (by omega), hst]
def oN (first size : Nat) (x y : Dsk) : Prop := ∀ i, i < first \/ first + size <= i -> xP y i = xP x i
theorem oN.refl (first size : Nat) (x : Dsk) : oN first size x x := λ _ _ => rfl
theorem oN.trans {first size : Nat} {x y z : Dsk} (h1 : oN first size x y) (h2 : oN first size y z) : oN first size x z := λ i hi => (h2 i hi).trans (h1 i hi)
theorem readD_write (x : Dsk) (i j : Nat) (bs : List Int) (h : j ≠ i) : xP (vP x i bs) j = xP x j := by
 unfold vP
 split
 . rw [rN, if_neg h, readD_goes]
 . rw [readD_goes]
theorem keep_appX {x : Dsk} {first size n ep : Nat} {rec : List Int} (h2 : 2 < size) : ∀ j, oN first size x (appX x first size n ep rec j).1
 | 0 => .refl _ _ _
 | j + 1 => by
  have ih := keep_appX (x := x) (first := first) (n := n) (ep := ep) (rec := rec) h2 j;unfold appX
  split
  . rename_i y e; rw [e] at ih;refine ih.trans λ i hi => readD_write _ _ _ _ ?_;have := Nat.mod_lt (n + j) (show 0 < size - 2 by omega);unfold wY;omega
  . rename_i y e; rw [e] at ih; exact ih
theorem jY {x : Dsk} {first size : Nat} {L : LogS} {rec : List Int} (h2 : 2 < size) : oN first size x (yH x first size L rec).1 := by
 have h4 := keep_appX (x := x) (first := first) (n := L.next) (ep := L.head.epoch) (rec := rec) h2 (need rec.length);unfold yH
 split
 . exact .refl _ _ _
 . split
   . exact .refl _ _ _
   . split
     . exact .refl _ _ _
     . split
       . rename_i y e; rw [e] at h4; exact h4
       . rename_i y e; rw [e] at h4; exact h4
theorem fQ {x : Dsk} {first size : Nat} (h : x.wf) : oN first size x (vT x) := λ i _ => rO h i
theorem mM {x y : Dsk} (ho : y.off = x.off) {first size k : Nat} (hr : xP y (first + k) = xP x (first + k)) : wX y first size k = wX x first size k := by
 unfold wX wZ;rw [ho, hr]
theorem oT {x y : Dsk} (ho : y.off = x.off) {first size n : Nat} (hr : xP y (wY first size n) = xP x (wY first size n)) : xR y first size n = xR x first size n := by
 unfold xR wZ;rw [ho, hr]
theorem gG {x y : Dsk} {first size n : Nat} {p0 : qC} (h : ∀ m, n <= m -> xR y first size m = xR x first size m) : ∀ k, oM y first size n p0 k = oM x first size n p0 k
 | 0 => rfl
 | k + 1 => by unfold oM; rw [gG h k, h _ (by omega)]
theorem lQ {x y : Dsk} {first size n least most : Nat} (h : ∀ m, n <= m -> xR y first size m = xR x first size m) : xL y first size n least most = xL x first size n least most := by
 unfold xL;rw [h n (Nat.le_refl _)]
 split
 . rfl
 . rw [gG h]
theorem pieceR_of {x : Dsk} (ho : x.off = false) {first size n : Nat} {p q : qC} (hq : q.fine) (hr : xP x (wY first size n) = some (tM (wN q))) (h : xR x first size n = .ok p) : p = q /\ q.num = n := by
 obtain ⟨h1, h2, h3, h4, h5, h6, h7⟩ := lX q hq;have hn : q.num = n := by
  unfold xR wZ at h;rw [ho, hr] at h;simp only [rK, h1, if_true, Bool.false_eq_true, if_false] at h;rw [h2, h4, h5] at h;by_cases e : q.num = n
  . exact e
  . rw [if_pos (.inl e)] at h; cases h
 have := gJ ho hq hn hr;rw [this] at h;injection h with h;exact ⟨h.symm, hn⟩
theorem pX {x : Dsk} {first size n least most : Nat} (h : ∀ p, xR x first size n = .ok p -> p.epoch < least) : ∃ c, xL x first size n least most = .error c := by
 unfold xL
 split
 . exact ⟨_, rfl⟩
 . rename_i p hp;rw [if_pos (.inr (.inl (h p hp)))];exact ⟨_, rfl⟩
theorem recordR_most {x : Dsk} {first size n least most most' : Nat} (hp : ∀ p, xR x first size n = .ok p -> p.epoch <= most) {c : Int} (h : xL x first size n least most = .error c) : ∃ c, xL x first size n least most' = .error c := by
 unfold xL at h ⊢
 split
 . exact ⟨_, rfl⟩
 . rename_i p hq;rw [hq] at h;simp only at h;have hm := hp p hq
   split
   . exact ⟨_, rfl⟩
   . rename_i hc;rw [if_neg (by omega)] at h
     split
     . exact ⟨_, rfl⟩
     . rename_i d hd;rw [hd] at h
       cases h
theorem counts_of {x : Dsk} {first size : Nat} {h : Head} (hg : 0 < h.gen) (h1 : wX x first size (h.gen % 2) = (h, true)) (h2 : (wX x first size (1 - h.gen % 2)).2 = true -> (wX x first size (1 - h.gen % 2)).1.gen < h.gen) : yS x first size = (h, ((h.gen % 2 : Nat) : Int)) := by
 show kN (kN (vW, -1) 0 (wX x first size 0)) 1 (wX x first size 1) = _;have hn : vW.gen = 0 := rfl;rcases Nat.mod_two_eq_zero_or_one h.gen with e | e
 . rw [e] at h1 h2 ⊢;rw [h1];have h2' : (wX x first size 1).2 = true -> (wX x first size 1).1.gen < h.gen := h2;have e1 : kN (vW, -1) 0 (h, true) = (h, 0) := by unfold kN; rw [if_pos ⟨rfl, by rw [hn]; exact hg⟩]; rfl
   rw [e1];unfold kN;rw [if_neg (λ hc => by have := h2' hc.1; have := hc.2; simp only at this; omega)];rfl
 . rw [e] at h1 h2 ⊢;rw [h1];unfold kN;have hlt : (if (wX x first size 0).2 = true /\ (vW, (-1 : Int)).1.gen < (wX x first size 0).1.gen then ((wX x first size 0).1, ((0 : Nat) : Int)) else (vW, -1)).1.gen < h.gen := by
    split
    . rename_i hc; exact h2 hc.1
    . exact hg
   rw [if_pos ⟨rfl, hlt⟩]
structure LogV (x : Dsk) (first size : Nat) (L : LogS) (rs : List Rc) : Prop where
 wf : x.wf
 off : x.off = false
 fit : first + size <= x.dur.length
 size3 : 2 < size
 size6 : size <= 65536
 low : L.head.low
 gen : 0 < L.head.gen
 slot : xP x (first + L.head.gen % 2) = some (yR L.head size)
 other : (wX x first size (1 - L.head.gen % 2)).2 = true -> (wX x first size (1 - L.head.gen % 2)).1.gen < L.head.gen
 chain : tY x first size L.head.first rs
 starts : L.starts = xX L.head.first rs
 epochs : L.epochs = rs.map Prod.snd
 next : L.next = endN L.head.first rs
 asc : Asc L.head.least rs
 recs : ∀ r ∈ rs, r.2 <= L.head.epoch /\ r.1.length <= 8192
 least : L.head.least <= L.head.epoch
 big : L.next < 281474976710656
 ring : L.next - L.head.first <= size - 2
 up : L.fallen = false
 junk : ∀ n p, xR x first size n = .ok p -> p.epoch <= L.head.epoch /\ (n < L.next \/ p.epoch < L.head.epoch)
 stop : ∃ c, xL x first size L.next (oE L.head.least rs) L.head.epoch = .error c
theorem LogV.congr {x y : Dsk} {first size : Nat} {L : LogS} {rs : List Rc} (h : LogV x first size L rs) (hw : y.wf) (ho : y.off = false) (hl : y.dur.length = x.dur.length) (hr : ∀ i, first <= i -> i < first + size -> xP y i = xP x i) : LogV y first size L rs := by
 have ho' : y.off = x.off := by rw [ho, h.off]
 have hrr : ∀ n, xP y (wY first size n) = xP x (wY first size n) := λ n => by
  have := Nat.mod_lt n (show 0 < size - 2 by have := h.size3; omega);have := h.size3;exact hr _ (by unfold wY; omega) (by unfold wY; omega)
 have hp : ∀ n, xR y first size n = xR x first size n := λ n => oT ho' (hrr _);have hc : ∀ (rs : List Rc) (n : Nat), tY x first size n rs -> tY y first size n rs := by
  intro rs
  induction rs with
  | nil => exact λ _ _ => trivial
  | cons r rs ih => exact λ n h => ⟨λ j hj => by rw [hrr]; exact h.1 j hj, ih _ h.2⟩
 exact { h with wf := hw, off := ho, fit := by rw [hl]; exact h.fit, slot := by rw [hr _ (by omega) (by have := h.size3; omega)]; exact h.slot, other := by rw [mM ho' (hr _ (by omega) (by have := h.size3; omega))]; exact h.other, chain := hc _ _ h.chain, junk := λ n p e => h.junk n p (by rw [<- hp]; exact e), stop := by rw [lQ λ m _ => hp m]; exact h.stop }
theorem LogV.counts {x : Dsk} {first size : Nat} {L : LogS} {rs : List Rc} (h : LogV x first size L rs) : yS x first size = (L.head, ((L.head.gen % 2 : Nat) : Int)) := by
 refine counts_of h.gen ?_ h.other;rw [slotR_text h.off h.low (by have := h.size6; omega) h.slot];have := h.gen;simp [this]
theorem LogV.scan {x : Dsk} {first size : Nat} {L : LogS} {rs : List Rc} (h : LogV x first size L rs) : rB x first size L.head = { L with head := vW } := by
 obtain ⟨c, hc⟩ := h.stop;have hn := h.next;rw [hn] at hc;unfold rB;rw [scanR_chain h.off h.size3 h.low.2.1 h.chain h.asc h.recs (by have := h.big; omega) (by have := h.ring; omega) hc];have := h.starts;have := h.epochs;have := h.up;obtain ⟨hd, nx, st, ep, f⟩ := L
 simp_all
theorem LogV.turn {x : Dsk} {first size : Nat} {L : LogS} {rs : List Rc} (h : LogV x first size L rs) (on : x.on) {h' : Head} {rs' : List Rc} (hl : h'.low) (hg : h'.gen = L.head.gen + 1) (he : L.head.epoch <= h'.epoch) (hc : tY x first size h'.first rs') (hn : endN h'.first rs' = L.next)
    (ha : Asc h'.least rs') (hr : ∀ r ∈ rs', r.2 <= h'.epoch /\ r.1.length <= 8192) (hle : h'.least <= h'.epoch) (hri : L.next - h'.first <= size - 2) (hs : ∃ c, xL x first size L.next (oE h'.least rs') h'.epoch = .error c) :
    LogV (layX x (first + h'.gen % 2) (yR h' size)) first size ⟨h', L.next, xX h'.first rs', rs'.map Prod.snd, false⟩ rs' /\ (layX x (first + h'.gen % 2) (yR h' size)).on /\ layE x (first + h'.gen % 2) (yR h' size) = 0 := by
  have hi : first + h'.gen % 2 < x.dur.length := by have := h.fit; have := h.size3; omega
  have on' := on.layOn (first + h'.gen % 2) (yR h' size);have hrd := lU h.wf on hi (yR h' size);have hw' := h.wf.lay on hi (yR h' size);have hlen := sL x (first + h'.gen % 2) (yR h' size);refine ⟨?_, on', (on.lay _ _).2⟩;generalize layX x (first + h'.gen % 2) (yR h' size) = y at *;have ho' : y.off = x.off := by rw [on'.off, h.off]
  have hp : ∀ n, xR y first size n = xR x first size n := λ n => oT ho' (by rw [hrd, if_neg]; unfold wY; omega);have hcv : ∀ (rs : List Rc) (n : Nat), tY x first size n rs -> tY y first size n rs := by
    intro rs
    induction rs with
    | nil => exact λ _ _ => trivial
    | cons r rs ih => exact λ n h => ⟨λ j hj => by rw [hrd, if_neg (by unfold wY; omega)]; exact h.1 j hj, ih _ h.2⟩
  have hoth : wX y first size (1 - h'.gen % 2) = (L.head, true) := by
    rw [mM ho' (by rw [hrd, if_neg (by omega)]), show 1 - h'.gen % 2 = L.head.gen % 2 by omega, slotR_text h.off h.low (by have := h.size6; omega) h.slot];have := h.gen;simp [this]
  exact { wf := hw', off := on'.off, fit := by rw [hlen]; exact h.fit, size3 := h.size3, size6 := h.size6, low := hl, gen := by show 0 < h'.gen; omega, slot := by show xP y (first + h'.gen % 2) = _; rw [hrd, if_pos rfl], other := λ _ => by show (wX y first size (1 - h'.gen % 2)).1.gen < h'.gen; rw [hoth]; show L.head.gen < _; omega, chain := hcv _ _ hc, starts := rfl, epochs := rfl, next := hn.symm, asc := ha, recs := hr, least := hle, big := h.big, ring := hri, up := rfl, junk := λ n p e => by
            have := h.junk n p (by rw [<- hp]; exact e);exact ⟨by show p.epoch <= h'.epoch; omega, by show n < L.next \/ p.epoch < h'.epoch; omega⟩, stop := by show ∃ c, xL y first size L.next (oE h'.least rs') h'.epoch = .error c; rw [lQ λ m _ => hp m]; exact hs }
def firstE (d : Nat) : List Rc -> Nat
 | [] => d
 | r :: _ => r.2
def uF (L : LogS) (rs : List Rc) : Head := ⟨L.head.gen + 1, L.head.epoch + 1, L.head.first, firstE (L.head.epoch + 1) rs⟩
theorem LogV.open {x : Dsk} {first size : Nat} {L : LogS} {rs : List Rc} (h : LogV x first size L rs) (on : x.on) (hg : L.head.gen < 281474976710655) (he : L.head.epoch < 281474976710655) :
 (yT x first size).2.1 = 0 /\ (yT x first size).2.2 = { L with head := uF L rs } /\ LogV (yT x first size).1 first size { L with head := uF L rs } rs /\ (yT x first size).1.on /\ (yT x first size).1.dur.length = x.dur.length /\ oN first size x (yT x first size).1 := by
 have hlow := h.low;have hst := h.starts;have hep := h.epochs;have hup := h.up;have htH : sX { L with head := vW } (jE L.head) = uF L rs := by
  unfold sX jE uF
  congr 1
  simp only;rw [hst, hep]
  cases rs with
  | nil => simp [xX, firstE]
  | cons r rs =>
   have hpos : posU (xX L.head.first (r :: rs)) L.head.first = 0 := by
    refine rQ (Nat.zero_le _) (λ q n hq => absurd hq (Nat.not_lt_zero _)) λ q n _ hq => ?_;exact ((sR L.head.first (r :: rs) λ s hs => (h.recs s hs).2).2 n (List.mem_of_getElem? hq)).1
   rw [if_pos (by simp [xX]), hpos];simp [firstE]
 have hle' : (uF L rs).least <= L.head.epoch + 1 := by
  unfold uF
  cases rs with
  | nil => exact Nat.le_refl _
  | cons r rs => have := (h.recs r List.mem_cons_self).1; simp only [firstE]; omega
 obtain ⟨hV, hon, hE⟩ := h.turn on (h' := uF L rs) (rs' := rs) ⟨by show L.head.gen + 1 < _; omega, by show L.head.epoch + 1 < _; omega, hlow.2.2.1, by show (uF L rs).least < _; omega⟩ rfl (by show _ <= L.head.epoch + 1; omega) h.chain h.next.symm
  (by
   have := h.asc;unfold uF
   cases rs with
   | nil => trivial
   | cons r rs => exact ⟨Nat.le_refl _, this.2⟩)
  (λ r hr => ⟨by have := (h.recs r hr).1; show _ <= L.head.epoch + 1; omega, (h.recs r hr).2⟩) hle' h.ring
  (by
   obtain ⟨c, hc⟩ := h.stop
   cases rs with
   | nil =>
    refine pX λ p hp => ?_;have := (h.junk _ p hp).1;show p.epoch < L.head.epoch + 1;omega
   | cons r rs => exact recordR_most (λ p hp => (h.junk _ p hp).1) hc)
 have hL' : (⟨uF L rs, L.next, xX (uF L rs).first rs, rs.map Prod.snd, false⟩ : LogS) = { L with head := uF L rs } := by
  obtain ⟨hd, nx, st, ep, f⟩ := L;simp only at hst hep hup;subst hst hep hup;rfl
 rw [hL'] at hV;have e : yT x first size = (layX x (first + (uF L rs).gen % 2) (yR (uF L rs) size), 0, { L with head := uF L rs }) := by
  unfold yT;rw [h.counts, if_neg (by rw [h.off]; decide), if_neg (by simp only; omega), if_neg (by simp only; omega)];simp only;rw [h.scan];unfold qU tC tZ tC turnI;rw [htH];rw [show (jE L.head).gen = (uF L rs).gen from rfl, hE];rfl
 rw [e];exact ⟨rfl, rfl, hV, hon, sL _ _ _, λ i hi => by have h3 := h.size3; have hf := h.fit; rw [lU h.wf on (by omega), if_neg (by omega)]⟩
theorem ringN_inj {first size a b : Nat} (h : a <= b) (hb : b - a < size - 2) (e : wY first size a = wY first size b) : a = b := by
 unfold wY at e;have e1 : b % (size - 2) = a % (size - 2) := by omega
 have := Nat.sub_mod_eq_zero_of_mod_eq e1;rw [Nat.mod_eq_of_lt hb] at this;omega
theorem appX_on {x : Dsk} (hw : x.wf) (on : x.on) {first size n ep : Nat} (hf : first + size <= x.dur.length) (h3 : 2 < size) {rec : List Int} : ∀ j, j <= size - 2 -> ∃ y, appX x first size n ep rec j = (y, true) /\ y.wf /\ y.on /\ y.dur.length = x.dur.length /\
 (∀ i, i < j -> xP y (wY first size (n + i)) = some (uE n ep rec i)) /\ ∀ m, (∀ i, i < j -> m ≠ wY first size (n + i)) -> xP y m = xP x m
 | 0, _ => ⟨x, rfl, hw, on, rfl, λ i hi => absurd hi (Nat.not_lt_zero _), λ m _ => rfl⟩
 | j + 1, hj => by
  obtain ⟨y, e, yw, yon, yl, y1, y2⟩ := appX_on hw on hf h3 (rec := rec) (n := n) (ep := ep) j (by omega);have hrl : wY first size (n + j) < y.dur.length := by
   have := Nat.mod_lt (n + j) (show 0 < size - 2 by omega);unfold wY;omega
  refine ⟨uP y (wY first size (n + j)) (uE n ep rec j), ?_, yw.wrote hrl _, yon.wrote _ _, yl, λ i hi => ?_, λ m hm => ?_⟩
  . unfold appX;rw [e];simp only;rw [yon.write, yon.goesB]
  . rw [rN];by_cases hij : i = j
    . subst hij; rw [if_pos rfl]
    . rw [if_neg (λ e => hij (by have := ringN_inj (by omega) (by omega) e; omega))];exact y1 i (by omega)
  . rw [rN, if_neg (hm j (Nat.lt_succ_self _))];exact y2 m λ i hi => hm i (by omega)
theorem tY.keep {x y : Dsk} {first size : Nat} : ∀ {n : Nat} {rs : List Rc}, tY x first size n rs -> (∀ m, n <= m -> m < endN n rs -> xP y (wY first size m) = xP x (wY first size m)) -> tY y first size n rs
 | _, [], _, _ => trivial
 | n, r :: rs, h, hk => by
  have he := nB (n + need r.1.length) rs;have hk' : ∀ m, n <= m -> m < endN (n + need r.1.length) rs -> xP y (wY first size m) = xP x (wY first size m) := hk;exact ⟨λ j hj => by rw [hk' _ (by omega) (by omega)]; exact h.1 j hj, h.2.keep λ m h1 h2 => hk' m (by omega) h2⟩
theorem LogV.append {x : Dsk} {first size : Nat} {L : LogS} {rs : List Rc} (h : LogV x first size L rs) (on : x.on) {rec : List Int} (hl : rec.length <= 8192) (hf : need rec.length <= L.free size) (hb : L.next + need rec.length < 281474976710656) :
    ∃ y, yH x first size L rec = (y, ⟨L.head, L.next + need rec.length, L.starts ++ [L.next], L.epochs ++ [L.head.epoch], false⟩, L.next, 0) /\
      LogV y first size ⟨L.head, L.next + need rec.length, L.starts ++ [L.next], L.epochs ++ [L.head.epoch], false⟩ (rs ++ [(rec, L.head.epoch)]) /\ y.on /\ y.dur.length = x.dur.length := by
  have hnp := kB hl;have hfr : L.next - L.head.first + need rec.length <= size - 2 := by unfold LogS.free at hf; have := h.ring; omega
  have hle : L.head.first <= L.next := by rw [h.next]; exact nB _ _
  obtain ⟨y, e, yw, yon, yl, y1, y2⟩ := appX_on h.wf on (n := L.next) (ep := L.head.epoch) h.fit h.size3 (rec := rec) (need rec.length) (by omega);refine ⟨y, ?_, ?_, yon, yl⟩
  . unfold yH;rw [h.up, h.off, if_neg (by decide), if_neg (by omega), if_neg (by omega), e];rfl
  have ho' : y.off = x.off := by rw [yon.off, h.off]
  have hold : ∀ m, L.head.first <= m -> m < L.next -> xP y (wY first size m) = xP x (wY first size m) := λ m h1 h2 => y2 _ λ i hi e => by
    have := ringN_inj (by omega) (by omega) e;omega
  have hslot : ∀ k, k < 2 -> xP y (first + k) = xP x (first + k) := λ k hk => y2 _ λ i hi => by unfold wY; omega
  have hpn : ∀ n p, xR y first size n = .ok p -> p.epoch <= L.head.epoch /\ (n < L.next + need rec.length \/ p.epoch < L.head.epoch) := λ n p hp => by
    by_cases hx : ∃ i, i < need rec.length /\ wY first size n = wY first size (L.next + i)
    . obtain ⟨i, hi, e⟩ := hx;have := y1 i hi;rw [<- e] at this;obtain ⟨rfl, hn⟩ := pieceR_of yon.off (piece_fine hl hi (by omega) h.low.2.1) this hp;have hn' : L.next + i = n := hn;exact ⟨Nat.le_refl _, .inl (by omega)⟩
    . rw [oT ho' (y2 _ λ i hi e => hx ⟨i, hi, e⟩)] at hp;have := h.junk n p hp;exact ⟨this.1, by omega⟩
  have hend : endN L.head.first (rs ++ [(rec, L.head.epoch)]) = L.next + need rec.length := by rw [endN_app, <- h.next]; rfl
  have hlast : oE L.head.least (rs ++ [(rec, L.head.epoch)]) = L.head.epoch := by rw [gO]; rfl
  exact { wf := yw, off := yon.off, fit := by rw [yl]; exact h.fit, size3 := h.size3, size6 := h.size6, low := h.low, gen := h.gen, slot := by show xP y (first + L.head.gen % 2) = _; rw [hslot _ (Nat.mod_lt _ (by decide))]; exact h.slot, other := by show (wX y first size (1 - L.head.gen % 2)).2 = true -> _; rw [mM ho' (hslot _ (by omega))]; exact h.other, chain := jJ.2 ⟨h.chain.keep λ m h1 h2 => hold m h1 (by rw [h.next]; exact h2), ⟨λ j hj => by rw [<- h.next]; exact y1 j hj, trivial⟩⟩, starts := by show L.starts ++ [L.next] = xX L.head.first _; rw [mL, <- h.next, <- h.starts]; rfl, epochs := by show L.epochs ++ [L.head.epoch] = _; rw [List.map_append, <- h.epochs]; rfl, next := hend.symm, asc := Asc_app.2 ⟨h.asc, ⟨(h.asc.last h.least λ r hr => (h.recs r hr).1).2, trivial⟩⟩, recs := λ r hr => by
            rcases List.mem_append.1 hr with hr | hr
            . exact h.recs r hr
            . rw [List.mem_singleton.1 hr]; exact ⟨Nat.le_refl _, hl⟩, least := h.least, big := hb, ring := by show L.next + need rec.length - L.head.first <= size - 2; omega, up := rfl, junk := hpn, stop := by
            rw [hlast];exact pX λ p hp => by have := (hpn _ p hp).2; simp only at this; omega }
theorem LogV.flush {x : Dsk} {first size : Nat} {L : LogS} {rs : List Rc} (h : LogV x first size L rs) (on : x.on) : wL x L = (vT x, L, 0) /\ LogV (vT x) first size L rs /\ (vT x).on /\ (vT x).dur.length = x.dur.length := by
 have hl : (vT x).dur.length = x.dur.length := by rw [<- on.flush]; exact sE x
 refine ⟨?_, h.congr h.wf.flushed on.flushed.off hl (λ i _ _ => rO h.wf i), on.flushed, hl⟩;unfold wL;rw [h.up, h.off, if_neg (by decide), on.goesB, on.flush];have := h.up;obtain ⟨hd, nx, st, ep, f⟩ := L;simp only at this;subst this;rfl
theorem LogV.trim {x : Dsk} {first size : Nat} {L : LogS} {a b : List Rc} (h : LogV x first size L (a ++ b)) (on : x.on) (hg : L.head.gen < 281474976710655) (ha : a ≠ []) :
 ∃ y L', oK x first size L (endN L.head.first a) = (y, L', 0) /\ LogV y first size L' b /\ y.on /\ y.dur.length = x.dur.length /\ L'.next = L.next /\ L'.head.gen = L.head.gen + 1 /\ L'.head.epoch = L.head.epoch /\ L'.head.first = endN L.head.first a := by
 obtain ⟨n, hn⟩ : ∃ n, endN L.head.first a = n := ⟨_, rfl⟩;have hrec := h.recs;have hmany := kJ L.head.first a λ r hr => (hrec r (List.mem_append_left _ hr)).2;have hpos : 0 < a.length := List.length_pos_iff.2 ha;have hlt : L.head.first < n := by omega
 have hnext : L.next = endN n b := by rw [h.next, endN_app, hn]
 have hle := nB n b;have hst : L.starts = xX L.head.first a ++ xX n b := by rw [h.starts, mL, hn]
 have hep : L.epochs = a.map Prod.snd ++ b.map Prod.snd := by rw [h.epochs, List.map_append]
 have hra := sR L.head.first a λ r hr => (hrec r (List.mem_append_left _ hr)).2;have hrb := sR n b λ r hr => (hrec r (List.mem_append_right _ hr)).2;have hp : posU L.starts n = a.length := by
  refine rQ (by rw [hst]; simp [wM]) (λ q m hq hm => ?_) λ q m hq hm => ?_
  . rw [hst, List.getElem?_append_left (by rw [wM]; exact hq)] at hm;have := (hra.2 m (List.mem_of_getElem? hm)).2;omega
  . rw [hst, List.getElem?_append_right (by rw [wM]; exact hq)] at hm;exact (hrb.2 m (List.mem_of_getElem? hm)).1
 obtain ⟨h', hh'⟩ : ∃ h', sX L (pQ L n) = h' := ⟨_, rfl⟩;have hfall : L.fall x.off = L := by
  unfold LogS.fall;have := h.up;rw [h.off, this];obtain ⟨hd, nx, st, ep, f⟩ := L;simp only at this;subst this;rfl
 have hbig := h.big;have hcase : h' = ⟨L.head.gen + 1, L.head.epoch, n, firstE L.head.epoch b⟩ := by
  rw [<- hh'];unfold sX pQ
  congr 1
  simp only
  cases b with
  | nil =>
   rw [if_neg]
   . rfl
   rw [hst];simp only [xX, List.append_nil];intro hm;have := (hra.2 n hm).2;omega
  | cons r b =>
   rw [if_pos (by rw [hst]; simp [xX]), hp, hep];simp [firstE]
 have hlow := h.low;have hle' : h'.least <= L.head.epoch := by
  rw [hcase]
  cases b with
  | nil => exact Nat.le_refl _
  | cons r b => exact (hrec r (by simp)).1
 have hg' : h'.gen = L.head.gen + 1 := by rw [hcase]
 have he' : h'.epoch = L.head.epoch := by rw [hcase]
 have hf' : h'.first = n := by rw [hcase]
 obtain ⟨hV, hon, hE⟩ := h.turn on (h' := h') (rs' := b) ⟨by rw [hg']; omega, by rw [he']; exact hlow.2.1, by rw [hf']; omega, by have := hlow.2.1; omega⟩ hg' (by rw [he']; exact Nat.le_refl _)
  (by rw [hf', <- hn]; exact (jJ.1 h.chain).2) (by rw [hf', hnext])
  (by
   have := (Asc_app.1 h.asc).2;rw [hcase]
   cases b with
   | nil => trivial
   | cons r b => exact ⟨Nat.le_refl _, this.2⟩)
  (λ r hr => by rw [he']; exact hrec r (List.mem_append_right _ hr)) (by rw [he']; exact hle') (by rw [hf']; have := h.ring; omega)
  (by
   obtain ⟨c, hc⟩ := h.stop;rw [he']
   cases b with
   | nil =>
    refine pX λ p hp => ?_;have := (h.junk _ p hp).2;have hl : oE h'.least [] = L.head.epoch := by rw [hcase]; rfl
    rw [hl];omega
   | cons r b =>
    rw [gO] at hc;exact ⟨c, hc⟩)
 refine ⟨_, _, ?_, hV, hon, sL _ _ _, rfl, hg', he', by rw [hn]; exact hf'⟩;rw [hn];unfold oK;rw [h.up, h.off, if_neg (by decide), if_neg (by omega), if_neg, if_neg (by omega)]
 . have hfall' : L.fall false = L := by rw [<- h.off]; exact hfall
   rw [hfall'];unfold tC qU turnI;rw [hh'];rw [show (pQ L n).gen = h'.gen by rw [hg']; rfl, hE, if_pos rfl, hp]
   congr 2
   rw [hst, hep, hf', List.drop_left' (wM _ _), List.drop_left' (by simp)];rfl
 . intro hc;obtain ⟨h1, h2⟩ := hc
   cases b with
   | nil => exact h2 hnext.symm
   | cons r b => exact h1 (by rw [hst]; simp [xX])
theorem jM {x : Dsk} {i : Nat} {M : List Int} (hM : M ≠ yN 4) (h : xP x i = some (yN 128)) : ∃ c, wZ x i M = .error c := by
 unfold wZ
 split
 . exact ⟨_, rfl⟩
 . rw [h];simp only
   split
   . exact ⟨_, rfl⟩
   . rename_i t ht;have ht' := (pN ht).2.1;rw [if_neg]
     . exact ⟨_, rfl⟩
     . rw [ht', wF];intro e;apply hM;rw [<- e];rfl
theorem slotR_zero {x : Dsk} {first size k : Nat} (h : xP x (first + k) = some (yN 128)) : wX x first size k = (vW, false) := by
 obtain ⟨c, hc⟩ := jM (M := yX) (by decide) h;unfold wX;rw [hc]
theorem pieceR_zero {x : Dsk} {first size n : Nat} (h : xP x (wY first size n) = some (yN 128)) : ∃ c, xR x first size n = .error c := by
 obtain ⟨c, hc⟩ := jM (M := yP) (by decide) h;unfold xR;rw [hc];exact ⟨c, rfl⟩
theorem fmtE_on {x : Dsk} (hw : x.wf) (on : x.on) {first k : Nat} (hf : first + 1 < x.dur.length) : ∀ i, ∃ y, fmtE x first k i = (y, 0) /\ y.wf /\ y.on /\ y.dur.length = x.dur.length /\ (∀ j, j < i -> xP y (first + (k + j) % 2) = some (yN 128)) /\ ∀ m, (∀ j, j < i -> m ≠ first + (k + j) % 2) -> xP y m = xP x m
 | 0 => ⟨x, rfl, hw, on, rfl, λ j hj => absurd hj (Nat.not_lt_zero _), λ m _ => rfl⟩
 | i + 1 => by
  obtain ⟨y, e, yw, yon, yl, y1, y2⟩ := fmtE_on hw on hf (k := k) i;have hi : first + (k + i) % 2 < y.dur.length := by omega
  have hr := lU yw yon hi (yN 128);refine ⟨layX y (first + (k + i) % 2) (yN 128), ?_, yw.lay yon hi _, yon.layOn _ _, by rw [sL, yl], λ j hj => ?_, λ m hm => ?_⟩
  . unfold fmtE;rw [e];simp only [if_true];rw [(yon.lay _ _).2]
  . rw [hr]
    split
    . rfl
    . exact y1 j (by rename_i h; rcases Nat.lt_succ_iff_lt_or_eq.1 hj with h' | h'; exact h'; subst h'; exact absurd rfl h)
  . rw [hr, if_neg (hm i (Nat.lt_succ_self _))];exact y2 m λ j hj => hm j (by omega)
theorem fmtW_on {x : Dsk} (hw : x.wf) (on : x.on) {first : Nat} : ∀ i, first + 2 + i <= x.dur.length -> ∃ y, fmtW x first i = (y, true) /\ y.wf /\ y.on /\ y.dur.length = x.dur.length /\ (∀ j, j < i -> xP y (first + (2 + j)) = some (yN 128)) /\ ∀ m, (∀ j, j < i -> m ≠ first + (2 + j)) -> xP y m = xP x m
 | 0, _ => ⟨x, rfl, hw, on, rfl, λ j hj => absurd hj (Nat.not_lt_zero _), λ m _ => rfl⟩
 | i + 1, hf => by
  obtain ⟨y, e, yw, yon, yl, y1, y2⟩ := fmtW_on hw on (first := first) i (by omega);have hi : first + (2 + i) < y.dur.length := by omega
  have hr : ∀ m, xP (uP y (first + (2 + i) : Nat) (yN 128)) m = if m = first + (2 + i) then some (yN 128) else xP y m := λ m => rN y _ m _;refine ⟨uP y (first + (2 + i) : Nat) (yN 128), ?_, yw.wrote hi _, yon.wrote _ _, yl, λ j hj => ?_, λ m hm => ?_⟩
  . unfold fmtW;rw [e];simp only [if_true];rw [yon.write, yon.goesB]
  . rw [hr]
    split
    . rfl
    . exact y1 j (by omega)
  . rw [hr, if_neg (hm i (Nat.lt_succ_self _))];exact y2 m λ j hj => hm j (by omega)
theorem format_on {x : Dsk} (hw : x.wf) (on : x.on) {first size : Nat} (h3 : 2 < size) (h6 : size <= 65536) (hf : first + size <= x.dur.length) :
 ∃ y, xS x first size = (y, 0) /\ LogV y first size ⟨mY, 0, [], [], false⟩ [] /\ y.on /\ y.dur.length = x.dur.length /\ oN first size x y := by
 obtain ⟨y, e1, yw, yon, yl, y1, y2⟩ := fmtE_on hw on (first := first) (k := fmtK x first size) (by omega) 2;obtain ⟨z, e2, zw, zon, zl, z1, z2⟩ := fmtW_on yw yon (first := first) (size - 2) (by omega);have fl : (vT z).dur.length = z.dur.length := by rw [<- zon.flush]; exact sE z
 have hi : first + 1 < (vT z).dur.length := by omega
 have hr := lU zw.flushed zon.flushed hi (yR mY size);have won := zon.flushed.layOn (first + 1) (yR mY size);refine ⟨layX (vT z) (first + 1) (yR mY size), ?_, ?_, won, by rw [sL]; omega, λ i hi0 => ?_⟩
 rotate_right
 . rw [hr, if_neg (by omega), rO zw, z2 i λ j hj => by omega];exact y2 i λ j hj => by omega
 . unfold xS;rw [on.off, if_neg (by decide), e1];simp only;rw [if_neg (by simp), e2];simp only;rw [if_neg (by simp), zon.goesB, if_neg (by simp), zon.flush, (zon.flushed.lay _ _).2]
 have hk := fmtK_lt x first size;have hslot : ∀ k, k < 2 -> xP z (first + k) = some (yN 128) := λ k hk' => by
  rw [z2 _ λ j hj => by omega];have h0 := y1 0 (by decide);have h1 := y1 1 (by decide);rcases (show (fmtK x first size + 0) % 2 = k \/ (fmtK x first size + 1) % 2 = k by omega) with e | e
  . rw [<- e]; exact h0
  . rw [<- e]; exact h1
 generalize hW : layX (vT z) (first + 1) (yR mY size) = w at *;have hring : ∀ n, xP w (wY first size n) = some (yN 128) := λ n => by
  have hm := Nat.mod_lt n (show 0 < size - 2 by omega);rw [hr, if_neg (by unfold wY; omega), rO zw];have := z1 (n % (size - 2)) hm;unfold wY;rw [show first + 2 + n % (size - 2) = first + (2 + n % (size - 2)) by omega];exact this
 have hno : ∀ n p, xR w first size n ≠ .ok p := λ n p hp => by
  obtain ⟨c, hc⟩ := pieceR_zero (hring n);rw [hc] at hp
  cases hp
 have hoth : (wX w first size (1 - mY.gen % 2)).2 = true -> (wX w first size (1 - mY.gen % 2)).1.gen < mY.gen := by
  show (wX w first size 0).2 = true -> _;rw [slotR_zero (by rw [hr, if_neg (by omega), rO zw]; exact hslot 0 (by decide))];exact λ h => by cases h
 exact { wf := by rw [<- hW]; exact zw.flushed.lay zon.flushed hi _, off := won.off, fit := by rw [<- hW, sL]; omega, size3 := h3, size6 := h6, low := ⟨by decide, by decide, by decide, by decide⟩, gen := by decide, slot := by show xP w (first + 1) = _; rw [hr, if_pos rfl], other := hoth, chain := trivial, starts := rfl, epochs := rfl, next := rfl, asc := trivial, recs := (λ r hr => by cases hr), least := Nat.le_refl _, big := by decide, ring := Nat.zero_le _, up := rfl, junk := λ n p hp => absurd hp (hno n p), stop := pX λ p hp => absurd hp (hno _ p) }
theorem LogV.has {x : Dsk} {first size : Nat} {L : LogS} {rs : List Rc} (h : LogV x first size L rs) : HasRecs x first size L ((xX L.head.first rs).zip (rs.map Prod.fst)) := by
 refine ⟨by rw [List.map_fst_zip (by rw [wM, List.length_map]; exact Nat.le_refl _)]; exact h.starts.symm, λ e he => ?_⟩;have hkey : ∀ (rs : List Rc) (n : Nat), tY x first size n rs -> (∀ r ∈ rs, r.2 <= L.head.epoch /\ r.1.length <= 8192) -> endN n rs < 281474976710656 -> ∀ e ∈ (xX n rs).zip (rs.map Prod.fst), ∃ ep, xL x first size e.1 0 L.head.epoch = .ok (e.2, ep) := by
  intro rs
  induction rs with
  | nil => exact λ n _ _ _ e he => by cases he
  | cons r rs ih =>
   intro n hc hr hb e he;have hle := nB (n + need r.1.length) rs;have hb' : endN (n + need r.1.length) rs < 281474976710656 := hb;obtain ⟨r1, r2⟩ := hr r List.mem_cons_self;rcases List.mem_cons.1 he with rfl | he
   . exact ⟨r.2, lR h.off hc.1 r2 (by show n + need r.1.length <= _; omega) (by have := h.low.2.1; omega) (Nat.zero_le _) r1⟩
   . exact ih _ hc.2 (λ s hs => hr s (List.mem_cons_of_mem _ hs)) hb' e he
 exact hkey rs _ h.chain h.recs (by rw [<- h.next]; exact h.big) e he
theorem LogV.has_snd {L : LogS} (rs : List Rc) : ((xX L.head.first rs).zip (rs.map Prod.fst)).map Prod.snd = rs.map Prod.fst := List.map_snd_zip (by rw [wM, List.length_map]; exact Nat.le_refl _)
theorem tformat_on {x : Dsk} (hw : x.wf) (on : x.on) {first size : Nat} (h3 : 83 <= size) (h6 : size <= 65536) (hf : first + size <= x.dur.length) :
 ∃ y L, nM x first size = (y, 0) /\ LogV y first size L [(yO [] 0, 1)] /\ y.on /\ y.dur.length = x.dur.length /\ L.head.gen = 2 /\ L.head.epoch = 1 /\ L.head.first = 0 /\ oN first size x y := by
 obtain ⟨y, e1, hV, yon, yl, yk⟩ := format_on hw on (by omega) h6 hf;obtain ⟨o1, o2, o3, o4, o5, o6⟩ := hV.open yon (by decide) (by decide);have hl21 : (yO [] 0).length <= 21 := by
  have := qP 0 (yF 0) (by decide) (by decide);unfold yO;simpa using this
 have hlen : (yO [] 0).length <= 8192 := by omega
 have hneed : need (yO [] 0).length = 1 := by unfold need; rw [if_pos hlen]; omega
 obtain ⟨z, a1, a2, a3, a4⟩ := o3.append o4 (rec := yO [] 0) hlen (by rw [hneed]; unfold LogS.free uF mY; simp only; omega) (by rw [hneed]; decide);obtain ⟨f1, f2, f3, f4⟩ := a2.flush a3;have hka := jY (x := (yT y first size).1) (first := first) (size := size) (L := { (⟨mY, 0, [], [], false⟩ : LogS) with head := uF ⟨mY, 0, [], [], false⟩ [] }) (rec := yO [] 0) (by omega);rw [a1] at hka;refine ⟨vT z, _, ?_, f2, f3, by omega, rfl, rfl, rfl, ((yk.trans o6).trans hka).trans (fQ a2.wf)⟩;unfold nM;rw [e1];simp only;rw [if_neg (by simp), o1, if_neg (by simp), o2, a1];simp only;rw [if_neg (by simp), f1]
def vR (w : World) (F : Nat -> Prop) (v : Value) (ps : List Pr) : Prop := ∃ a cap, v = .slice a ps.length cap /\ ∀ i p, ps[i]? = some p ->
 ∃ g o va vb, a = some ⟨g, o, none⟩ /\ w.cell? ⟨g, o + i * 2, none⟩ = some va /\ w.cell? ⟨g, o + i * 2 + 1, none⟩ = some vb /\ SrcE w va (u8s p.1) /\ Src w vb (u8s p.2) /\ ¬ F g /\ ∀ j, obk va = some j \/ obk vb = some j -> j < w.heap.size /\ ¬ F j
theorem vR.ext {w w' : World} {F S : Nat -> Prop} {v : Value} {ps : List Pr} (h : vR w F v ps) (hX : Ext S w w') (hS : ∀ j, S j -> F j) : vR w' F v ps := by
 obtain ⟨a, cap, rfl, h⟩ := h;refine ⟨a, cap, rfl, λ i c hc => ?_⟩;obtain ⟨g, o, va, vb, rfl, h1, h2, h4, h5, h6, h7⟩ := h i c hc;exact ⟨g, o, va, vb, rfl, hX.cell_some h1 λ e => h6 (hS _ e), hX.cell_some h2 λ e => h6 (hS _ e), h4.ext hX λ j hj e => (h7 j (.inl hj)).2 (hS _ e), iJ h5 hX λ j hj e => (h7 j (.inr hj)).2 (hS _ e), h6, λ j hj => ⟨Nat.lt_of_lt_of_le (h7 j hj).1 hX.size, (h7 j hj).2⟩⟩
theorem vR.below {w w' : World} {F : Nat -> Prop} {v : Value} {ps : List Pr} (h : vR w F v ps) (hb : Below w.heap.size w w') : vR w' F v ps :=
 h.ext (S := λ _ => False) (Ext.of_below hb) λ _ e => e.elim
theorem vR.mono {w : World} {F G : Nat -> Prop} {v : Value} {ps : List Pr} (h : vR w F v ps) (hF : ∀ j, G j -> F j \/ w.heap.size <= j) : vR w G v ps := by
 obtain ⟨a, cap, rfl, h⟩ := h;refine ⟨a, cap, rfl, λ i c hc => ?_⟩;obtain ⟨g, o, va, vb, rfl, h1, h2, h4, h5, h6, h7⟩ := h i c hc;have hg := block_lt_of_cell h1;have hno : ∀ j, j < w.heap.size -> ¬ F j -> ¬ G j := λ j hj hf hG => (hF j hG).elim hf λ e => by omega
 exact ⟨g, o, va, vb, rfl, h1, h2, h4, h5, hno g hg h6, λ j hj => ⟨(h7 j hj).1, hno j (h7 j hj).1 (h7 j hj).2⟩⟩
theorem vR.nil (w : World) (F : Nat -> Prop) : vR w F (.slice none 0 0) [] := ⟨none, 0, rfl, λ i p h => by simp at h⟩
theorem vR.at {w : World} {F : Nat -> Prop} {a : Option Addr} {n cap : Nat} {ps : List Pr} (h : vR w F (.slice a n cap) ps) {i : Nat} {p : Pr} (hp : ps[i]? = some p) :
 ∃ g o va vb, a = some ⟨g, o, none⟩ /\ w.cell? ⟨g, o + i * 2, none⟩ = some va /\ w.cell? ⟨g, o + i * 2 + 1, none⟩ = some vb /\ SrcE w va (u8s p.1) /\ Src w vb (u8s p.2) /\ ¬ F g /\ ∀ j, obk va = some j \/ obk vb = some j -> j < w.heap.size /\ ¬ F j := by
 obtain ⟨a', cap', e, h⟩ := h;injection e with e1 e2 e3;subst e1;exact h i p hp
theorem liveN_upto {ps : List Pr} (hl : ps.length <= 1048576) (hg : ∀ p ∈ ps, p.1.length <= 1048576 /\ p.2.length <= 1048576) : zU ps <= 4398046511104 := by
 have key : ∀ ps : List Pr, (∀ p ∈ ps, p.1.length <= 1048576 /\ p.2.length <= 1048576) -> zU ps <= 4194304 * ps.length := by
  intro ps
  induction ps with
  | nil => exact λ _ => Nat.zero_le _
  | cons p ps ih =>
   intro h;have h1 := ih λ q hq => h q (List.mem_cons_of_mem _ hq);obtain ⟨h2, h3⟩ := h p List.mem_cons_self;have h4 := xU p.1.length (by omega);have h5 := xU p.2.length (by omega);have h6 : yY p.1 p.2 <= 4194304 := by unfold yY wW; simp only [List.length_append, zH]; omega
   rw [rI, List.length_cons];omega
 have := key ps hg;omega
theorem liveN_succ {ps : List Pr} {i : Nat} {p : Pr} (h : ps[i]? = some p) : zU (ps.take (i + 1)) = zU (ps.take i) + yY p.1 p.2 := by
 rw [List.take_add_one, h, Option.toList_some, uH, rI];simp [zU]
theorem rY (F : Nat -> Prop) (v : Value) (ps : List Pr) (w : World) (h : vR w F v ps) (hl : ps.length <= 1048576) (hg : ∀ p ∈ ps, p.1.length <= 1048576 /\ p.2.length <= 1048576) (hne : ∀ p ∈ ps, p.1 ≠ []) :
 Calls Tryz.prog 25 #[v] w λ e w' => e = .returned (.int .i64 (zU ps)) /\ Below w.heap.size w w' := by
 have hmax := liveN_upto hl hg;obtain ⟨a, cap, rfl, -⟩ := id h;obtain ⟨n, hn⟩ : ∃ n, ps.length = n := ⟨_, rfl⟩;rw [hn] at h hl ⊢;have H := zB (zC h hg);have Hn := zB hn;have hle : ∀ i, zU (ps.take i) <= zU ps := λ i => by
  have := uH (ps.take i) (ps.drop i);rw [List.take_append_drop] at this;omega
 have Hle := zB hle;have Hmax := zB hmax;clear h hg hn hle hmax;go_enter Tryz.func25, Tryz.ntmps25
 go_wp2_with fail
 go_loopw [3, 4, 5] (λ vn vi _ wr => ∃ i : Nat, vn = .int .i64 (zU (ps.take i)) /\ vi = .int .i64 i /\ i <= n /\ Below w.heap.size w wr) (λ _ vi _ _ => n - (intOf vi).toNat)
 case atStart => exact ⟨0, rfl, rfl, Nat.zero_le _, Below.refl _ _⟩
 case round =>
  obtain ⟨i, rfl, rfl, hi, hB⟩ := hrel;by_cases hin : i < n
  . have hin' : (i : Int) < (n : Int) := by omega
    obtain ⟨p, hp⟩ : ∃ p, ps[i]? = some p := ⟨_, List.getElem?_eq_getElem (by rw [Hn.out]; exact hin)⟩;obtain ⟨g, o, va, vb, rfl, c1, c2, s1, s2, -, -⟩ := (H.out.1.below hB).at hp;obtain ⟨g1, g2⟩ := H.out.2 p (List.mem_of_getElem? hp);have s1 := s1.src λ e => hne p (List.mem_of_getElem? hp) (List.map_eq_nil_iff.1 e);obtain ⟨m, hm⟩ : ∃ m, zU (ps.take i) = m := ⟨_, rfl⟩;have hsum := liveN_succ hp;have hm2 := Hle.out (i + 1);have hmx := Hmax.out;rw [hm] at hsum;rw [hsum] at hm2;rw [hm];have HS := zB hsum;have hs0 : Src wr (.slice none 0 0) [] := .inr ⟨rfl, rfl⟩;have HA := zB (wC (.slice none 0 0) va [] (u8s p.1) wr hs0 s1 (λ u h => by cases h) (yU _) (by decide) (by rw [zH]; omega));have HC := zB (zC c1 (zC c2 s2));have Hp := zB (zC hp (zC g1 g2));have hl1 := xU p.1.length (by omega);clear hs0 s1 s2 c2 hsum hp hm g1 g2
    go_wp2_with fail
    refine HA.out.mono ?_;rintro e w1 ⟨u, rfl, hown, hB1⟩;have hB2 := hB.trans (hB1.mono hB.size);have c2 := zG hB1 HC.out.2.1;have HA2 := zB (wC u vb _ (u8s p.2) w1 (Src.of_owns hown) (HC.out.2.2.below hB1) (by rw [List.nil_append]; exact mS (yU _)) (yU _) (by have := Hp.out.2.1; simp [wW, zH]; omega) (by have := Hp.out.2.2; rw [zH]; omega));clear hown hB1 c1
    go_wp2_with fail
    refine HA2.out.mono ?_;rintro e w2 ⟨u2, rfl, hown2, hB3⟩;obtain ⟨a2, c3, rfl, -⟩ := zP hown2;have hle : (([] ++ wW (u8s p.1)) ++ wW (u8s p.2)).length = yY p.1 p.2 := by simp [yY]
    rw [hle];have hB4 := hB2.trans (hB3.mono hB2.size);clear hown2 hle c2;have e1 := IntWalk.i64_in ((m : Int) + (yY p.1 p.2 : Nat)) (by omega)
    go_wp2_with fail
    refine ⟨⟨i + 1, by rw [HS.out]; push_cast; rfl, by simp, by omega, hB4⟩, ?_⟩;show n - ((i : Int) + 1).toNat < n - (i : Int).toNat;omega
  . obtain rfl : i = n := by omega
    have hi' : ¬ ((i : Int) < (i : Int)) := by omega
    have ht : ps.take i = ps := List.take_of_length_le (by rw [Hn.out]; exact Nat.le_refl _);rw [ht];clear ht
    go_wp2_with fail
    go_ret
    exact ⟨rfl, hB⟩
end Go.Proofs.YtbjofbhhnmehgaaGreatDoor.TT
namespace Go.Proofs.YtbjofbhhnmehgaaGreatDoor.TT
open Go.RowKit Go.RG Go.Hp Go.Proofs.YtbjofbhhnmehgaaGreatDoor
attribute [local go_sem] Oper.semAt_some
structure IsI (w5 : World) (B1 B2 : Nat) (ts ps : List Pr) (pre : List (Value × Value)) (W : World) : Prop where
 below : Below B1 w5 W
 eq : ts.take pre.length = ps.take pre.length
 len : pre.length <= ts.length /\ pre.length <= ps.length
 one : W.heap[B1]? = some (.cells #[.bool false] 4 (0, 0))
 two : W.heap[B2]? = some (.cells #[.int .i64 pre.length] 3 (0, 0))
theorem IsI.box {w5 W : World} {B1 B2 : Nat} {ts ps : List Pr} {pre : List (Value × Value)} (h : IsI w5 B1 B2 ts ps pre W) : pK B1 B2 W :=
 ⟨⟨_, _, h.one, λ j hj => by cases hj⟩, ⟨_, _, h.two, λ j hj => by cases hj⟩⟩
theorem gR {w5 A B : World} {B1 : Nat} {row : Option Nat} (hB : B1 <= w5.heap.size) (h1 : Below B1 w5 A) (hg : A.grownBy B row) (hr : ∀ r, row = some r -> w5.heap.size <= r) : Below B1 w5 B :=
 ⟨hg.os.trans h1.os, hg.tape.trans h1.tape, hg.output.trans h1.output, Nat.le_trans h1.size hg.size, λ k hk => (hg.block k (Nat.lt_of_lt_of_le (Nat.lt_of_lt_of_le hk hB) h1.size) λ e => by have := hr k e.symm; omega).trans (h1.block k hk)⟩
theorem isI_own {w5 : World} {B1 B2 : Nat} {ts ps : List Pr} (hB : B1 <= w5.heap.size) : OwnFrom w5.heap.size (IsI w5 B1 B2 ts ps) := by
 rintro pre A B row ⟨h1, h2, h3, h4, h5⟩ hg hr;have hX := oZ hg λ r e => (hr r e).2;have hc1 : wR A B1 := ⟨_, h4, rfl⟩;have hc2 : wR A B2 := ⟨_, h5, rfl⟩;exact ⟨gR hB h1 hg λ r e => (hr r e).1, h2, h3, (hX.block _ hc1.lt (λ h => h hc1)).trans h4, (hX.block _ hc2.lt (λ h => h hc2)).trans h5⟩
structure IsX (w5 : World) (B1 : Nat) (ts ps : List Pr) (W : World) : Prop where
 below : Below B1 w5 W
 ne : ts ≠ ps
 one : W.heap[B1]? = some (.cells #[.bool false] 4 (0, 0))
theorem isX_own {w5 : World} {B1 : Nat} {ts ps : List Pr} (hB : B1 <= w5.heap.size) (c : Code) : OwnFrom w5.heap.size (λ (_ : List (Value × Value)) W => c = .ret /\ IsX w5 B1 ts ps W) := by
 rintro pre A B row ⟨rfl, h1, h2, h4⟩ hg hr;have hX := oZ hg λ r e => (hr r e).2;have hc1 : wR A B1 := ⟨_, h4, rfl⟩;exact ⟨rfl, gR hB h1 hg λ r e => (hr r e).1, h2, (hX.block _ hc1.lt (λ h => h hc1)).trans h4⟩
def IsO (w5 : World) (B1 B2 : Nat) (ts : List Pr) (pre : List (Value × Value)) (x : Value × Value) (W : World) : Prop :=
 pK B1 B2 W /\ ∃ p, ts[pre.length]? = some p /\ Src W x.1 (u8s p.1) /\ Src W x.2 (u8s p.2) /\ ∀ j, x.1.ownBlock = some j \/ x.2.ownBlock = some j -> fF B1 B2 W j
theorem isO_own {w5 : World} {B1 B2 : Nat} {ts : List Pr} {pre : List (Value × Value)} {x : Value × Value} : OwnFrom w5.heap.size (λ (_ : Unit) W => IsO w5 B1 B2 ts pre x W) := by
 rintro - A B row ⟨h0, p, h1, h2, h3, h4⟩ hg hr;have hX := oZ hg λ r e => (hr r e).2;obtain ⟨k1, k2⟩ := (pD B1 B2).grown A B row h0 hg λ r e => (hr r e).2;exact ⟨k1, p, h1, xG h2 hX λ j hj h => h (h4 j (.inl hj)).1, xG h3 hX λ j hj h => h (h4 j (.inr hj)).1, λ j hj => (k2 j (h4 j hj)).1⟩
theorem isI_step {w5 W U : World} {B1 B2 : Nat} {ts ps : List Pr} {pre : List (Value × Value)} {x : Value × Value} {p : Pr} {X : Nat -> Prop} (hB12 : B1 < B2) (hB2 : B2 < w5.heap.size) (hI : IsI w5 B1 B2 ts ps pre W) (h1 : ts[pre.length]? = some p) (h2 : ps[pre.length]? = some p) (hU : Below W.heap.size W U) :
 KeepsFrom w5.heap.size W (U.setCell ⟨B2, 0, none⟩ (.int .i64 ((pre.length : Int) + 1))) /\ pJ (pK B1 B2) (fF B1 B2) X W (U.setCell ⟨B2, 0, none⟩ (.int .i64 ((pre.length : Int) + 1))) /\ IsI w5 B1 B2 ts ps (pre ++ [x]) (U.setCell ⟨B2, 0, none⟩ (.int .i64 ((pre.length : Int) + 1))) := by
 have hX1 : Ext (· = B2) U (U.setCell ⟨B2, 0, none⟩ (.int .i64 ((pre.length : Int) + 1))) := Ext.setCell (S := (· = B2)) (p := ⟨B2, 0, none⟩) rfl _;have t2 := yB (j := 0) (zK hU hI.two) (.int .i64 ((pre.length : Int) + 1));generalize U.setCell ⟨B2, 0, none⟩ (.int .i64 ((pre.length : Int) + 1)) = V at *;have hX : Ext (· = B2) W V := (Ext.of_below hU).trans hX1 λ _ _ h => h;have hw5 := hI.below.size;have hB1W := zI hI.one;have hB2W := zI hI.two;have t1 := (hX.block _ hB1W (by omega)).trans hI.one;have hnew : IsI w5 B1 B2 ts ps (pre ++ [x]) V := by
  refine ⟨?_, ?_, ?_, t1, ?_⟩
  . exact hI.below.trans ⟨hX.os, hX.tape, hX.output, hX.size, λ k hk => hX.block k (by omega) (by omega)⟩
  . rw [List.length_append, List.length_singleton, List.take_add_one, List.take_add_one, h1, h2, hI.eq]
  . have := (List.getElem?_eq_some_iff.1 h1).1;have := (List.getElem?_eq_some_iff.1 h2).1;simp;omega
  . rw [t2];simp
 refine ⟨⟨hX.size, λ k o hk ho hc => (hX.block k (zI ho) (by omega)).trans ho⟩, ⟨λ _ => hnew.box, hX.size, λ h0 k hk _ => ?_⟩, hnew⟩;obtain ⟨h3, h4, h5, h6⟩ := hk;have hkk := hX.block k h3.lt h5;refine ⟨⟨by obtain ⟨o, h7, h8⟩ := h3; exact ⟨o, hkk.trans h7, h8⟩, h4, h5, λ v hv => ?_⟩, hkk⟩;rcases hv with hv | hv
 . have : V.cell? ⟨B1, 0, none⟩ = some (.bool false) := by simp [World.cell?, t1]
   rw [this] at hv;injection hv with hv;subst hv;exact λ e => by cases e
 . have : V.cell? ⟨B2, 0, none⟩ = some (.int .i64 ((pre.length : Int) + 1)) := by simp [World.cell?, t2]
   rw [this] at hv;injection hv with hv;subst hv;exact λ e => by cases e
theorem isX_step {w5 W U : World} {B1 B2 : Nat} {ts ps : List Pr} {pre : List (Value × Value)} (hB12 : B1 < B2) (hB2 : B2 < w5.heap.size) (hI : IsI w5 B1 B2 ts ps pre W) (hne : ts ≠ ps) (hU : Below W.heap.size W U) :
 KeepsFrom w5.heap.size W (U.setCell ⟨B1, 0, none⟩ (.bool false)) /\ IsX w5 B1 ts ps (U.setCell ⟨B1, 0, none⟩ (.bool false)) := by
 have hX1 : Ext (· = B1) U (U.setCell ⟨B1, 0, none⟩ (.bool false)) := Ext.setCell (S := (· = B1)) (p := ⟨B1, 0, none⟩) rfl _;have t2 := yB (j := 0) (zK hU hI.one) (.bool false);generalize U.setCell ⟨B1, 0, none⟩ (.bool false) = V at *;have hX : Ext (· = B1) W V := (Ext.of_below hU).trans hX1 λ _ _ h => h;have hw5 := hI.below.size;exact ⟨⟨hX.size, λ k o hk ho hc => (hX.block k (zI ho) (by omega)).trans ho⟩, hI.below.trans ⟨hX.os, hX.tape, hX.output, hX.size, λ k hk => hX.block k (by omega) (by omega)⟩, hne, t2⟩
theorem valP_mem {ps : List Pr} {p : Pr} (hr : yQ (zS ps)) (hp : p ∈ ps) : valP ps p.1 = p.2 := by
 have hk : p.1 ∈ zS ps := List.mem_map_of_mem hp;obtain ⟨v, h1, h2, h3⟩ := rA hr hk;rw [h3];obtain ⟨i, hi, hpi⟩ := List.mem_iff_getElem.1 hp;obtain ⟨j, hj, hpj⟩ := List.mem_iff_getElem.1 h2;have hnd := wO hr;have key : i = j := by
  refine (List.getElem_inj (h₀ := by unfold zS; rw [List.length_map]; exact hi) (h₁ := by unfold zS; rw [List.length_map]; exact hj) hnd).1 ?_;simp only [zS, List.getElem_map, hpi, hpj]
 subst key;rw [hpi] at hpj;rw [hpj]
theorem nilf_no (f : Fn) (x y : Array Value) (w : World) : Sem.run Tryz.prog (binOp BinOp.eql 60 (.func f x y) .nilFunc) w = .ok (.bool false) w := by kernel_rfl
theorem is_any (d l : Nat) (q : TBk) (T : TblS) (F : Nat -> Prop) (v : Value) (ps : List Pr) (w : World) (h : sH w d l q T) (hp : vR w F v ps) (hlive : T.live = zU T.ps) (hsum : T.live <= 1000000000) (hl : ps.length <= 1048576) (hg : ∀ p ∈ ps, p.1.length <= 1048576 /\ p.2.length <= 1048576) (hne : ∀ p ∈ ps, p.1 ≠ []) :
 Calls Tryz.prog 19 #[.pointer (some ⟨q.t, 0, none⟩), v] w λ e w' => e = .returned (.bool (decide (T.ps = ps))) /\ Below w.heap.size w w' := by
 obtain ⟨a, cap, rfl, -⟩ := id hp;obtain ⟨n, hn⟩ : ∃ n, ps.length = n := ⟨_, rfl⟩;rw [hn] at hp hl ⊢;obtain ⟨hb0, g0, g1, g2, g3, hs4⟩ := allocs4 w (.cells #[.pointer (some ⟨q.t, 0, none⟩)] 26) (.cells #[.slice a n cap] 44) (.cells #[.bool false] 4) (.cells #[.int .i64 0] 3);have HH := zB (zC h (zC hp (zC hlive (zC hsum (zC hl (zC hg hn))))));have HNE := zB hne;clear h hp hlive hsum hl hg hn hne;refine (callsIn_wide (n := 3)).1 ?_;refine callsIn_of_wp_marks Tryz.func19 rfl trivial ?_ rfl;simp only [Tryz.ntmps19, List.size_toArray, List.length_cons, List.length_nil, Nat.reduceAdd, Nat.reduceSub, Array.replicate_succ, Array.replicate_zero, List.push_toArray, List.append_toArray, List.nil_append, List.cons_append]
 gi_wp2_with fail
 obtain ⟨w4, hw4⟩ : ∃ w4, ((((w.alloc (.cells #[.pointer (some ⟨q.t, 0, none⟩)] 26)).alloc (.cells #[.slice a n cap] 44)).alloc (.cells #[.bool false] 4)).alloc (.cells #[.int .i64 0] 3)) = w4 := ⟨_, rfl⟩;rw [hw4] at hb0 g0 g1 g2 g3 hs4 ⊢;clear hw4;have H0 := zB (zC hb0 (zC g2 (zC g3 hs4)));have c0 : w4.cell? ⟨w.heap.size, 0, none⟩ = some (.pointer (some ⟨q.t, 0, none⟩)) := by simp [World.cell?, g0]
 have c1 : w4.cell? ⟨w.heap.size + 1, 0, none⟩ = some (.slice a n cap) := by simp [World.cell?, g1]
 clear hb0 g0 g1 g2 g3 hs4;have hsn : Src w4 (.slice none 0 0) (u8s []) := .inr ⟨rfl, rfl⟩;refine ⟨trivial, callsIn_wide.2 ((twalk_any (some ⟨q.t, 0, none⟩) (.slice none 0 0) (.slice none 0 0) [] [] w4 hsn hsn).mono ?_)⟩;rintro e w5 ⟨Bt, Bl, Bh, rfl, hbt, hbl, hbh, ct, cl, ch, hB5⟩;have c0 := zG hB5 c0;have c1 := zG hB5 c1;have HB := zB (zC hB5 (zC hbt (zC hbl (zC hbh (zC ct (zC cl ch))))));clear hsn hB5 hbt hbl hbh ct cl ch;have hnf := nilf_no
 gi_wp2_with fail
 clear hnf;have hs5 := HB.out.1.size;have hs4 := H0.out.2.2.2;have k1 := zK HB.out.1 H0.out.2.1;have k2 := zK HB.out.1 H0.out.2.2.1;have hBw : Below w.heap.size w w5 := H0.out.1.trans (HB.out.1.mono H0.out.1.size);have hT5 := HH.out.1.below hBw;have hX0 : pK (w.heap.size + 1 + 1) (w.heap.size + 1 + 1 + 1) w5 := ⟨⟨_, _, k1, λ j hj => (by cases hj)⟩, ⟨_, _, k2, λ j hj => (by cases hj)⟩⟩;have hI0 : IsI w5 (w.heap.size + 1 + 1) (w.heap.size + 1 + 1 + 1) T.ps ps [] w5 := ⟨Below.refl _ _, rfl, ⟨Nat.zero_le _, Nat.zero_le _⟩, k1, k2⟩;have hseq := walk_seq 2 d l q T [] [] w5 hT5 (λ b hb => by cases hb) (λ b hb => by cases hb) (by have h1 := HH.out.2.2.1; have h2 := HH.out.2.2.2.1; omega) Bt Bl Bh HB.out.2.2.2.2.1 HB.out.2.2.2.2.2.1 HB.out.2.2.2.2.2.2
  (pK (w.heap.size + 1 + 1) (w.heap.size + 1 + 1 + 1)) (fF (w.heap.size + 1 + 1) (w.heap.size + 1 + 1 + 1)) (pD _ _) hX0
 have hwr : walkR T.ps [] [] = T.ps := by
  unfold walkR kT;rw [if_pos rfl, List.take_length];have : posK (zS T.ps) [] = 0 := by
   unfold posK;exact List.countP_eq_zero.2 λ y _ => by cases y <;> simp [klt]
  rw [this];rfl
 rw [hwr] at hseq;have HI := zB (zC hBw (zC hI0 hT5));have hB12 : w.heap.size + 1 + 1 < w.heap.size + 1 + 1 + 1 := Nat.lt_succ_self _;have hB2 : w.heap.size + 1 + 1 + 1 < w5.heap.size := by omega
 have HB12 := zB (zC hB12 hB2);clear hI0 hT5 hBw hX0 k1 k2 hwr hB12 hB2 hs5 hs4;generalize hA0 : Act.mk _ [] = a0;refine jK (F := Fence.wide) rfl (by decide) (gf := 67) (lb := #[.pointer (some ⟨Bt, 0, none⟩), .pointer (some ⟨Bl, 0, none⟩), .pointer (some ⟨Bh, 0, none⟩)]) (by subst hA0; rfl) trivial (enters_of Tryz.func67 (by kernel_rfl) rfl) hseq (λ h k => h.trans k) (λ x W l o o' h1 h2 h3 h4 => pJ.putObj (pD _ _) W l o o' h2 h3) (Below.refl _ _) (λ _ => rfl)
  (IsI w5 (w.heap.size + 1 + 1) (w.heap.size + 1 + 1 + 1) T.ps ps) (λ c _ W => c = .ret /\ IsX w5 (w.heap.size + 1 + 1) T.ps ps W) (isI_own (by have := HB12.out.2; omega)) (λ c => isX_own (by have := HB12.out.2; omega) c) HI.out.2.1
  (λ pre x a' W => a' = { tmps := (((a0.tmps.setIfInBounds 16 x.1).setIfInBounds 17 x.2).setIfInBounds 7 x.1).setIfInBounds 8 x.2, defers := [] } /\ IsO w5 (w.heap.size + 1 + 1) (w.heap.size + 1 + 1 + 1) T.ps pre x W)
  (λ pre x a' u A B row hs hg hr => ⟨hs.1, isO_own (w5 := w5) u A B row hs.2 hg hr⟩) ?assign ?body ?done ?stop
 case assign =>
  rintro l pre ⟨x1, x2⟩ W K hI hok hK;subst hA0;obtain ⟨p, q1, q2, q3, q4, -⟩ := hok;dsimp only at q2 q3 q4 hK ⊢;obtain ⟨ay, cy, hyv, -⟩ := q2.src.shape;obtain ⟨az, cz, hzv, -⟩ := zP q3;rw [zH] at hyv;subst hyv;subst hzv;have HQ := zB (zC q2 (zC q3 q4));clear q2 q3 q4
  gi_wp2_with fail
  refine hK _ _ (KeepsFrom.refl _ _) (pJ.refl _) hI ⟨rfl, hI.box, ?_⟩;exact ⟨p, q1, HQ.out.1.src, Src.of_owns HQ.out.2.1, HQ.out.2.2⟩
 case body =>
  rintro l' pre ⟨x1, x2⟩ a' W hl' ⟨r, hr⟩ hI ⟨rfl, hX⟩;subst hA0;simp only [List.setIfInBounds_toArray, List.set_cons_succ, List.set_cons_zero];obtain ⟨i, hi⟩ : ∃ i, pre.length = i := ⟨_, rfl⟩;obtain ⟨hbox, p, hp1, s1, s2, hpr⟩ := hX;dsimp only at s1 s2 hpr ⊢;obtain ⟨ay, cy, hyv, -⟩ := s1.shape;obtain ⟨az, cz, hzv, -⟩ := s2.shape;rw [zH] at hyv hzv;subst hyv;subst hzv;have hWw : Below w.heap.size w W := HI.out.1.trans (hI.below.mono (by omega));have hb12 := HB12.out;have d0 : W.cell? ⟨w.heap.size, 0, none⟩ = some (.pointer (some ⟨q.t, 0, none⟩)) := (World.cell?_of_block (w := w5) (hI.below.block _ (by show w.heap.size < _; omega))).trans c0;have d1 : W.cell? ⟨w.heap.size + 1, 0, none⟩ = some (.slice a n cap) := (World.cell?_of_block (w := w5) (hI.below.block _ (by show w.heap.size + 1 < _; omega))).trans c1;have h1 := hI.one;have h2 := hI.two;rw [hi] at h2;have HK := zB (zC hI (zC (hi ▸ hp1) (zC s1 (zC s2 (zC (HH.out.1.below hWw) (zC (HH.out.2.1.below hWw) (zC hi (zC h1 h2))))))));clear hI hp1 s1 s2 hWw hb12 h1 h2 hi hr hbox hpr hl' c0 c1;by_cases hin : i < n
  . have hn20 : (i : Int) <= 1048576 := by have := HH.out.2.2.2.2.1; omega
    have hlt : ¬ (n : Int) <= (i : Int) := by omega
    have hi0 : (i : Int) < (n : Int) := by omega
    obtain ⟨p', hp'⟩ : ∃ p', ps[i]? = some p' := ⟨_, List.getElem?_eq_getElem (by rw [HH.out.2.2.2.2.2.2]; exact hin)⟩;obtain ⟨g, o, va, vb, rfl, ca, cb, sa, sb, -, -⟩ := HK.out.2.2.2.2.2.1.at hp';obtain ⟨l1, l2⟩ := HH.out.2.2.2.2.2.1 p' (List.mem_of_getElem? hp');obtain ⟨-, -, l3, l4⟩ := HK.out.2.2.2.2.1.good p (List.mem_of_getElem? HK.out.2.1);have HN1 := zB λ (hne : p ≠ p') => λ (U : World) (hU : Below W.heap.size W U) => isX_step (ps := ps) (ts := T.ps) HB12.out.1 HB12.out.2 HK.out.1 (λ e => by
     have h1 := HK.out.2.1;rw [e, hp'] at h1;exact hne (Option.some.inj h1).symm) hU
    have HP := zB (zC hp' (zC cb (zC sb (zC l2 l4))));have HY := zB (kM (.slice ay p.1.length cy) va p.1 p'.1 W HK.out.2.2.1.e sa (by omega) (by omega));clear hp' cb sa sb l1 l2 l3 l4;have y1 := zK (Below.refl W.heap.size W) HK.out.2.2.2.2.2.2.2.1;have y2 := zK (Below.refl W.heap.size W) HK.out.2.2.2.2.2.2.2.2;have z1 : (W).cell? ⟨w.heap.size + 1 + 1, 0, none⟩ = some (.bool false) := by simp [World.cell?, y1]
    have z2 : (W).cell? ⟨w.heap.size + 1 + 1 + 1, 0, none⟩ = some (.int .i64 i) := by simp [World.cell?, y2]
    have zf1 : (W).frozen? ⟨w.heap.size + 1 + 1, 0, none⟩ = false := by simp [World.frozen?, y1]
    have zf2 : (W).frozen? ⟨w.heap.size + 1 + 1 + 1, 0, none⟩ = false := by simp [World.frozen?, y2]
    clear y1 y2
    gi_wp2_with fail
    refine ⟨trivial, callsIn_wide.2 (HY.out.mono ?_)⟩;rintro e w1 ⟨rfl, hb1⟩;clear HY z1 z2 zf1 zf2;have d0 := zG hb1 d0;have d1 := zG hb1 d1;clear ca;by_cases hk1 : p.1 = p'.1
    . simp only [decide_eq_true hk1];have cb := zG hb1 HP.out.2.1;have HY := zB (kM (.slice az p.2.length cz) vb p.2 p'.2 w1 (HK.out.2.2.2.1.below hb1).e (HP.out.2.2.1.below hb1).e (by have := HP.out.2.2.2.2; omega) (by have := HP.out.2.2.2.1; omega));have y1 := zK hb1 HK.out.2.2.2.2.2.2.2.1;have y2 := zK hb1 HK.out.2.2.2.2.2.2.2.2;have z1 : (w1).cell? ⟨w.heap.size + 1 + 1, 0, none⟩ = some (.bool false) := by simp [World.cell?, y1]
      have z2 : (w1).cell? ⟨w.heap.size + 1 + 1 + 1, 0, none⟩ = some (.int .i64 i) := by simp [World.cell?, y2]
      have zf1 : (w1).frozen? ⟨w.heap.size + 1 + 1, 0, none⟩ = false := by simp [World.frozen?, y1]
      have zf2 : (w1).frozen? ⟨w.heap.size + 1 + 1 + 1, 0, none⟩ = false := by simp [World.frozen?, y2]
      clear y1 y2
      gi_wp2_with fail
      refine ⟨trivial, callsIn_wide.2 (HY.out.mono ?_)⟩;rintro e w2 ⟨rfl, hb2⟩;have hb2' := hb1.trans (hb2.mono hb1.size);have d0 := zG hb2 d0;clear HY z1 z2 zf1 zf2 cb d1;by_cases hk2 : p.2 = p'.2
      . simp only [decide_eq_true hk2];have hmem := List.mem_of_getElem? HK.out.2.1;obtain ⟨hkb, -, hkl, hvl⟩ := HK.out.2.2.2.2.1.good p hmem;have hkey : p.1 ∈ zS T.ps := List.mem_map_of_mem hmem;have hval : valP T.ps p.1 = p.2 := valP_mem HK.out.2.2.2.2.1.rise hmem;have HG := zB (tget_any d l q T (.slice ay p.1.length cy) p.1 w2 (HK.out.2.2.2.2.1.below hb2') (HK.out.2.2.1.below hb2') hkb (by omega));rw [decide_eq_true hkey, hval] at HG;have Hvl := zB hvl;have Hkk := zB (zC hk1 hk2);clear hmem hkb hkl hvl hkey hval hk1 hk2;have y1 := zK hb2' HK.out.2.2.2.2.2.2.2.1;have y2 := zK hb2' HK.out.2.2.2.2.2.2.2.2;have z1 : (w2).cell? ⟨w.heap.size + 1 + 1, 0, none⟩ = some (.bool false) := by simp [World.cell?, y1]
        have z2 : (w2).cell? ⟨w.heap.size + 1 + 1 + 1, 0, none⟩ = some (.int .i64 i) := by simp [World.cell?, y2]
        have zf1 : (w2).frozen? ⟨w.heap.size + 1 + 1, 0, none⟩ = false := by simp [World.frozen?, y1]
        have zf2 : (w2).frozen? ⟨w.heap.size + 1 + 1 + 1, 0, none⟩ = false := by simp [World.frozen?, y2]
        clear y1 y2
        gi_wp2_with fail
        refine ⟨trivial, callsIn_wide.2 (HG.out.mono ?_)⟩;rintro e w3 ⟨u, rfl, hown, hb3⟩;have hb3' := hb2'.trans (hb3.mono hb2'.size);clear HG z1 z2 zf1 zf2 d0;obtain ⟨au, cu, rfl, -⟩ := zP hown;have HY := zB (kM (.slice au p.2.length cu) (.slice az p.2.length cz) p.2 p.2 w3 (Src.of_owns hown).e (HK.out.2.2.2.1.below hb3').e (by have := Hvl.out; omega) (by have := Hvl.out; omega));clear hown;have y1 := zK hb3' HK.out.2.2.2.2.2.2.2.1;have y2 := zK hb3' HK.out.2.2.2.2.2.2.2.2;have z1 : (w3).cell? ⟨w.heap.size + 1 + 1, 0, none⟩ = some (.bool false) := by simp [World.cell?, y1]
        have z2 : (w3).cell? ⟨w.heap.size + 1 + 1 + 1, 0, none⟩ = some (.int .i64 i) := by simp [World.cell?, y2]
        have zf1 : (w3).frozen? ⟨w.heap.size + 1 + 1, 0, none⟩ = false := by simp [World.frozen?, y1]
        have zf2 : (w3).frozen? ⟨w.heap.size + 1 + 1 + 1, 0, none⟩ = false := by simp [World.frozen?, y2]
        clear y1 y2
        gi_wp2_with fail
        refine ⟨trivial, callsIn_wide.2 (HY.out.mono ?_)⟩;rintro e w4' ⟨rfl, hb4⟩;have hb4' := hb3'.trans (hb4.mono hb3'.size);clear HY z1 z2 zf1 zf2;simp only [decide_eq_true (rfl : p.2 = p.2)];have y1 := zK hb4' HK.out.2.2.2.2.2.2.2.1;have y2 := zK hb4' HK.out.2.2.2.2.2.2.2.2;have z1 : (w4').cell? ⟨w.heap.size + 1 + 1, 0, none⟩ = some (.bool false) := by simp [World.cell?, y1]
        have z2 : (w4').cell? ⟨w.heap.size + 1 + 1 + 1, 0, none⟩ = some (.int .i64 i) := by simp [World.cell?, y2]
        have zf1 : (w4').frozen? ⟨w.heap.size + 1 + 1, 0, none⟩ = false := by simp [World.frozen?, y1]
        have zf2 : (w4').frozen? ⟨w.heap.size + 1 + 1 + 1, 0, none⟩ = false := by simp [World.frozen?, y2]
        clear y1 y2;have hpp : p = p' := Prod.ext Hkk.out.1 Hkk.out.2;have hst := isI_step (x := (Value.slice ay p.1.length cy, Value.slice az p.2.length cz)) (X := λ j => (Value.slice ay p.1.length cy).ownBlock = some j \/ (Value.slice az p.2.length cz).ownBlock = some j) HB12.out.1 HB12.out.2 HK.out.1 (p := p) (by rw [HK.out.2.2.2.2.2.2.1]; exact HK.out.2.1) (by rw [HK.out.2.2.2.2.2.2.1, hpp]; exact HP.out.1) hb4';rw [HK.out.2.2.2.2.2.2.1] at hst;have HST := zB hst;clear hst hpp
        gi_wp2_with fail
        exact HST.out
      . simp only [decide_eq_false hk2];have y1 := zK hb2' HK.out.2.2.2.2.2.2.2.1;have y2 := zK hb2' HK.out.2.2.2.2.2.2.2.2;have z1 : (w2).cell? ⟨w.heap.size + 1 + 1, 0, none⟩ = some (.bool false) := by simp [World.cell?, y1]
        have z2 : (w2).cell? ⟨w.heap.size + 1 + 1 + 1, 0, none⟩ = some (.int .i64 i) := by simp [World.cell?, y2]
        have zf1 : (w2).frozen? ⟨w.heap.size + 1 + 1, 0, none⟩ = false := by simp [World.frozen?, y1]
        have zf2 : (w2).frozen? ⟨w.heap.size + 1 + 1 + 1, 0, none⟩ = false := by simp [World.frozen?, y2]
        clear y1 y2
        gi_wp2_with fail
        have hst := HN1.out (λ e => hk2 (by rw [e])) w2 hb2';exact ⟨hst.1, rfl, hst.2⟩
    . simp only [decide_eq_false hk1];have y1 := zK hb1 HK.out.2.2.2.2.2.2.2.1;have y2 := zK hb1 HK.out.2.2.2.2.2.2.2.2;have z1 : (w1).cell? ⟨w.heap.size + 1 + 1, 0, none⟩ = some (.bool false) := by simp [World.cell?, y1]
      have z2 : (w1).cell? ⟨w.heap.size + 1 + 1 + 1, 0, none⟩ = some (.int .i64 i) := by simp [World.cell?, y2]
      have zf1 : (w1).frozen? ⟨w.heap.size + 1 + 1, 0, none⟩ = false := by simp [World.frozen?, y1]
      have zf2 : (w1).frozen? ⟨w.heap.size + 1 + 1 + 1, 0, none⟩ = false := by simp [World.frozen?, y2]
      clear y1 y2
      gi_wp2_with fail
      refine ⟨trivial, ?_⟩
      gi_wp2_with fail
      have hst := HN1.out (λ e => hk1 (by rw [e])) w1 hb1;exact ⟨hst.1, rfl, hst.2⟩
  . have hge : (n : Int) <= (i : Int) := by omega
    have y1 := zK (Below.refl W.heap.size W) HK.out.2.2.2.2.2.2.2.1;have y2 := zK (Below.refl W.heap.size W) HK.out.2.2.2.2.2.2.2.2;have z1 : (W).cell? ⟨w.heap.size + 1 + 1, 0, none⟩ = some (.bool false) := by simp [World.cell?, y1]
    have z2 : (W).cell? ⟨w.heap.size + 1 + 1 + 1, 0, none⟩ = some (.int .i64 i) := by simp [World.cell?, y2]
    have zf1 : (W).frozen? ⟨w.heap.size + 1 + 1, 0, none⟩ = false := by simp [World.frozen?, y1]
    have zf2 : (W).frozen? ⟨w.heap.size + 1 + 1 + 1, 0, none⟩ = false := by simp [World.frozen?, y2]
    clear y1 y2
    gi_wp2_with fail
    refine ⟨trivial, ?_⟩
    gi_wp2_with fail
    refine ⟨trivial, ?_⟩
    gi_wp2_with fail
    have hst := isX_step (ps := ps) (ts := T.ps) HB12.out.1 HB12.out.2 HK.out.1 (λ e => by
     have h1 := (List.getElem?_eq_some_iff.1 HK.out.2.1).1;have h2 := HH.out.2.2.2.2.2.2;rw [e] at h1;omega) (Below.refl _ _)
    exact ⟨hst.1, rfl, hst.2⟩
 case stop =>
  rintro D c pre W hD hpre ⟨rfl, h⟩ hK;subst hA0;have hb12 := HB12.out;have hXD : Ext (· = D) W (W.putObj D (.deferred none)) := Ext.grown (grownBy_putObj' W D _) λ k e _ => (Option.some.inj e).symm;have y1 := (hXD.block _ (zI h.one) (by omega)).trans h.one;have z1 : (W.putObj D (.deferred none)).cell? ⟨w.heap.size + 1 + 1, 0, none⟩ = some (.bool false) := by simp [World.cell?, y1]
  have hBf : Below w.heap.size w (W.putObj D (.deferred none)) := (HI.out.1.trans (h.below.mono (by omega))).trans ⟨hXD.os, hXD.tape, hXD.output, hXD.size, λ k hk => hXD.block k (by have := HI.out.1.size; have := h.below.size; omega) (by have := HI.out.1.size; omega)⟩;have HZ := zB (zC z1 (zC hBf (zC h.ne hK)));clear hXD y1 z1 hBf h hK hb12
  gi_wp2_with fail
  refine ⟨by simp, .inl ⟨_, _, rfl, run_takeDeferred HZ.out.2.2.2, ?_⟩⟩;refine ⟨.bool false, by simp [results, Tryz.f19, go_sem, HZ.out.1], ?_⟩;rw [decide_eq_false HZ.out.2.2.1];exact ⟨rfl, HZ.out.2.1⟩
 case done =>
  rintro D zs W hD hS hI hK;subst hA0;have hb12 := HB12.out;obtain ⟨m, hm⟩ : ∃ m, T.ps.length = m := ⟨_, rfl⟩;have hz : zs.length = m := by rw [<- hm]; exact hS
  have hWw : Below w.heap.size w W := HI.out.1.trans (hI.below.mono (by omega));have d0 : W.cell? ⟨w.heap.size, 0, none⟩ = some (.pointer (some ⟨q.t, 0, none⟩)) := (World.cell?_of_block (w := w5) (hI.below.block _ (by show w.heap.size < _; omega))).trans c0;have d1 : W.cell? ⟨w.heap.size + 1, 0, none⟩ = some (.slice a n cap) := (World.cell?_of_block (w := w5) (hI.below.block _ (by show w.heap.size + 1 < _; omega))).trans c1;have h2 := hI.two;rw [hz] at h2;have d2 : W.cell? ⟨w.heap.size + 1 + 1 + 1, 0, none⟩ = some (.int .i64 m) := by simp [World.cell?, h2]
  have heq := hI.eq;have hle := hI.len;have h6 := HH.out.2.2.2.2.2.2;rw [hz, List.take_of_length_le (by omega)] at heq;rw [hz, h6] at hle;have hpost : ∀ (U : World) (r : Bool), Below W.heap.size W U -> Below w.heap.size w ((U.setCell ⟨w.heap.size + 1 + 1, 0, none⟩ (.bool r)).putObj D (.deferred none)) /\ ((U.setCell ⟨w.heap.size + 1 + 1, 0, none⟩ (.bool r)).putObj D (.deferred none)).cell? ⟨w.heap.size + 1 + 1, 0, none⟩ = some (.bool r) /\ (U.setCell ⟨w.heap.size + 1 + 1, 0, none⟩ (.bool r)).heap[D]? = some (.deferred (some [])) := λ U r hU => by
   have hws := hWw.size;have hw5 := HI.out.1.size;have hDW := zI hK;have hX1 : Ext (· = w.heap.size + 1 + 1) U (U.setCell ⟨w.heap.size + 1 + 1, 0, none⟩ (.bool r)) := Ext.setCell (S := (· = w.heap.size + 1 + 1)) (p := ⟨w.heap.size + 1 + 1, 0, none⟩) rfl _;have t1 := yB (j := 0) (zK hU hI.one) (.bool r);have t2 := (hX1.block D (by have := hU.size; omega) (by omega)).trans (zK hU hK);generalize U.setCell ⟨w.heap.size + 1 + 1, 0, none⟩ (.bool r) = V at *;have hXD : Ext (· = D) V (V.putObj D (.deferred none)) := Ext.grown (grownBy_putObj' V D _) λ k e _ => (Option.some.inj e).symm;have y1 := (hXD.block _ (zI t1) (by omega)).trans t1;have hb1 := hWw.trans (hU.mono hws);have hX : Ext (λ k => k = D \/ k = w.heap.size + 1 + 1) U (V.putObj D (.deferred none)) := (hX1.mono (λ _ _ h => .inr h)).trans hXD λ _ _ h => .inl h;refine ⟨hb1.trans ⟨hX.os, hX.tape, hX.output, hX.size, λ k hk => hX.block k (by have := hb1.size; omega) (by omega)⟩, by simp [World.cell?, y1], t2⟩
  have hT := HH.out.1.below hWw;have hP := HH.out.2.1.below hWw;have y1 := hI.one;have HK := zB (zC hT (zC hP (zC hpost y1)));clear hT hP hpost hI hK hz hS h2 hWw hb12 h6 c0 c1 y1;by_cases hmn : m = n
  . subst hmn;have hTp : T.ps = ps := by rw [heq, List.take_of_length_le (by rw [HH.out.2.2.2.2.2.2]; exact Nat.le_refl _)]
    have Hm := zB (zC hm hTp);clear hm hTp heq hle
    gi_wp2_with fail
    refine wpIn_wide.2 ?_;refine zR 18 (λ j => if j = 6 then some (λ v _ => v = .int .i64 m) else if j = 13 then some (λ v _ => v = .int .i64 T.live) else if j = 15 then some (λ v _ => v = .int .i64 T.live) else none) fol (by kernel_rfl) (λ U hU hh => ?_);clear hh;have q0 := zV hU d0;have q1 := zV hU d1;have q2 := zV hU d2
    repeat ((first | refine zL _ (by first | exact .inl rfl | exact .inr rfl) rfl rfl ?_ | (refine zJ ?_ rfl rfl (λ w1 hb1 hf1 => ?_) ?_; rotate_left; (go_simp; (try simp (disch := omega) only [zE, toNatUp, iteOmega]); (try go_simp); rfl)) | refine zM rfl ?_); simp only [zD])
    refine zW _ rfl (λ _ _ _ h _ => h) rfl (λ w1 hb1 hf1 => ?_) ?_
    . (unfold yE; go_simp; simp only [zN])
      refine (len_any d l q T _ (HK.out.1.below (zF hU hb1))).mono ?_;rintro e w' ⟨rfl, rfl⟩;rw [Hm.out.1];exact ⟨_, rfl, Below.refl _ _, rfl⟩
    rintro v6 W6 hB6 rfl;simp only [zD]
    repeat ((first | refine zL _ (by first | exact .inl rfl | exact .inr rfl) rfl rfl ?_ | (refine zJ ?_ rfl rfl (λ w1 hb1 hf1 => ?_) ?_; rotate_left; (go_simp; (try simp (disch := omega) only [zE, toNatUp, iteOmega]); (try go_simp); rfl)) | refine zM rfl ?_); simp only [zD])
    refine zW _ rfl (λ _ _ _ h _ => h) rfl (λ w1 hb1 hf1 => ?_) ?_
    . (unfold yE; go_simp; simp only [zN])
      refine (live_any d l q T _ (HK.out.1.below (zF hU hb1))).mono ?_;rintro e w' ⟨rfl, rfl⟩;exact ⟨_, rfl, Below.refl _ _, rfl⟩
    rintro v13 W13 hB13 rfl;simp only [zD]
    repeat ((first | refine zL _ (by first | exact .inl rfl | exact .inr rfl) rfl rfl ?_ | (refine zJ ?_ rfl rfl (λ w1 hb1 hf1 => ?_) ?_; rotate_left; (go_simp; (try simp (disch := omega) only [zE, toNatUp, iteOmega]); (try go_simp); rfl)) | refine zM rfl ?_); simp only [zD])
    refine zW _ rfl (λ _ _ _ h _ => h) rfl (λ w1 hb1 hf1 => ?_) ?_
    . (unfold yE; go_simp; simp only [zN])
      refine (rY F _ ps _ (HK.out.2.1.below (zF hU hb1)) (by rw [HH.out.2.2.2.2.2.2]; exact HH.out.2.2.2.2.1) HH.out.2.2.2.2.2.1 HNE.out).mono ?_;rintro e w' ⟨rfl, hB⟩;rw [<- Hm.out.2, <- HH.out.2.2.1];exact ⟨_, rfl, hB, rfl⟩
    rintro v15 W15 hB15 rfl;simp only [zD]
    repeat ((first | refine zL _ (by first | exact .inl rfl | exact .inr rfl) rfl rfl ?_ | (refine zJ ?_ rfl rfl (λ w1 hb1 hf1 => ?_) ?_; rotate_left; (go_simp; (try simp (disch := omega) only [zE, toNatUp, iteOmega]); (try go_simp); rfl)) | refine zM rfl ?_); simp only [zD])
    refine zZ ?_;have hBW := zF hU (zF hB6 (zF hB13 hB15));obtain ⟨r1, r2, r3⟩ := HK.out.2.2.1 W15 true hBW;have y1 := zK hBW HK.out.2.2.2;have z1 : W15.cell? ⟨w.heap.size + 1 + 1, 0, none⟩ = some (.bool false) := by simp [World.cell?, y1]
    have zf1 : W15.frozen? ⟨w.heap.size + 1 + 1, 0, none⟩ = false := by simp [World.frozen?, y1]
    have HZ := zB (zC r1 (zC r2 r3));clear r1 r2 r3 y1 q0 q1 q2 hB6 hB13 hB15 hBW hU d0 d1 d2
    go_wp2_with fail
    gi_wp2_with fail
    refine ⟨by simp, .inl ⟨_, _, rfl, run_takeDeferred HZ.out.2.2, ?_⟩⟩;refine ⟨.bool true, by simp [results, Tryz.f19, go_sem, HZ.out.2.1], ?_⟩;rw [decide_eq_true Hm.out.2];exact ⟨rfl, HZ.out.1⟩
  . have hne : T.ps ≠ ps := λ e => hmn (by rw [<- hm, e]; exact HH.out.2.2.2.2.2.2);have Hne := zB hne;have hmn' : ((m : Int) == (n : Int)) = false := by rw [beq_eq_false_iff_ne]; omega
    clear hne hm heq hle
    gi_wp2_with fail
    refine wpIn_wide.2 ?_;refine zR 18 (λ j => none) fol (by kernel_rfl) (λ U hU hh => ?_);clear hh;have q0 := zV hU d0;have q1 := zV hU d1;have q2 := zV hU d2
    repeat ((first | refine zL _ (by first | exact .inl rfl | exact .inr rfl) rfl rfl ?_ | (refine zJ ?_ rfl rfl (λ w1 hb1 hf1 => ?_) ?_; rotate_left; (go_simp; (try simp (disch := omega) only [zE, toNatUp, iteOmega]); (try go_simp); rfl)) | refine zM rfl ?_); simp only [zD])
    refine zZ ?_;obtain ⟨r1, r2, r3⟩ := HK.out.2.2.1 U false hU;have y1 := zK hU HK.out.2.2.2;have z1 : U.cell? ⟨w.heap.size + 1 + 1, 0, none⟩ = some (.bool false) := by simp [World.cell?, y1]
    have zf1 : U.frozen? ⟨w.heap.size + 1 + 1, 0, none⟩ = false := by simp [World.frozen?, y1]
    have HZ := zB (zC r1 (zC r2 r3));clear r1 r2 r3 y1 q0 q1 q2 hU d0 d1 d2
    go_wp2_with fail
    gi_wp2_with fail
    refine ⟨by simp, .inl ⟨_, _, rfl, run_takeDeferred HZ.out.2.2, ?_⟩⟩;refine ⟨.bool false, by simp [results, Tryz.f19, go_sem, HZ.out.2.1], ?_⟩;rw [decide_eq_false Hne.out];exact ⟨rfl, HZ.out.1⟩
end Go.Proofs.YtbjofbhhnmehgaaGreatDoor.TT
namespace Go.Proofs.YtbjofbhhnmehgaaGreatDoor.TT
open Go.RowKit Go.RG Go.Hp Go.Proofs.YtbjofbhhnmehgaaGreatDoor
theorem nO {n : Nat} (h : n < 128) : (sdnv n).length = 1 := by
 unfold sdnv;rw [show n / 128 = 0 by omega, tT];rfl
theorem costN_101 : uR 101 = 1 := by
 have hp : yF 101 = 1 := by decide
 unfold uR;rw [hp];show 0 + need ((vQ 0 (yF 101)).length + min 8112 (101 - 0 * 8112)) = 1;rw [hp, tG, nO (by decide), nO (by decide)];decide
theorem cap_ge {ring c : Nat} (h1 : 81 <= ring) (h : CapOf ring c) : 101 <= c := by
 refine Nat.le_of_not_lt λ hlt => h.top 101 hlt (by decide) ?_;unfold fitsN;rw [costN_101];omega
theorem topen_on (b : Bks) (x : Dsk) (N first size : Nat) (h1 : 83 <= size) (w : World) (h : Sys w b x N) (hN : N <= 1080000000000) {L : LogS} {rs : List Rc} (hV : LogV x first size L rs) (on : x.on) (hg : L.head.gen < 281474976710655) (he : L.head.epoch < 281474976710655)
 (ps : List Pr) (css : List (List Chg)) (hrec : rs.map Prod.fst = wS ps css 0) (hr : yQ (zS ps)) (hgd : ∀ p ∈ ps, zO p.1 /\ zO p.2 /\ 0 < p.1.length /\ p.1.length <= 64 /\ p.2.length <= 1024)
 (hcs : ∀ cs ∈ css, cs ≠ [] /\ cs.length <= 80 /\ ∀ c ∈ cs, c.good = true /\ zO c.key /\ zO c.value /\ c.value.length <= 1024) (hcap : ∀ c, CapOf (size - 2) c -> ∀ i, i <= css.length -> zU (allP ps (css.take i)) <= c) :
 Calls Tryz.prog 16 #[.pointer (some ⟨b.d, 0, none⟩), .int .i64 first, .int .i64 size] w λ e w' => ∃ c y, CapOf (size - 2) c /\ LogV y first size { L with head := uF L rs } rs /\ y.on /\ y.dur.length = x.dur.length /\ oN first size x y /\
  TOpenOk w b y (N + 1) first size { L with head := uF L rs } ⟨c, allP ps css, zU (allP ps css), 0, 0⟩ e w' := by
 obtain ⟨o1, o2, o3, o4, o5, o6⟩ := hV.open on hg he;have hes : HasRecs (yT x first size).1 first size (yT x first size).2.2 ((xX (uF L rs).first rs).zip (rs.map Prod.fst)) := by rw [o2]; exact o3.has
 refine (topen_ok b x N first size h1 hV.fit w h hN o1 _ ps css 0 hes ((LogV.has_snd (L := { L with head := uF L rs }) rs).trans hrec) hr hgd hcs hcap (Nat.zero_le _)).mono ?_;rintro e w' ⟨c, hc, hp⟩;rw [if_pos rfl, o2] at hp;exact ⟨c, _, hc, o3, o4, o5, o6, hp⟩
def rT (d t size : Nat) (vw : Value) (room epoch : Nat) (dead : Bool) : Array Value := #[.pointer (some ⟨d, 0, none⟩), .pointer (some ⟨t, 0, none⟩), .int .i64 size, vw, .int .i64 room, .int .u64 epoch, .bool dead]
theorem sV {B : Nat} {w w1 w2 : World} {S : Nat -> Prop} (h : Below B w w1) (hX : Ext S w1 w2) (hB : B <= w1.heap.size) (hS : ∀ j, S j -> B <= j) : Below B w w2 :=
 ⟨hX.os.trans h.os, hX.tape.trans h.tape, hX.output.trans h.output, Nat.le_trans h.size hX.size, λ k hk => (hX.block k (by omega) λ e => by have := hS k e; omega).trans (h.block k hk)⟩
theorem zero_ok (n : Nat) : DOk (vO n) 0 := by
 refine ⟨⟨λ s hs => ?_, λ i s hs => by cases hs⟩, ⟨by show (-1 : Int) <= _; decide, by show (-1 : Int) <= -1; decide⟩, λ i => Nat.le_refl _⟩;rw [List.eq_of_mem_replicate hs];exact uL 128
theorem new_sys {w w' : World} {b : Bks} {n : Nat} (hP : Pkg w) (hD : wQ w' b (vO n)) (ha : ∀ k, b.all k -> w.heap.size <= k) (hB : Below w.heap.size w w') : Sys w' b (vO n) 0 :=
 ⟨hD, zero_ok n, hP.below hB, λ k hk => by have := ha k hk; have := hP.lt; omega⟩
theorem empty_recs : wS [] [] 0 = [yO [] 0] := by
 unfold wS pG;rfl
structure FreshT (w : World) (b : Bks) (x : Dsk) (N first size : Nat) (k : LBk) (L : LogS) (q : TBk) (c : Nat) : Prop where
 sys : TSys w b x N first size k L q ⟨c, [], 0, 0, 0⟩
 view : LogV x first size L [(yO [] 0, 1)]
 on : x.on
 cap : CapOf (size - 2) c
 epoch : L.head.epoch = 2
 gen : L.head.gen = 3
 first : L.head.first = 0
theorem room_fresh (d l : Nat) (q : TBk) (c : Nat) (w : World) (h : sH w d l q ⟨c, [], 0, 0, 0⟩) (h1 : c <= 1073741824) :
 Calls Tryz.prog 17 #[.pointer (some ⟨q.t, 0, none⟩)] w λ e w' => e = .returned (.int .i64 c) /\ Below w.heap.size w w' := by
 refine (room_any d l q ⟨c, [], 0, 0, 0⟩ w h h1 (Nat.zero_le _)).mono ?_;rintro e w' ⟨rfl, hB⟩;exact ⟨by simp, hB⟩
theorem begin_any (n : Int) (hn : -9223372036854775808 <= n /\ n <= 9223372036854775807) (w : World) (hP : Pkg w) :
 Calls Tryz.prog 12 #[.int .i64 n] w λ e w' => ∃ kb g b k q x N L c, e = .returned (.tuple #[.pointer (some ⟨kb, 0, none⟩), .bool true]) /\
  w'.heap[kb]? = some (.cells (rT b.d q.t (pS n 83 65532).toNat (.slice (some ⟨g, 0, none⟩) 1 1) c 2 false) 30 (0, 0)) /\ w'.heap[g]? = some (.cells #[.slice none 0 0] 44 (0, 0)) /\ g < kb /\ w.heap.size <= g /\ ¬ allB b k q g /\ ¬ allB b k q kb /\ (∀ j, allB b k q j -> w.heap.size <= j) /\
  FreshT w' b x N 2 (pS n 83 65532).toNat k L q c /\ x.dur.length = (pS n 83 65532).toNat + 4 /\ N <= 100000 /\ Below w.heap.size w w' := by
 have hsp := lL n (show (83 : Int) <= 65532 by decide);obtain ⟨s, hs⟩ : ∃ s : Nat, pS n 83 65532 = s := ⟨(pS n 83 65532).toNat, by omega⟩;have HSP := zB (span_any n 83 65532 hn (by decide) w);rw [hs] at HSP hsp ⊢;rw [Int.toNat_natCast];have hs4 : ((s + 4 : Nat) : Int) = (s : Int) + 4 := by omega
 have HN := zB (new_any (s + 4) (by omega) (by omega) w);rw [hs4] at HN;have HP := zB hP;have hw10 := hP.lt;clear hP hs hn hs4;go_enter Tryz.func12, Tryz.ntmps12
 go_wp2_with fail
 refine HSP.out.mono ?_;rintro e w0 ⟨rfl, rfl⟩;clear HSP
 go_wp2_with fail
 refine HN.out.mono ?_;rintro e w1 ⟨b, rfl, hD, ha, hB1⟩;have hSys := new_sys HP.out hD ha hB1;have hwf : (vO (s + 4)).wf := hD.wf;have hzl : (vO (s + 4)).dur.length = s + 4 := by simp [vO]
 obtain ⟨y, L, t1, t2, t3, t4, t5, t6, t7, -⟩ := tformat_on hwf ⟨rfl, rfl⟩ (first := 2) (size := s) (by omega) (by omega) (by omega);have hTF := tformat_any b (vO (s + 4)) 0 2 s (by omega) (by omega) w1 hSys (by decide);rw [t1] at hTF;have HTF := zB hTF;have H1 := zB (zC ha (zC hB1 (zC t2 (zC t3 (zC (t4.trans hzl) (zC t5 (zC t6 t7)))))));clear HN hD ha hB1 hSys hwf hzl t1 t2 t3 t4 t5 t6 t7 hTF
 go_wp2_with fail
 refine HTF.out.mono ?_;rintro e w2 ⟨rfl, b2, hd2, ha2, hX2, hS2⟩;have hO := topen_on b2 y (0 + 65700) 2 s (by omega) w2 hS2 (by decide) H1.out.2.2.1 H1.out.2.2.2.1 (by rw [H1.out.2.2.2.2.2.1]; decide) (by rw [H1.out.2.2.2.2.2.2.1]; decide) [] [] (by rw [empty_recs]; rfl) .nil (λ p hp => by cases hp) (λ p hp => by cases hp) (λ c hc i hi => by rw [List.take_nil]; exact Nat.zero_le _);rw [hd2] at hO;have HO := zB hO;have hb1 := H1.out.2.1;have hB2 := sV hb1 hX2 hb1.size H1.out.1;have ha2' : ∀ j, b2.all j -> w.heap.size <= j := λ j hj => (ha2 j hj).elim (H1.out.1 j) λ h => by have := hb1.size; omega
 have H2 := zB (zC hB2 (zC ha2' hd2));clear hS2 hO hX2 ha2 hB2 ha2' hd2 hb1 HTF
 go_wp2_with fail
 refine HO.out.mono ?_;rintro e w3 ⟨c, y', hc, hV, hon, hlen, -, b3, k, q, rfl, hd3, hqt, ha3, hX3, hS3⟩;have hB3 := sV H2.out.1 hX3 H2.out.1.size H2.out.2.1;have ha3' : ∀ j, allB b3 k q j -> w.heap.size <= j := λ j hj => (ha3 j hj).elim (H2.out.2.1 j) λ h => by have := H2.out.1.size; omega
 have hc101 := cap_ge (by omega) hc;have hcle := hc.le;have hlivn : zU (allP [] []) = 0 := rfl;have hall : allP [] [] = [] := rfl;rw [hlivn, hall] at hS3;have hep : L.head.epoch + 1 = 2 := by rw [H1.out.2.2.2.2.2.2.1]
 have hE := tepoch_any b3.d 2 s k { L with head := uF L [(yO [] 0, 1)] } q ⟨c, [], 0, 0, 0⟩ w3 hS3.tbl hS3.lsys.log;rw [show ({ L with head := uF L [(yO [] 0, 1)] } : LogS).head.epoch = 2 from hep] at hE;have hR := room_fresh b3.d k.l q c w3 hS3.tbl (by omega);have HC := zB (zC hE hR);have H3 := zB (zC hB3 (zC ha3' (zC hc (zC hV (zC hon (zC hlen (zC hS3 (hd3.trans H2.out.2.2))))))));clear hB3 ha3' hc hV hon hlen hS3 hd3 hE hR hqt ha3 hX3 HO hlivn hall;have hc1 : ¬ (c : Int) < 101 := by omega
 go_wp2_with fail
 refine HC.out.1.mono ?_;rintro e w3' ⟨rfl, rfl⟩
 go_wp2_with fail
 refine HC.out.2.mono ?_;rintro e w4 ⟨rfl, hB4⟩;have hS4 := H3.out.2.2.2.2.2.2.1.below hB4;have HU := zB (unflushed_any b3.d k.l q ⟨c, [], 0, 0, 0⟩ w4 hS4.tbl);have HI := zB (is_any b3.d k.l q ⟨c, [], 0, 0, 0⟩ (λ _ => False) (.slice none 0 0) [] w4 hS4.tbl (vR.nil _ _) rfl (Nat.zero_le _) (by decide) (λ p hp => by cases hp) (λ p hp => by cases hp));rw [show decide (({ cap := c, ps := [], live := 0, pending := 0, fallen := 0 } : TblS).ps = []) = true from rfl] at HI;have HB4 := zB hB4;clear hS4 hB4
 go_wp2_with fail
 refine HU.out.mono ?_;rintro e w4' ⟨rfl, rfl⟩
 go_wp2_with fail
 refine HI.out.mono ?_;rintro e w5 ⟨rfl, hB5⟩;have hB5' := HB4.out.trans (hB5.mono HB4.out.size);have hS5 := H3.out.2.2.2.2.2.2.1.below hB5';have hb6 := zQ w5 (.cells #[.slice none 0 0] 44);have g6 := World.alloc_heap_new w5 (.cells #[.slice none 0 0] 44);have HR6 := zB (room_fresh b3.d k.l q c _ (hS5.below hb6).tbl (by omega));have HB5 := zB (zC hB5' (zC hb6 g6));clear hB5 hB5' hb6 g6 hS5
 go_wp2_with fail
 refine HR6.out.mono ?_;rintro e w7 ⟨rfl, hB7⟩;have hb8 := zQ w7 (.cells (rT b.d q.t s (.slice (some ⟨w5.heap.size, 0, none⟩) 1 1) c 2 false) 30);have g8 := World.alloc_heap_new w7 (.cells (rT b.d q.t s (.slice (some ⟨w5.heap.size, 0, none⟩) 1 1) c 2 false) 30);have H8 := zB (zC hB7 (zC hb8 g8));clear hB7 hb8 g8 HR6
 go_wp2_with fail
 go_ret2
 have h56 := HB5.out.2.1;have h57 := h56.trans (H8.out.1.mono h56.size);have h58 := h57.trans (H8.out.2.1.mono h57.size);have h38 := HB5.out.1.trans (h58.mono HB5.out.1.size);have hw8 := H3.out.1.trans (h38.mono H3.out.1.size);have hS8 := H3.out.2.2.2.2.2.2.1.below h38;have hlt := H3.out.2.2.2.2.2.2.1.lt;have s35 := HB5.out.1.size;have s37 : w5.heap.size + 1 <= w7.heap.size := by have := H8.out.1.size; simpa using this
 have sw3 := H3.out.1.size;have ge := H1.out.2.2.2.2;refine ⟨w7.heap.size, w5.heap.size, b3, k, q, y', 0 + 65700 + 1, _, c, rfl, ?_, ?_, by omega, by omega, λ h => by have := hlt _ h; omega, λ h => by have := hlt _ h; omega, H3.out.2.1, ⟨hS8, H3.out.2.2.2.1, H3.out.2.2.2.2.1, H3.out.2.2.1, hep, by show L.head.gen + 1 = 3; rw [ge.2.1], ge.2.2.2⟩, H3.out.2.2.2.2.2.1.trans ge.1, by decide, hw8⟩
 . rw [H3.out.2.2.2.2.2.2.2];exact H8.out.2.2
 . have h78 := H8.out.1.trans (H8.out.2.1.mono H8.out.1.size);exact zK h78 HB5.out.2.2
end Go.Proofs.YtbjofbhhnmehgaaGreatDoor.TT
