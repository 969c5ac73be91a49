
/-
 What a log's disk tells (LogV), and that it stays so: Open, Append, Flush, Trim, Format of a disk that is on.
-/
import Derived.Test.YtbjofbhhnmehgaaGreatDoorCNIz11
import Derived.Test.YtbjofbhhnmehgaaGreatDoorCards
import Derived.Test.YtbjofbhhnmehgaaGreatDoorTie
import Derived.Lib.LaidTab
import Derived.OpenShut
import Derived.LaidSub
import Derived.Test.YtbjofbhhnmehgaaGreatDoorCNIz0
set_option linter.unusedSimpArgs false
set_option linter.unusedVariables false
set_option maxHeartbeats 4000000
set_option maxRecDepth 100000
open Go.IntWalk (toNatUp iteOmega)
namespace Go.Proofs.YtbjofbhhnmehgaaGreatDoor.TT
open Go.RowKit Go.RG Go.Hp Go.Proofs.YtbjofbhhnmehgaaGreatDoor
def oN (first size : Nat) (x y : Dsk) : Prop := ∀ i, i < first \/ first + size <= i -> xP y i = xP x i
theorem oN.refl (first size : Nat) (x : Dsk) : oN first size x x := λ _ _ => rfl
theorem oN.trans {first size : Nat} {x y z : Dsk} (h1 : oN first size x y) (h2 : oN first size y z) : oN first size x z := λ i hi => (h2 i hi).trans (h1 i hi)
theorem readD_write (x : Dsk) (i j : Nat) (bs : List Int) (h : j ≠ i) : xP (vP x i bs) j = xP x j := by
 unfold vP
 split
 . rw [rN, if_neg h, readD_goes]
 . rw [readD_goes]
theorem keep_appX {x : Dsk} {first size n ep : Nat} {rec : List Int} (h2 : 2 < size) : ∀ j, oN first size x (appX x first size n ep rec j).1
 | 0 => .refl _ _ _
 | j + 1 => by
  have ih := keep_appX (x := x) (first := first) (n := n) (ep := ep) (rec := rec) h2 j;unfold appX
  split
  . rename_i y e; rw [e] at ih;refine ih.trans λ i hi => readD_write _ _ _ _ ?_;have := Nat.mod_lt (n + j) (show 0 < size - 2 by omega);unfold wY;omega
  . rename_i y e; rw [e] at ih; exact ih
theorem jY {x : Dsk} {first size : Nat} {L : LogS} {rec : List Int} (h2 : 2 < size) : oN first size x (yH x first size L rec).1 := by
 have h4 := keep_appX (x := x) (first := first) (n := L.next) (ep := L.head.epoch) (rec := rec) h2 (need rec.length);unfold yH
 split
 . exact .refl _ _ _
 . split
   . exact .refl _ _ _
   . split
     . exact .refl _ _ _
     . split
       . rename_i y e; rw [e] at h4; exact h4
       . rename_i y e; rw [e] at h4; exact h4
theorem fQ {x : Dsk} {first size : Nat} (h : x.wf) : oN first size x (vT x) := λ i _ => rO h i
theorem mM {x y : Dsk} (ho : y.off = x.off) {first size k : Nat} (hr : xP y (first + k) = xP x (first + k)) : wX y first size k = wX x first size k := by
 unfold wX wZ;rw [ho, hr]
theorem oT {x y : Dsk} (ho : y.off = x.off) {first size n : Nat} (hr : xP y (wY first size n) = xP x (wY first size n)) : xR y first size n = xR x first size n := by
 unfold xR wZ;rw [ho, hr]
theorem gG {x y : Dsk} {first size n : Nat} {p0 : qC} (h : ∀ m, n <= m -> xR y first size m = xR x first size m) : ∀ k, oM y first size n p0 k = oM x first size n p0 k
 | 0 => rfl
 | k + 1 => by unfold oM; rw [gG h k, h _ (by omega)]
theorem lQ {x y : Dsk} {first size n least most : Nat} (h : ∀ m, n <= m -> xR y first size m = xR x first size m) : xL y first size n least most = xL x first size n least most := by
 unfold xL;rw [h n (Nat.le_refl _)]
 split
 . rfl
 . rw [gG h]
theorem pieceR_of {x : Dsk} (ho : x.off = false) {first size n : Nat} {p q : qC} (hq : q.fine) (hr : xP x (wY first size n) = some (tM (wN q))) (h : xR x first size n = .ok p) : p = q /\ q.num = n := by
 obtain ⟨h1, h2, h3, h4, h5, h6, h7⟩ := lX q hq;have hn : q.num = n := by
  unfold xR wZ at h;rw [ho, hr] at h;simp only [rK, h1, if_true, Bool.false_eq_true, if_false] at h;rw [h2, h4, h5] at h;by_cases e : q.num = n
  . exact e
  . rw [if_pos (.inl e)] at h; cases h
 have := gJ ho hq hn hr;rw [this] at h;injection h with h;exact ⟨h.symm, hn⟩
theorem pX {x : Dsk} {first size n least most : Nat} (h : ∀ p, xR x first size n = .ok p -> p.epoch < least) : ∃ c, xL x first size n least most = .error c := by
 unfold xL
 split
 . exact ⟨_, rfl⟩
 . rename_i p hp;rw [if_pos (.inr (.inl (h p hp)))];exact ⟨_, rfl⟩
theorem recordR_most {x : Dsk} {first size n least most most' : Nat} (hp : ∀ p, xR x first size n = .ok p -> p.epoch <= most) {c : Int} (h : xL x first size n least most = .error c) : ∃ c, xL x first size n least most' = .error c := by
 unfold xL at h ⊢
 split
 . exact ⟨_, rfl⟩
 . rename_i p hq;rw [hq] at h;simp only at h;have hm := hp p hq
   split
   . exact ⟨_, rfl⟩
   . rename_i hc;rw [if_neg (by omega)] at h
     split
     . exact ⟨_, rfl⟩
     . rename_i d hd;rw [hd] at h
       cases h
theorem counts_of {x : Dsk} {first size : Nat} {h : Head} (hg : 0 < h.gen) (h1 : wX x first size (h.gen % 2) = (h, true)) (h2 : (wX x first size (1 - h.gen % 2)).2 = true -> (wX x first size (1 - h.gen % 2)).1.gen < h.gen) : yS x first size = (h, ((h.gen % 2 : Nat) : Int)) := by
 show kN (kN (vW, -1) 0 (wX x first size 0)) 1 (wX x first size 1) = _;have hn : vW.gen = 0 := rfl;rcases Nat.mod_two_eq_zero_or_one h.gen with e | e
 . rw [e] at h1 h2 ⊢;rw [h1];have h2' : (wX x first size 1).2 = true -> (wX x first size 1).1.gen < h.gen := h2;have e1 : kN (vW, -1) 0 (h, true) = (h, 0) := by unfold kN; rw [if_pos ⟨rfl, by rw [hn]; exact hg⟩]; rfl
   rw [e1];unfold kN;rw [if_neg (λ hc => by have := h2' hc.1; have := hc.2; simp only at this; omega)];rfl
 . rw [e] at h1 h2 ⊢;rw [h1];unfold kN;have hlt : (if (wX x first size 0).2 = true /\ (vW, (-1 : Int)).1.gen < (wX x first size 0).1.gen then ((wX x first size 0).1, ((0 : Nat) : Int)) else (vW, -1)).1.gen < h.gen := by
    split
    . rename_i hc; exact h2 hc.1
    . exact hg
   rw [if_pos ⟨rfl, hlt⟩]
structure LogV (x : Dsk) (first size : Nat) (L : LogS) (rs : List Rc) : Prop where
 wf : x.wf
 off : x.off = false
 fit : first + size <= x.dur.length
 size3 : 2 < size
 size6 : size <= 65536
 low : L.head.low
 gen : 0 < L.head.gen
 slot : xP x (first + L.head.gen % 2) = some (yR L.head size)
 other : (wX x first size (1 - L.head.gen % 2)).2 = true -> (wX x first size (1 - L.head.gen % 2)).1.gen < L.head.gen
 chain : tY x first size L.head.first rs
 starts : L.starts = xX L.head.first rs
 epochs : L.epochs = rs.map Prod.snd
 next : L.next = endN L.head.first rs
 asc : Asc L.head.least rs
 recs : ∀ r ∈ rs, r.2 <= L.head.epoch /\ r.1.length <= 8192
 least : L.head.least <= L.head.epoch
 big : L.next < 281474976710656
 ring : L.next - L.head.first <= size - 2
 up : L.fallen = false
 junk : ∀ n p, xR x first size n = .ok p -> p.epoch <= L.head.epoch /\ (n < L.next \/ p.epoch < L.head.epoch)
 stop : ∃ c, xL x first size L.next (oE L.head.least rs) L.head.epoch = .error c
theorem LogV.congr {x y : Dsk} {first size : Nat} {L : LogS} {rs : List Rc} (h : LogV x first size L rs) (hw : y.wf) (ho : y.off = false) (hl : y.dur.length = x.dur.length) (hr : ∀ i, first <= i -> i < first + size -> xP y i = xP x i) : LogV y first size L rs := by
 have ho' : y.off = x.off := by rw [ho, h.off]
 have hrr : ∀ n, xP y (wY first size n) = xP x (wY first size n) := λ n => by
  have := Nat.mod_lt n (show 0 < size - 2 by have := h.size3; omega);have := h.size3;exact hr _ (by unfold wY; omega) (by unfold wY; omega)
 have hp : ∀ n, xR y first size n = xR x first size n := λ n => oT ho' (hrr _);have hc : ∀ (rs : List Rc) (n : Nat), tY x first size n rs -> tY y first size n rs := by
  intro rs
  induction rs with
  | nil => exact λ _ _ => trivial
  | cons r rs ih => exact λ n h => ⟨λ j hj => by rw [hrr]; exact h.1 j hj, ih _ h.2⟩
 exact { h with wf := hw, off := ho, fit := by rw [hl]; exact h.fit, slot := by rw [hr _ (by omega) (by have := h.size3; omega)]; exact h.slot, other := by rw [mM ho' (hr _ (by omega) (by have := h.size3; omega))]; exact h.other, chain := hc _ _ h.chain, junk := λ n p e => h.junk n p (by rw [<- hp]; exact e), stop := by rw [lQ λ m _ => hp m]; exact h.stop }
theorem LogV.counts {x : Dsk} {first size : Nat} {L : LogS} {rs : List Rc} (h : LogV x first size L rs) : yS x first size = (L.head, ((L.head.gen % 2 : Nat) : Int)) := by
 refine counts_of h.gen ?_ h.other;rw [slotR_text h.off h.low (by have := h.size6; omega) h.slot];have := h.gen;simp [this]
theorem LogV.scan {x : Dsk} {first size : Nat} {L : LogS} {rs : List Rc} (h : LogV x first size L rs) : rB x first size L.head = { L with head := vW } := by
 obtain ⟨c, hc⟩ := h.stop;have hn := h.next;rw [hn] at hc;unfold rB;rw [scanR_chain h.off h.size3 h.low.2.1 h.chain h.asc h.recs (by have := h.big; omega) (by have := h.ring; omega) hc];have := h.starts;have := h.epochs;have := h.up;obtain ⟨hd, nx, st, ep, f⟩ := L
 simp_all
theorem LogV.turn {x : Dsk} {first size : Nat} {L : LogS} {rs : List Rc} (h : LogV x first size L rs) (on : x.on) {h' : Head} {rs' : List Rc} (hl : h'.low) (hg : h'.gen = L.head.gen + 1) (he : L.head.epoch <= h'.epoch) (hc : tY x first size h'.first rs') (hn : endN h'.first rs' = L.next)
    (ha : Asc h'.least rs') (hr : ∀ r ∈ rs', r.2 <= h'.epoch /\ r.1.length <= 8192) (hle : h'.least <= h'.epoch) (hri : L.next - h'.first <= size - 2) (hs : ∃ c, xL x first size L.next (oE h'.least rs') h'.epoch = .error c) :
    LogV (layX x (first + h'.gen % 2) (yR h' size)) first size ⟨h', L.next, xX h'.first rs', rs'.map Prod.snd, false⟩ rs' /\ (layX x (first + h'.gen % 2) (yR h' size)).on /\ layE x (first + h'.gen % 2) (yR h' size) = 0 := by
  have hi : first + h'.gen % 2 < x.dur.length := by have := h.fit; have := h.size3; omega
  have on' := on.layOn (first + h'.gen % 2) (yR h' size);have hrd := lU h.wf on hi (yR h' size);have hw' := h.wf.lay on hi (yR h' size);have hlen := sL x (first + h'.gen % 2) (yR h' size);refine ⟨?_, on', (on.lay _ _).2⟩;generalize layX x (first + h'.gen % 2) (yR h' size) = y at *;have ho' : y.off = x.off := by rw [on'.off, h.off]
  have hp : ∀ n, xR y first size n = xR x first size n := λ n => oT ho' (by rw [hrd, if_neg]; unfold wY; omega);have hcv : ∀ (rs : List Rc) (n : Nat), tY x first size n rs -> tY y first size n rs := by
    intro rs
    induction rs with
    | nil => exact λ _ _ => trivial
    | cons r rs ih => exact λ n h => ⟨λ j hj => by rw [hrd, if_neg (by unfold wY; omega)]; exact h.1 j hj, ih _ h.2⟩
  have hoth : wX y first size (1 - h'.gen % 2) = (L.head, true) := by
    rw [mM ho' (by rw [hrd, if_neg (by omega)]), show 1 - h'.gen % 2 = L.head.gen % 2 by omega, slotR_text h.off h.low (by have := h.size6; omega) h.slot];have := h.gen;simp [this]
  exact { wf := hw', off := on'.off, fit := by rw [hlen]; exact h.fit, size3 := h.size3, size6 := h.size6, low := hl, gen := by show 0 < h'.gen; omega, slot := by show xP y (first + h'.gen % 2) = _; rw [hrd, if_pos rfl], other := λ _ => by show (wX y first size (1 - h'.gen % 2)).1.gen < h'.gen; rw [hoth]; show L.head.gen < _; omega, chain := hcv _ _ hc, starts := rfl, epochs := rfl, next := hn.symm, asc := ha, recs := hr, least := hle, big := h.big, ring := hri, up := rfl, junk := λ n p e => by
            have := h.junk n p (by rw [<- hp]; exact e);exact ⟨by show p.epoch <= h'.epoch; omega, by show n < L.next \/ p.epoch < h'.epoch; omega⟩, stop := by show ∃ c, xL y first size L.next (oE h'.least rs') h'.epoch = .error c; rw [lQ λ m _ => hp m]; exact hs }
def firstE (d : Nat) : List Rc -> Nat
 | [] => d
 | r :: _ => r.2
def uF (L : LogS) (rs : List Rc) : Head := ⟨L.head.gen + 1, L.head.epoch + 1, L.head.first, firstE (L.head.epoch + 1) rs⟩
theorem LogV.open {x : Dsk} {first size : Nat} {L : LogS} {rs : List Rc} (h : LogV x first size L rs) (on : x.on) (hg : L.head.gen < 281474976710655) (he : L.head.epoch < 281474976710655) :
 (yT x first size).2.1 = 0 /\ (yT x first size).2.2 = { L with head := uF L rs } /\ LogV (yT x first size).1 first size { L with head := uF L rs } rs /\ (yT x first size).1.on /\ (yT x first size).1.dur.length = x.dur.length /\ oN first size x (yT x first size).1 := by
 have hlow := h.low;have hst := h.starts;have hep := h.epochs;have hup := h.up;have htH : sX { L with head := vW } (jE L.head) = uF L rs := by
  unfold sX jE uF
  congr 1
  simp only;rw [hst, hep]
  cases rs with
  | nil => simp [xX, firstE]
  | cons r rs =>
   have hpos : posU (xX L.head.first (r :: rs)) L.head.first = 0 := by
    refine rQ (Nat.zero_le _) (λ q n hq => absurd hq (Nat.not_lt_zero _)) λ q n _ hq => ?_;exact ((sR L.head.first (r :: rs) λ s hs => (h.recs s hs).2).2 n (List.mem_of_getElem? hq)).1
   rw [if_pos (by simp [xX]), hpos];simp [firstE]
 have hle' : (uF L rs).least <= L.head.epoch + 1 := by
  unfold uF
  cases rs with
  | nil => exact Nat.le_refl _
  | cons r rs => have := (h.recs r List.mem_cons_self).1; simp only [firstE]; omega
 obtain ⟨hV, hon, hE⟩ := h.turn on (h' := uF L rs) (rs' := rs) ⟨by show L.head.gen + 1 < _; omega, by show L.head.epoch + 1 < _; omega, hlow.2.2.1, by show (uF L rs).least < _; omega⟩ rfl (by show _ <= L.head.epoch + 1; omega) h.chain h.next.symm
  (by
   have := h.asc;unfold uF
   cases rs with
   | nil => trivial
   | cons r rs => exact ⟨Nat.le_refl _, this.2⟩)
  (λ r hr => ⟨by have := (h.recs r hr).1; show _ <= L.head.epoch + 1; omega, (h.recs r hr).2⟩) hle' h.ring
  (by
   obtain ⟨c, hc⟩ := h.stop
   cases rs with
   | nil =>
    refine pX λ p hp => ?_;have := (h.junk _ p hp).1;show p.epoch < L.head.epoch + 1;omega
   | cons r rs => exact recordR_most (λ p hp => (h.junk _ p hp).1) hc)
 have hL' : (⟨uF L rs, L.next, xX (uF L rs).first rs, rs.map Prod.snd, false⟩ : LogS) = { L with head := uF L rs } := by
  obtain ⟨hd, nx, st, ep, f⟩ := L;simp only at hst hep hup;subst hst hep hup;rfl
 rw [hL'] at hV;have e : yT x first size = (layX x (first + (uF L rs).gen % 2) (yR (uF L rs) size), 0, { L with head := uF L rs }) := by
  unfold yT;rw [h.counts, if_neg (by rw [h.off]; decide), if_neg (by simp only; omega), if_neg (by simp only; omega)];simp only;rw [h.scan];unfold qU tC tZ tC turnI;rw [htH];rw [show (jE L.head).gen = (uF L rs).gen from rfl, hE];rfl
 rw [e];exact ⟨rfl, rfl, hV, hon, sL _ _ _, λ i hi => by have h3 := h.size3; have hf := h.fit; rw [lU h.wf on (by omega), if_neg (by omega)]⟩
theorem ringN_inj {first size a b : Nat} (h : a <= b) (hb : b - a < size - 2) (e : wY first size a = wY first size b) : a = b := by
 unfold wY at e;have e1 : b % (size - 2) = a % (size - 2) := by omega
 have := Nat.sub_mod_eq_zero_of_mod_eq e1;rw [Nat.mod_eq_of_lt hb] at this;omega
theorem appX_on {x : Dsk} (hw : x.wf) (on : x.on) {first size n ep : Nat} (hf : first + size <= x.dur.length) (h3 : 2 < size) {rec : List Int} : ∀ j, j <= size - 2 -> ∃ y, appX x first size n ep rec j = (y, true) /\ y.wf /\ y.on /\ y.dur.length = x.dur.length /\
 (∀ i, i < j -> xP y (wY first size (n + i)) = some (uE n ep rec i)) /\ ∀ m, (∀ i, i < j -> m ≠ wY first size (n + i)) -> xP y m = xP x m
 | 0, _ => ⟨x, rfl, hw, on, rfl, λ i hi => absurd hi (Nat.not_lt_zero _), λ m _ => rfl⟩
 | j + 1, hj => by
  obtain ⟨y, e, yw, yon, yl, y1, y2⟩ := appX_on hw on hf h3 (rec := rec) (n := n) (ep := ep) j (by omega);have hrl : wY first size (n + j) < y.dur.length := by
   have := Nat.mod_lt (n + j) (show 0 < size - 2 by omega);unfold wY;omega
  refine ⟨uP y (wY first size (n + j)) (uE n ep rec j), ?_, yw.wrote hrl _, yon.wrote _ _, yl, λ i hi => ?_, λ m hm => ?_⟩
  . unfold appX;rw [e];simp only;rw [yon.write, yon.goesB]
  . rw [rN];by_cases hij : i = j
    . subst hij; rw [if_pos rfl]
    . rw [if_neg (λ e => hij (by have := ringN_inj (by omega) (by omega) e; omega))];exact y1 i (by omega)
  . rw [rN, if_neg (hm j (Nat.lt_succ_self _))];exact y2 m λ i hi => hm i (by omega)
theorem tY.keep {x y : Dsk} {first size : Nat} : ∀ {n : Nat} {rs : List Rc}, tY x first size n rs -> (∀ m, n <= m -> m < endN n rs -> xP y (wY first size m) = xP x (wY first size m)) -> tY y first size n rs
 | _, [], _, _ => trivial
 | n, r :: rs, h, hk => by
  have he := nB (n + need r.1.length) rs;have hk' : ∀ m, n <= m -> m < endN (n + need r.1.length) rs -> xP y (wY first size m) = xP x (wY first size m) := hk;exact ⟨λ j hj => by rw [hk' _ (by omega) (by omega)]; exact h.1 j hj, h.2.keep λ m h1 h2 => hk' m (by omega) h2⟩
theorem LogV.append {x : Dsk} {first size : Nat} {L : LogS} {rs : List Rc} (h : LogV x first size L rs) (on : x.on) {rec : List Int} (hl : rec.length <= 8192) (hf : need rec.length <= L.free size) (hb : L.next + need rec.length < 281474976710656) :
    ∃ y, yH x first size L rec = (y, ⟨L.head, L.next + need rec.length, L.starts ++ [L.next], L.epochs ++ [L.head.epoch], false⟩, L.next, 0) /\
      LogV y first size ⟨L.head, L.next + need rec.length, L.starts ++ [L.next], L.epochs ++ [L.head.epoch], false⟩ (rs ++ [(rec, L.head.epoch)]) /\ y.on /\ y.dur.length = x.dur.length := by
  have hnp := kB hl;have hfr : L.next - L.head.first + need rec.length <= size - 2 := by unfold LogS.free at hf; have := h.ring; omega
  have hle : L.head.first <= L.next := by rw [h.next]; exact nB _ _
  obtain ⟨y, e, yw, yon, yl, y1, y2⟩ := appX_on h.wf on (n := L.next) (ep := L.head.epoch) h.fit h.size3 (rec := rec) (need rec.length) (by omega);refine ⟨y, ?_, ?_, yon, yl⟩
  . unfold yH;rw [h.up, h.off, if_neg (by decide), if_neg (by omega), if_neg (by omega), e];rfl
  have ho' : y.off = x.off := by rw [yon.off, h.off]
  have hold : ∀ m, L.head.first <= m -> m < L.next -> xP y (wY first size m) = xP x (wY first size m) := λ m h1 h2 => y2 _ λ i hi e => by
    have := ringN_inj (by omega) (by omega) e;omega
  have hslot : ∀ k, k < 2 -> xP y (first + k) = xP x (first + k) := λ k hk => y2 _ λ i hi => by unfold wY; omega
  have hpn : ∀ n p, xR y first size n = .ok p -> p.epoch <= L.head.epoch /\ (n < L.next + need rec.length \/ p.epoch < L.head.epoch) := λ n p hp => by
    by_cases hx : ∃ i, i < need rec.length /\ wY first size n = wY first size (L.next + i)
    . obtain ⟨i, hi, e⟩ := hx;have := y1 i hi;rw [<- e] at this;obtain ⟨rfl, hn⟩ := pieceR_of yon.off (piece_fine hl hi (by omega) h.low.2.1) this hp;have hn' : L.next + i = n := hn;exact ⟨Nat.le_refl _, .inl (by omega)⟩
    . rw [oT ho' (y2 _ λ i hi e => hx ⟨i, hi, e⟩)] at hp;have := h.junk n p hp;exact ⟨this.1, by omega⟩
  have hend : endN L.head.first (rs ++ [(rec, L.head.epoch)]) = L.next + need rec.length := by rw [endN_app, <- h.next]; rfl
  have hlast : oE L.head.least (rs ++ [(rec, L.head.epoch)]) = L.head.epoch := by rw [gO]; rfl
  exact { wf := yw, off := yon.off, fit := by rw [yl]; exact h.fit, size3 := h.size3, size6 := h.size6, low := h.low, gen := h.gen, slot := by show xP y (first + L.head.gen % 2) = _; rw [hslot _ (Nat.mod_lt _ (by decide))]; exact h.slot, other := by show (wX y first size (1 - L.head.gen % 2)).2 = true -> _; rw [mM ho' (hslot _ (by omega))]; exact h.other, chain := jJ.2 ⟨h.chain.keep λ m h1 h2 => hold m h1 (by rw [h.next]; exact h2), ⟨λ j hj => by rw [<- h.next]; exact y1 j hj, trivial⟩⟩, starts := by show L.starts ++ [L.next] = xX L.head.first _; rw [mL, <- h.next, <- h.starts]; rfl, epochs := by show L.epochs ++ [L.head.epoch] = _; rw [List.map_append, <- h.epochs]; rfl, next := hend.symm, asc := Asc_app.2 ⟨h.asc, ⟨(h.asc.last h.least λ r hr => (h.recs r hr).1).2, trivial⟩⟩, recs := λ r hr => by
            rcases List.mem_append.1 hr with hr | hr
            . exact h.recs r hr
            . rw [List.mem_singleton.1 hr]; exact ⟨Nat.le_refl _, hl⟩, least := h.least, big := hb, ring := by show L.next + need rec.length - L.head.first <= size - 2; omega, up := rfl, junk := hpn, stop := by
            rw [hlast];exact pX λ p hp => by have := (hpn _ p hp).2; simp only at this; omega }
theorem LogV.flush {x : Dsk} {first size : Nat} {L : LogS} {rs : List Rc} (h : LogV x first size L rs) (on : x.on) : wL x L = (vT x, L, 0) /\ LogV (vT x) first size L rs /\ (vT x).on /\ (vT x).dur.length = x.dur.length := by
 have hl : (vT x).dur.length = x.dur.length := by rw [<- on.flush]; exact sE x
 refine ⟨?_, h.congr h.wf.flushed on.flushed.off hl (λ i _ _ => rO h.wf i), on.flushed, hl⟩;unfold wL;rw [h.up, h.off, if_neg (by decide), on.goesB, on.flush];have := h.up;obtain ⟨hd, nx, st, ep, f⟩ := L;simp only at this;subst this;rfl
theorem LogV.trim {x : Dsk} {first size : Nat} {L : LogS} {a b : List Rc} (h : LogV x first size L (a ++ b)) (on : x.on) (hg : L.head.gen < 281474976710655) (ha : a ≠ []) :
 ∃ y L', oK x first size L (endN L.head.first a) = (y, L', 0) /\ LogV y first size L' b /\ y.on /\ y.dur.length = x.dur.length /\ L'.next = L.next /\ L'.head.gen = L.head.gen + 1 /\ L'.head.epoch = L.head.epoch /\ L'.head.first = endN L.head.first a := by
 obtain ⟨n, hn⟩ : ∃ n, endN L.head.first a = n := ⟨_, rfl⟩;have hrec := h.recs;have hmany := kJ L.head.first a λ r hr => (hrec r (List.mem_append_left _ hr)).2;have hpos : 0 < a.length := List.length_pos_iff.2 ha;have hlt : L.head.first < n := by omega
 have hnext : L.next = endN n b := by rw [h.next, endN_app, hn]
 have hle := nB n b;have hst : L.starts = xX L.head.first a ++ xX n b := by rw [h.starts, mL, hn]
 have hep : L.epochs = a.map Prod.snd ++ b.map Prod.snd := by rw [h.epochs, List.map_append]
 have hra := sR L.head.first a λ r hr => (hrec r (List.mem_append_left _ hr)).2;have hrb := sR n b λ r hr => (hrec r (List.mem_append_right _ hr)).2;have hp : posU L.starts n = a.length := by
  refine rQ (by rw [hst]; simp [wM]) (λ q m hq hm => ?_) λ q m hq hm => ?_
  . rw [hst, List.getElem?_append_left (by rw [wM]; exact hq)] at hm;have := (hra.2 m (List.mem_of_getElem? hm)).2;omega
  . rw [hst, List.getElem?_append_right (by rw [wM]; exact hq)] at hm;exact (hrb.2 m (List.mem_of_getElem? hm)).1
 obtain ⟨h', hh'⟩ : ∃ h', sX L (pQ L n) = h' := ⟨_, rfl⟩;have hfall : L.fall x.off = L := by
  unfold LogS.fall;have := h.up;rw [h.off, this];obtain ⟨hd, nx, st, ep, f⟩ := L;simp only at this;subst this;rfl
 have hbig := h.big;have hcase : h' = ⟨L.head.gen + 1, L.head.epoch, n, firstE L.head.epoch b⟩ := by
  rw [<- hh'];unfold sX pQ
  congr 1
  simp only
  cases b with
  | nil =>
   rw [if_neg]
   . rfl
   rw [hst];simp only [xX, List.append_nil];intro hm;have := (hra.2 n hm).2;omega
  | cons r b =>
   rw [if_pos (by rw [hst]; simp [xX]), hp, hep];simp [firstE]
 have hlow := h.low;have hle' : h'.least <= L.head.epoch := by
  rw [hcase]
  cases b with
  | nil => exact Nat.le_refl _
  | cons r b => exact (hrec r (by simp)).1
 have hg' : h'.gen = L.head.gen + 1 := by rw [hcase]
 have he' : h'.epoch = L.head.epoch := by rw [hcase]
 have hf' : h'.first = n := by rw [hcase]
 obtain ⟨hV, hon, hE⟩ := h.turn on (h' := h') (rs' := b) ⟨by rw [hg']; omega, by rw [he']; exact hlow.2.1, by rw [hf']; omega, by have := hlow.2.1; omega⟩ hg' (by rw [he']; exact Nat.le_refl _)
  (by rw [hf', <- hn]; exact (jJ.1 h.chain).2) (by rw [hf', hnext])
  (by
   have := (Asc_app.1 h.asc).2;rw [hcase]
   cases b with
   | nil => trivial
   | cons r b => exact ⟨Nat.le_refl _, this.2⟩)
  (λ r hr => by rw [he']; exact hrec r (List.mem_append_right _ hr)) (by rw [he']; exact hle') (by rw [hf']; have := h.ring; omega)
  (by
   obtain ⟨c, hc⟩ := h.stop;rw [he']
   cases b with
   | nil =>
    refine pX λ p hp => ?_;have := (h.junk _ p hp).2;have hl : oE h'.least [] = L.head.epoch := by rw [hcase]; rfl
    rw [hl];omega
   | cons r b =>
    rw [gO] at hc;exact ⟨c, hc⟩)
 refine ⟨_, _, ?_, hV, hon, sL _ _ _, rfl, hg', he', by rw [hn]; exact hf'⟩;rw [hn];unfold oK;rw [h.up, h.off, if_neg (by decide), if_neg (by omega), if_neg, if_neg (by omega)]
 . have hfall' : L.fall false = L := by rw [<- h.off]; exact hfall
   rw [hfall'];unfold tC qU turnI;rw [hh'];rw [show (pQ L n).gen = h'.gen by rw [hg']; rfl, hE, if_pos rfl, hp]
   congr 2
   rw [hst, hep, hf', List.drop_left' (wM _ _), List.drop_left' (by simp)];rfl
 . intro hc;obtain ⟨h1, h2⟩ := hc
   cases b with
   | nil => exact h2 hnext.symm
   | cons r b => exact h1 (by rw [hst]; simp [xX])
theorem jM {x : Dsk} {i : Nat} {M : List Int} (hM : M ≠ yN 4) (h : xP x i = some (yN 128)) : ∃ c, wZ x i M = .error c := by
 unfold wZ
 split
 . exact ⟨_, rfl⟩
 . rw [h];simp only
   split
   . exact ⟨_, rfl⟩
   . rename_i t ht;have ht' := (pN ht).2.1;rw [if_neg]
     . exact ⟨_, rfl⟩
     . rw [ht', wF];intro e;apply hM;rw [<- e];rfl
theorem slotR_zero {x : Dsk} {first size k : Nat} (h : xP x (first + k) = some (yN 128)) : wX x first size k = (vW, false) := by
 obtain ⟨c, hc⟩ := jM (M := yX) (by decide) h;unfold wX;rw [hc]
theorem pieceR_zero {x : Dsk} {first size n : Nat} (h : xP x (wY first size n) = some (yN 128)) : ∃ c, xR x first size n = .error c := by
 obtain ⟨c, hc⟩ := jM (M := yP) (by decide) h;unfold xR;rw [hc];exact ⟨c, rfl⟩
theorem fmtE_on {x : Dsk} (hw : x.wf) (on : x.on) {first k : Nat} (hf : first + 1 < x.dur.length) : ∀ i, ∃ y, fmtE x first k i = (y, 0) /\ y.wf /\ y.on /\ y.dur.length = x.dur.length /\ (∀ j, j < i -> xP y (first + (k + j) % 2) = some (yN 128)) /\ ∀ m, (∀ j, j < i -> m ≠ first + (k + j) % 2) -> xP y m = xP x m
 | 0 => ⟨x, rfl, hw, on, rfl, λ j hj => absurd hj (Nat.not_lt_zero _), λ m _ => rfl⟩
 | i + 1 => by
  obtain ⟨y, e, yw, yon, yl, y1, y2⟩ := fmtE_on hw on hf (k := k) i;have hi : first + (k + i) % 2 < y.dur.length := by omega
  have hr := lU yw yon hi (yN 128);refine ⟨layX y (first + (k + i) % 2) (yN 128), ?_, yw.lay yon hi _, yon.layOn _ _, by rw [sL, yl], λ j hj => ?_, λ m hm => ?_⟩
  . unfold fmtE;rw [e];simp only [if_true];rw [(yon.lay _ _).2]
  . rw [hr]
    split
    . rfl
    . exact y1 j (by rename_i h; rcases Nat.lt_succ_iff_lt_or_eq.1 hj with h' | h'; exact h'; subst h'; exact absurd rfl h)
  . rw [hr, if_neg (hm i (Nat.lt_succ_self _))];exact y2 m λ j hj => hm j (by omega)
theorem fmtW_on {x : Dsk} (hw : x.wf) (on : x.on) {first : Nat} : ∀ i, first + 2 + i <= x.dur.length -> ∃ y, fmtW x first i = (y, true) /\ y.wf /\ y.on /\ y.dur.length = x.dur.length /\ (∀ j, j < i -> xP y (first + (2 + j)) = some (yN 128)) /\ ∀ m, (∀ j, j < i -> m ≠ first + (2 + j)) -> xP y m = xP x m
 | 0, _ => ⟨x, rfl, hw, on, rfl, λ j hj => absurd hj (Nat.not_lt_zero _), λ m _ => rfl⟩
 | i + 1, hf => by
  obtain ⟨y, e, yw, yon, yl, y1, y2⟩ := fmtW_on hw on (first := first) i (by omega);have hi : first + (2 + i) < y.dur.length := by omega
  have hr : ∀ m, xP (uP y (first + (2 + i) : Nat) (yN 128)) m = if m = first + (2 + i) then some (yN 128) else xP y m := λ m => rN y _ m _;refine ⟨uP y (first + (2 + i) : Nat) (yN 128), ?_, yw.wrote hi _, yon.wrote _ _, yl, λ j hj => ?_, λ m hm => ?_⟩
  . unfold fmtW;rw [e];simp only [if_true];rw [yon.write, yon.goesB]
  . rw [hr]
    split
    . rfl
    . exact y1 j (by omega)
  . rw [hr, if_neg (hm i (Nat.lt_succ_self _))];exact y2 m λ j hj => hm j (by omega)
theorem format_on {x : Dsk} (hw : x.wf) (on : x.on) {first size : Nat} (h3 : 2 < size) (h6 : size <= 65536) (hf : first + size <= x.dur.length) :
 ∃ y, xS x first size = (y, 0) /\ LogV y first size ⟨mY, 0, [], [], false⟩ [] /\ y.on /\ y.dur.length = x.dur.length /\ oN first size x y := by
 obtain ⟨y, e1, yw, yon, yl, y1, y2⟩ := fmtE_on hw on (first := first) (k := fmtK x first size) (by omega) 2;obtain ⟨z, e2, zw, zon, zl, z1, z2⟩ := fmtW_on yw yon (first := first) (size - 2) (by omega);have fl : (vT z).dur.length = z.dur.length := by rw [<- zon.flush]; exact sE z
 have hi : first + 1 < (vT z).dur.length := by omega
 have hr := lU zw.flushed zon.flushed hi (yR mY size);have won := zon.flushed.layOn (first + 1) (yR mY size);refine ⟨layX (vT z) (first + 1) (yR mY size), ?_, ?_, won, by rw [sL]; omega, λ i hi0 => ?_⟩
 rotate_right
 . rw [hr, if_neg (by omega), rO zw, z2 i λ j hj => by omega];exact y2 i λ j hj => by omega
 . unfold xS;rw [on.off, if_neg (by decide), e1];simp only;rw [if_neg (by simp), e2];simp only;rw [if_neg (by simp), zon.goesB, if_neg (by simp), zon.flush, (zon.flushed.lay _ _).2]
 have hk := fmtK_lt x first size;have hslot : ∀ k, k < 2 -> xP z (first + k) = some (yN 128) := λ k hk' => by
  rw [z2 _ λ j hj => by omega];have h0 := y1 0 (by decide);have h1 := y1 1 (by decide);rcases (show (fmtK x first size + 0) % 2 = k \/ (fmtK x first size + 1) % 2 = k by omega) with e | e
  . rw [<- e]; exact h0
  . rw [<- e]; exact h1
 generalize hW : layX (vT z) (first + 1) (yR mY size) = w at *;have hring : ∀ n, xP w (wY first size n) = some (yN 128) := λ n => by
  have hm := Nat.mod_lt n (show 0 < size - 2 by omega);rw [hr, if_neg (by unfold wY; omega), rO zw];have := z1 (n % (size - 2)) hm;unfold wY;rw [show first + 2 + n % (size - 2) = first + (2 + n % (size - 2)) by omega];exact this
 have hno : ∀ n p, xR w first size n ≠ .ok p := λ n p hp => by
  obtain ⟨c, hc⟩ := pieceR_zero (hring n);rw [hc] at hp
  cases hp
 have hoth : (wX w first size (1 - mY.gen % 2)).2 = true -> (wX w first size (1 - mY.gen % 2)).1.gen < mY.gen := by
  show (wX w first size 0).2 = true -> _;rw [slotR_zero (by rw [hr, if_neg (by omega), rO zw]; exact hslot 0 (by decide))];exact λ h => by cases h
 exact { wf := by rw [<- hW]; exact zw.flushed.lay zon.flushed hi _, off := won.off, fit := by rw [<- hW, sL]; omega, size3 := h3, size6 := h6, low := ⟨by decide, by decide, by decide, by decide⟩, gen := by decide, slot := by show xP w (first + 1) = _; rw [hr, if_pos rfl], other := hoth, chain := trivial, starts := rfl, epochs := rfl, next := rfl, asc := trivial, recs := (λ r hr => by cases hr), least := Nat.le_refl _, big := by decide, ring := Nat.zero_le _, up := rfl, junk := λ n p hp => absurd hp (hno n p), stop := pX λ p hp => absurd hp (hno _ p) }
theorem LogV.has {x : Dsk} {first size : Nat} {L : LogS} {rs : List Rc} (h : LogV x first size L rs) : HasRecs x first size L ((xX L.head.first rs).zip (rs.map Prod.fst)) := by
 refine ⟨by rw [List.map_fst_zip (by rw [wM, List.length_map]; exact Nat.le_refl _)]; exact h.starts.symm, λ e he => ?_⟩;have hkey : ∀ (rs : List Rc) (n : Nat), tY x first size n rs -> (∀ r ∈ rs, r.2 <= L.head.epoch /\ r.1.length <= 8192) -> endN n rs < 281474976710656 -> ∀ e ∈ (xX n rs).zip (rs.map Prod.fst), ∃ ep, xL x first size e.1 0 L.head.epoch = .ok (e.2, ep) := by
  intro rs
  induction rs with
  | nil => exact λ n _ _ _ e he => by cases he
  | cons r rs ih =>
   intro n hc hr hb e he;have hle := nB (n + need r.1.length) rs;have hb' : endN (n + need r.1.length) rs < 281474976710656 := hb;obtain ⟨r1, r2⟩ := hr r List.mem_cons_self;rcases List.mem_cons.1 he with rfl | he
   . exact ⟨r.2, lR h.off hc.1 r2 (by show n + need r.1.length <= _; omega) (by have := h.low.2.1; omega) (Nat.zero_le _) r1⟩
   . exact ih _ hc.2 (λ s hs => hr s (List.mem_cons_of_mem _ hs)) hb' e he
 exact hkey rs _ h.chain h.recs (by rw [<- h.next]; exact h.big) e he
theorem LogV.has_snd {L : LogS} (rs : List Rc) : ((xX L.head.first rs).zip (rs.map Prod.fst)).map Prod.snd = rs.map Prod.fst := List.map_snd_zip (by rw [wM, List.length_map]; exact Nat.le_refl _)
theorem tformat_on {x : Dsk} (hw : x.wf) (on : x.on) {first size : Nat} (h3 : 83 <= size) (h6 : size <= 65536) (hf : first + size <= x.dur.length) :
 ∃ y L, nM x first size = (y, 0) /\ LogV y first size L [(yO [] 0, 1)] /\ y.on /\ y.dur.length = x.dur.length /\ L.head.gen = 2 /\ L.head.epoch = 1 /\ L.head.first = 0 /\ oN first size x y := by
 obtain ⟨y, e1, hV, yon, yl, yk⟩ := format_on hw on (by omega) h6 hf;obtain ⟨o1, o2, o3, o4, o5, o6⟩ := hV.open yon (by decide) (by decide);have hl21 : (yO [] 0).length <= 21 := by
  have := qP 0 (yF 0) (by decide) (by decide);unfold yO;simpa using this
 have hlen : (yO [] 0).length <= 8192 := by omega
 have hneed : need (yO [] 0).length = 1 := by unfold need; rw [if_pos hlen]; omega
 obtain ⟨z, a1, a2, a3, a4⟩ := o3.append o4 (rec := yO [] 0) hlen (by rw [hneed]; unfold LogS.free uF mY; simp only; omega) (by rw [hneed]; decide);obtain ⟨f1, f2, f3, f4⟩ := a2.flush a3;have hka := jY (x := (yT y first size).1) (first := first) (size := size) (L := { (⟨mY, 0, [], [], false⟩ : LogS) with head := uF ⟨mY, 0, [], [], false⟩ [] }) (rec := yO [] 0) (by omega);rw [a1] at hka;refine ⟨vT z, _, ?_, f2, f3, by omega, rfl, rfl, rfl, ((yk.trans o6).trans hka).trans (fQ a2.wf)⟩;unfold nM;rw [e1];simp only;rw [if_neg (by simp), o1, if_neg (by simp), o2, a1];simp only;rw [if_neg (by simp), f1]
def vR (w : World) (F : Nat -> Prop) (v : Value) (ps : List Pr) : Prop := ∃ a cap, v = .slice a ps.length cap /\ ∀ i p, ps[i]? = some p ->
 ∃ g o va vb, a = some ⟨g, o, none⟩ /\ w.cell? ⟨g, o + i * 2, none⟩ = some va /\ w.cell? ⟨g, o + i * 2 + 1, none⟩ = some vb /\ SrcE w va (u8s p.1) /\ Src w vb (u8s p.2) /\ ¬ F g /\ ∀ j, obk va = some j \/ obk vb = some j -> j < w.heap.size /\ ¬ F j
theorem vR.ext {w w' : World} {F S : Nat -> Prop} {v : Value} {ps : List Pr} (h : vR w F v ps) (hX : Ext S w w') (hS : ∀ j, S j -> F j) : vR w' F v ps := by
 obtain ⟨a, cap, rfl, h⟩ := h;refine ⟨a, cap, rfl, λ i c hc => ?_⟩;obtain ⟨g, o, va, vb, rfl, h1, h2, h4, h5, h6, h7⟩ := h i c hc;exact ⟨g, o, va, vb, rfl, hX.cell_some h1 λ e => h6 (hS _ e), hX.cell_some h2 λ e => h6 (hS _ e), h4.ext hX λ j hj e => (h7 j (.inl hj)).2 (hS _ e), iJ h5 hX λ j hj e => (h7 j (.inr hj)).2 (hS _ e), h6, λ j hj => ⟨Nat.lt_of_lt_of_le (h7 j hj).1 hX.size, (h7 j hj).2⟩⟩
theorem vR.below {w w' : World} {F : Nat -> Prop} {v : Value} {ps : List Pr} (h : vR w F v ps) (hb : Below w.heap.size w w') : vR w' F v ps :=
 h.ext (S := λ _ => False) (Ext.of_below hb) λ _ e => e.elim
theorem vR.mono {w : World} {F G : Nat -> Prop} {v : Value} {ps : List Pr} (h : vR w F v ps) (hF : ∀ j, G j -> F j \/ w.heap.size <= j) : vR w G v ps := by
 obtain ⟨a, cap, rfl, h⟩ := h;refine ⟨a, cap, rfl, λ i c hc => ?_⟩;obtain ⟨g, o, va, vb, rfl, h1, h2, h4, h5, h6, h7⟩ := h i c hc;have hg := block_lt_of_cell h1;have hno : ∀ j, j < w.heap.size -> ¬ F j -> ¬ G j := λ j hj hf hG => (hF j hG).elim hf λ e => by omega
 exact ⟨g, o, va, vb, rfl, h1, h2, h4, h5, hno g hg h6, λ j hj => ⟨(h7 j hj).1, hno j (h7 j hj).1 (h7 j hj).2⟩⟩
theorem vR.nil (w : World) (F : Nat -> Prop) : vR w F (.slice none 0 0) [] := ⟨none, 0, rfl, λ i p h => by simp at h⟩
theorem vR.at {w : World} {F : Nat -> Prop} {a : Option Addr} {n cap : Nat} {ps : List Pr} (h : vR w F (.slice a n cap) ps) {i : Nat} {p : Pr} (hp : ps[i]? = some p) :
 ∃ g o va vb, a = some ⟨g, o, none⟩ /\ w.cell? ⟨g, o + i * 2, none⟩ = some va /\ w.cell? ⟨g, o + i * 2 + 1, none⟩ = some vb /\ SrcE w va (u8s p.1) /\ Src w vb (u8s p.2) /\ ¬ F g /\ ∀ j, obk va = some j \/ obk vb = some j -> j < w.heap.size /\ ¬ F j := by
 obtain ⟨a', cap', e, h⟩ := h;injection e with e1 e2 e3;subst e1;exact h i p hp
theorem liveN_upto {ps : List Pr} (hl : ps.length <= 1048576) (hg : ∀ p ∈ ps, p.1.length <= 1048576 /\ p.2.length <= 1048576) : zU ps <= 4398046511104 := by
 have key : ∀ ps : List Pr, (∀ p ∈ ps, p.1.length <= 1048576 /\ p.2.length <= 1048576) -> zU ps <= 4194304 * ps.length := by
  intro ps
  induction ps with
  | nil => exact λ _ => Nat.zero_le _
  | cons p ps ih =>
   intro h;have h1 := ih λ q hq => h q (List.mem_cons_of_mem _ hq);obtain ⟨h2, h3⟩ := h p List.mem_cons_self;have h4 := xU p.1.length (by omega);have h5 := xU p.2.length (by omega);have h6 : yY p.1 p.2 <= 4194304 := by unfold yY wW; simp only [List.length_append, zH]; omega
   rw [rI, List.length_cons];omega
 have := key ps hg;omega
theorem liveN_succ {ps : List Pr} {i : Nat} {p : Pr} (h : ps[i]? = some p) : zU (ps.take (i + 1)) = zU (ps.take i) + yY p.1 p.2 := by
 rw [List.take_add_one, h, Option.toList_some, uH, rI];simp [zU]
theorem rY (F : Nat -> Prop) (v : Value) (ps : List Pr) (w : World) (h : vR w F v ps) (hl : ps.length <= 1048576) (hg : ∀ p ∈ ps, p.1.length <= 1048576 /\ p.2.length <= 1048576) (hne : ∀ p ∈ ps, p.1 ≠ []) :
 Calls Tryz.prog 25 #[v] w λ e w' => e = .returned (.int .i64 (zU ps)) /\ Below w.heap.size w w' := by
 have hmax := liveN_upto hl hg;obtain ⟨a, cap, rfl, -⟩ := id h;obtain ⟨n, hn⟩ : ∃ n, ps.length = n := ⟨_, rfl⟩;rw [hn] at h hl ⊢;have H := zB (zC h hg);have Hn := zB hn;have hle : ∀ i, zU (ps.take i) <= zU ps := λ i => by
  have := uH (ps.take i) (ps.drop i);rw [List.take_append_drop] at this;omega
 have Hle := zB hle;have Hmax := zB hmax;clear h hg hn hle hmax;go_enter Tryz.func25, Tryz.ntmps25
 go_wp2_with fail
 go_loopw [3, 4, 5] (λ vn vi _ wr => ∃ i : Nat, vn = .int .i64 (zU (ps.take i)) /\ vi = .int .i64 i /\ i <= n /\ Below w.heap.size w wr) (λ _ vi _ _ => n - (intOf vi).toNat)
 case atStart => exact ⟨0, rfl, rfl, Nat.zero_le _, Below.refl _ _⟩
 case round =>
  obtain ⟨i, rfl, rfl, hi, hB⟩ := hrel;by_cases hin : i < n
  . have hin' : (i : Int) < (n : Int) := by omega
    obtain ⟨p, hp⟩ : ∃ p, ps[i]? = some p := ⟨_, List.getElem?_eq_getElem (by rw [Hn.out]; exact hin)⟩;obtain ⟨g, o, va, vb, rfl, c1, c2, s1, s2, -, -⟩ := (H.out.1.below hB).at hp;obtain ⟨g1, g2⟩ := H.out.2 p (List.mem_of_getElem? hp);have s1 := s1.src λ e => hne p (List.mem_of_getElem? hp) (List.map_eq_nil_iff.1 e);obtain ⟨m, hm⟩ : ∃ m, zU (ps.take i) = m := ⟨_, rfl⟩;have hsum := liveN_succ hp;have hm2 := Hle.out (i + 1);have hmx := Hmax.out;rw [hm] at hsum;rw [hsum] at hm2;rw [hm];have HS := zB hsum;have hs0 : Src wr (.slice none 0 0) [] := .inr ⟨rfl, rfl⟩;have HA := zB (wC (.slice none 0 0) va [] (u8s p.1) wr hs0 s1 (λ u h => by cases h) (yU _) (by decide) (by rw [zH]; omega));have HC := zB (zC c1 (zC c2 s2));have Hp := zB (zC hp (zC g1 g2));have hl1 := xU p.1.length (by omega);clear hs0 s1 s2 c2 hsum hp hm g1 g2
    go_wp2_with fail
    refine HA.out.mono ?_;rintro e w1 ⟨u, rfl, hown, hB1⟩;have hB2 := hB.trans (hB1.mono hB.size);have c2 := zG hB1 HC.out.2.1;have HA2 := zB (wC u vb _ (u8s p.2) w1 (Src.of_owns hown) (HC.out.2.2.below hB1) (by rw [List.nil_append]; exact mS (yU _)) (yU _) (by have := Hp.out.2.1; simp [wW, zH]; omega) (by have := Hp.out.2.2; rw [zH]; omega));clear hown hB1 c1
    go_wp2_with fail
    refine HA2.out.mono ?_;rintro e w2 ⟨u2, rfl, hown2, hB3⟩;obtain ⟨a2, c3, rfl, -⟩ := zP hown2;have hle : (([] ++ wW (u8s p.1)) ++ wW (u8s p.2)).length = yY p.1 p.2 := by simp [yY]
    rw [hle];have hB4 := hB2.trans (hB3.mono hB2.size);clear hown2 hle c2;have e1 := IntWalk.i64_in ((m : Int) + (yY p.1 p.2 : Nat)) (by omega)
    go_wp2_with fail
    refine ⟨⟨i + 1, by rw [HS.out]; push_cast; rfl, by simp, by omega, hB4⟩, ?_⟩;show n - ((i : Int) + 1).toNat < n - (i : Int).toNat;omega
  . obtain rfl : i = n := by omega
    have hi' : ¬ ((i : Int) < (i : Int)) := by omega
    have ht : ps.take i = ps := List.take_of_length_le (by rw [Hn.out]; exact Nat.le_refl _);rw [ht];clear ht
    go_wp2_with fail
    go_ret
    exact ⟨rfl, hB⟩
end Go.Proofs.YtbjofbhhnmehgaaGreatDoor.TT
namespace Go.Proofs.YtbjofbhhnmehgaaGreatDoor.TT
open Go.RowKit Go.RG Go.Hp Go.Proofs.YtbjofbhhnmehgaaGreatDoor
attribute [local go_sem] Oper.semAt_some
structure IsI (w5 : World) (B1 B2 : Nat) (ts ps : List Pr) (pre : List (Value × Value)) (W : World) : Prop where
 below : Below B1 w5 W
 eq : ts.take pre.length = ps.take pre.length
 len : pre.length <= ts.length /\ pre.length <= ps.length
 one : W.heap[B1]? = some (.cells #[.bool false] 4 (0, 0))
 two : W.heap[B2]? = some (.cells #[.int .i64 pre.length] 3 (0, 0))
theorem IsI.box {w5 W : World} {B1 B2 : Nat} {ts ps : List Pr} {pre : List (Value × Value)} (h : IsI w5 B1 B2 ts ps pre W) : pK B1 B2 W :=
 ⟨⟨_, _, h.one, λ j hj => by cases hj⟩, ⟨_, _, h.two, λ j hj => by cases hj⟩⟩
theorem gR {w5 A B : World} {B1 : Nat} {row : Option Nat} (hB : B1 <= w5.heap.size) (h1 : Below B1 w5 A) (hg : A.grownBy B row) (hr : ∀ r, row = some r -> w5.heap.size <= r) : Below B1 w5 B :=
 ⟨hg.os.trans h1.os, hg.tape.trans h1.tape, hg.output.trans h1.output, Nat.le_trans h1.size hg.size, λ k hk => (hg.block k (Nat.lt_of_lt_of_le (Nat.lt_of_lt_of_le hk hB) h1.size) λ e => by have := hr k e.symm; omega).trans (h1.block k hk)⟩
theorem isI_own {w5 : World} {B1 B2 : Nat} {ts ps : List Pr} (hB : B1 <= w5.heap.size) : OwnFrom w5.heap.size (IsI w5 B1 B2 ts ps) := by
 rintro pre A B row ⟨h1, h2, h3, h4, h5⟩ hg hr;have hX := oZ hg λ r e => (hr r e).2;have hc1 : wR A B1 := ⟨_, h4, rfl⟩;have hc2 : wR A B2 := ⟨_, h5, rfl⟩;exact ⟨gR hB h1 hg λ r e => (hr r e).1, h2, h3, (hX.block _ hc1.lt (λ h => h hc1)).trans h4, (hX.block _ hc2.lt (λ h => h hc2)).trans h5⟩
structure IsX (w5 : World) (B1 : Nat) (ts ps : List Pr) (W : World) : Prop where
 below : Below B1 w5 W
 ne : ts ≠ ps
 one : W.heap[B1]? = some (.cells #[.bool false] 4 (0, 0))
theorem isX_own {w5 : World} {B1 : Nat} {ts ps : List Pr} (hB : B1 <= w5.heap.size) (c : Code) : OwnFrom w5.heap.size (λ (_ : List (Value × Value)) W => c = .ret /\ IsX w5 B1 ts ps W) := by
 rintro pre A B row ⟨rfl, h1, h2, h4⟩ hg hr;have hX := oZ hg λ r e => (hr r e).2;have hc1 : wR A B1 := ⟨_, h4, rfl⟩;exact ⟨rfl, gR hB h1 hg λ r e => (hr r e).1, h2, (hX.block _ hc1.lt (λ h => h hc1)).trans h4⟩
def IsO (w5 : World) (B1 B2 : Nat) (ts : List Pr) (pre : List (Value × Value)) (x : Value × Value) (W : World) : Prop :=
 pK B1 B2 W /\ ∃ p, ts[pre.length]? = some p /\ Src W x.1 (u8s p.1) /\ Src W x.2 (u8s p.2) /\ ∀ j, x.1.ownBlock = some j \/ x.2.ownBlock = some j -> fF B1 B2 W j
theorem isO_own {w5 : World} {B1 B2 : Nat} {ts : List Pr} {pre : List (Value × Value)} {x : Value × Value} : OwnFrom w5.heap.size (λ (_ : Unit) W => IsO w5 B1 B2 ts pre x W) := by
 rintro - A B row ⟨h0, p, h1, h2, h3, h4⟩ hg hr;have hX := oZ hg λ r e => (hr r e).2;obtain ⟨k1, k2⟩ := (pD B1 B2).grown A B row h0 hg λ r e => (hr r e).2;exact ⟨k1, p, h1, xG h2 hX λ j hj h => h (h4 j (.inl hj)).1, xG h3 hX λ j hj h => h (h4 j (.inr hj)).1, λ j hj => (k2 j (h4 j hj)).1⟩
theorem isI_step {w5 W U : World} {B1 B2 : Nat} {ts ps : List Pr} {pre : List (Value × Value)} {x : Value × Value} {p : Pr} {X : Nat -> Prop} (hB12 : B1 < B2) (hB2 : B2 < w5.heap.size) (hI : IsI w5 B1 B2 ts ps pre W) (h1 : ts[pre.length]? = some p) (h2 : ps[pre.length]? = some p) (hU : Below W.heap.size W U) :
 KeepsFrom w5.heap.size W (U.setCell ⟨B2, 0, none⟩ (.int .i64 ((pre.length : Int) + 1))) /\ pJ (pK B1 B2) (fF B1 B2) X W (U.setCell ⟨B2, 0, none⟩ (.int .i64 ((pre.length : Int) + 1))) /\ IsI w5 B1 B2 ts ps (pre ++ [x]) (U.setCell ⟨B2, 0, none⟩ (.int .i64 ((pre.length : Int) + 1))) := by
 have hX1 : Ext (· = B2) U (U.setCell ⟨B2, 0, none⟩ (.int .i64 ((pre.length : Int) + 1))) := Ext.setCell (S := (· = B2)) (p := ⟨B2, 0, none⟩) rfl _;have t2 := yB (j := 0) (zK hU hI.two) (.int .i64 ((pre.length : Int) + 1));generalize U.setCell ⟨B2, 0, none⟩ (.int .i64 ((pre.length : Int) + 1)) = V at *;have hX : Ext (· = B2) W V := (Ext.of_below hU).trans hX1 λ _ _ h => h;have hw5 := hI.below.size;have hB1W := zI hI.one;have hB2W := zI hI.two;have t1 := (hX.block _ hB1W (by omega)).trans hI.one;have hnew : IsI w5 B1 B2 ts ps (pre ++ [x]) V := by
  refine ⟨?_, ?_, ?_, t1, ?_⟩
  . exact hI.below.trans ⟨hX.os, hX.tape, hX.output, hX.size, λ k hk => hX.block k (by omega) (by omega)⟩
  . rw [List.length_append, List.length_singleton, List.take_add_one, List.take_add_one, h1, h2, hI.eq]
  . have := (List.getElem?_eq_some_iff.1 h1).1;have := (List.getElem?_eq_some_iff.1 h2).1;simp;omega
  . rw [t2];simp
 refine ⟨⟨hX.size, λ k o hk ho hc => (hX.block k (zI ho) (by omega)).trans ho⟩, ⟨λ _ => hnew.box, hX.size, λ h0 k hk _ => ?_⟩, hnew⟩;obtain ⟨h3, h4, h5, h6⟩ := hk;have hkk := hX.block k h3.lt h5;refine ⟨⟨by obtain ⟨o, h7, h8⟩ := h3; exact ⟨o, hkk.trans h7, h8⟩, h4, h5, λ v hv => ?_⟩, hkk⟩;rcases hv with hv | hv
 . have : V.cell? ⟨B1, 0, none⟩ = some (.bool false) := by simp [World.cell?, t1]
   rw [this] at hv;injection hv with hv;subst hv;exact λ e => by cases e
 . have : V.cell? ⟨B2, 0, none⟩ = some (.int .i64 ((pre.length : Int) + 1)) := by simp [World.cell?, t2]
   rw [this] at hv;injection hv with hv;subst hv;exact λ e => by cases e
theorem isX_step {w5 W U : World} {B1 B2 : Nat} {ts ps : List Pr} {pre : List (Value × Value)} (hB12 : B1 < B2) (hB2 : B2 < w5.heap.size) (hI : IsI w5 B1 B2 ts ps pre W) (hne : ts ≠ ps) (hU : Below W.heap.size W U) :
 KeepsFrom w5.heap.size W (U.setCell ⟨B1, 0, none⟩ (.bool false)) /\ IsX w5 B1 ts ps (U.setCell ⟨B1, 0, none⟩ (.bool false)) := by
 have hX1 : Ext (· = B1) U (U.setCell ⟨B1, 0, none⟩ (.bool false)) := Ext.setCell (S := (· = B1)) (p := ⟨B1, 0, none⟩) rfl _;have t2 := yB (j := 0) (zK hU hI.one) (.bool false);generalize U.setCell ⟨B1, 0, none⟩ (.bool false) = V at *;have hX : Ext (· = B1) W V := (Ext.of_below hU).trans hX1 λ _ _ h => h;have hw5 := hI.below.size;exact ⟨⟨hX.size, λ k o hk ho hc => (hX.block k (zI ho) (by omega)).trans ho⟩, hI.below.trans ⟨hX.os, hX.tape, hX.output, hX.size, λ k hk => hX.block k (by omega) (by omega)⟩, hne, t2⟩
theorem valP_mem {ps : List Pr} {p : Pr} (hr : yQ (zS ps)) (hp : p ∈ ps) : valP ps p.1 = p.2 := by
 have hk : p.1 ∈ zS ps := List.mem_map_of_mem hp;obtain ⟨v, h1, h2, h3⟩ := rA hr hk;rw [h3];obtain ⟨i, hi, hpi⟩ := List.mem_iff_getElem.1 hp;obtain ⟨j, hj, hpj⟩ := List.mem_iff_getElem.1 h2;have hnd := wO hr;have key : i = j := by
  refine (List.getElem_inj (h₀ := by unfold zS; rw [List.length_map]; exact hi) (h₁ := by unfold zS; rw [List.length_map]; exact hj) hnd).1 ?_;simp only [zS, List.getElem_map, hpi, hpj]
 subst key;rw [hpi] at hpj;rw [hpj]
theorem nilf_no (f : Fn) (x y : Array Value) (w : World) : Sem.run Tryz.prog (binOp BinOp.eql 60 (.func f x y) .nilFunc) w = .ok (.bool false) w := by kernel_rfl
theorem is_any (d l : Nat) (q : TBk) (T : TblS) (F : Nat -> Prop) (v : Value) (ps : List Pr) (w : World) (h : sH w d l q T) (hp : vR w F v ps) (hlive : T.live = zU T.ps) (hsum : T.live <= 1000000000) (hl : ps.length <= 1048576) (hg : ∀ p ∈ ps, p.1.length <= 1048576 /\ p.2.length <= 1048576) (hne : ∀ p ∈ ps, p.1 ≠ []) :
 Calls Tryz.prog 19 #[.pointer (some ⟨q.t, 0, none⟩), v] w λ e w' => e = .returned (.bool (decide (T.ps = ps))) /\ Below w.heap.size w w' := by
 obtain ⟨a, cap, rfl, -⟩ := id hp;obtain ⟨n, hn⟩ : ∃ n, ps.length = n := ⟨_, rfl⟩;rw [hn] at hp hl ⊢;obtain ⟨hb0, g0, g1, g2, g3, hs4⟩ := allocs4 w (.cells #[.pointer (some ⟨q.t, 0, none⟩)] 26) (.cells #[.slice a n cap] 44) (.cells #[.bool false] 4) (.cells #[.int .i64 0] 3);have HH := zB (zC h (zC hp (zC hlive (zC hsum (zC hl (zC hg hn))))));have HNE := zB hne;clear h hp hlive hsum hl hg hn hne;refine (callsIn_wide (n := 3)).1 ?_;refine callsIn_of_wp_marks Tryz.func19 rfl trivial ?_ rfl;simp only [Tryz.ntmps19, List.size_toArray, List.length_cons, List.length_nil, Nat.reduceAdd, Nat.reduceSub, Array.replicate_succ, Array.replicate_zero, List.push_toArray, List.append_toArray, List.nil_append, List.cons_append]
 gi_wp2_with fail
 obtain ⟨w4, hw4⟩ : ∃ w4, ((((w.alloc (.cells #[.pointer (some ⟨q.t, 0, none⟩)] 26)).alloc (.cells #[.slice a n cap] 44)).alloc (.cells #[.bool false] 4)).alloc (.cells #[.int .i64 0] 3)) = w4 := ⟨_, rfl⟩;rw [hw4] at hb0 g0 g1 g2 g3 hs4 ⊢;clear hw4;have H0 := zB (zC hb0 (zC g2 (zC g3 hs4)));have c0 : w4.cell? ⟨w.heap.size, 0, none⟩ = some (.pointer (some ⟨q.t, 0, none⟩)) := by simp [World.cell?, g0]
 have c1 : w4.cell? ⟨w.heap.size + 1, 0, none⟩ = some (.slice a n cap) := by simp [World.cell?, g1]
 clear hb0 g0 g1 g2 g3 hs4;have hsn : Src w4 (.slice none 0 0) (u8s []) := .inr ⟨rfl, rfl⟩;refine ⟨trivial, callsIn_wide.2 ((eD (some ⟨q.t, 0, none⟩) (.slice none 0 0) (.slice none 0 0) [] [] w4 hsn hsn).mono ?_)⟩;rintro e w5 ⟨Bt, Bl, Bh, rfl, hbt, hbl, hbh, ct, cl, ch, hB5⟩;have c0 := zG hB5 c0;have c1 := zG hB5 c1;have HB := zB (zC hB5 (zC hbt (zC hbl (zC hbh (zC ct (zC cl ch))))));clear hsn hB5 hbt hbl hbh ct cl ch;have hnf := nilf_no
 gi_wp2_with fail
 clear hnf;have hs5 := HB.out.1.size;have hs4 := H0.out.2.2.2;have k1 := zK HB.out.1 H0.out.2.1;have k2 := zK HB.out.1 H0.out.2.2.1;have hBw : Below w.heap.size w w5 := H0.out.1.trans (HB.out.1.mono H0.out.1.size);have hT5 := HH.out.1.below hBw;have hX0 : pK (w.heap.size + 1 + 1) (w.heap.size + 1 + 1 + 1) w5 := ⟨⟨_, _, k1, λ j hj => (by cases hj)⟩, ⟨_, _, k2, λ j hj => (by cases hj)⟩⟩;have hI0 : IsI w5 (w.heap.size + 1 + 1) (w.heap.size + 1 + 1 + 1) T.ps ps [] w5 := ⟨Below.refl _ _, rfl, ⟨Nat.zero_le _, Nat.zero_le _⟩, k1, k2⟩;have hseq := walk_seq 2 d l q T [] [] w5 hT5 (λ b hb => by cases hb) (λ b hb => by cases hb) (by have h1 := HH.out.2.2.1; have h2 := HH.out.2.2.2.1; omega) Bt Bl Bh HB.out.2.2.2.2.1 HB.out.2.2.2.2.2.1 HB.out.2.2.2.2.2.2
  (pK (w.heap.size + 1 + 1) (w.heap.size + 1 + 1 + 1)) (fF (w.heap.size + 1 + 1) (w.heap.size + 1 + 1 + 1)) (pD _ _) hX0
 have hwr : walkR T.ps [] [] = T.ps := by
  unfold walkR kT;rw [if_pos rfl, List.take_length];have : posK (zS T.ps) [] = 0 := by
   unfold posK;exact List.countP_eq_zero.2 λ y _ => by cases y <;> simp [klt]
  rw [this];rfl
 rw [hwr] at hseq;have HI := zB (zC hBw (zC hI0 hT5));have hB12 : w.heap.size + 1 + 1 < w.heap.size + 1 + 1 + 1 := Nat.lt_succ_self _;have hB2 : w.heap.size + 1 + 1 + 1 < w5.heap.size := by omega
 have HB12 := zB (zC hB12 hB2);clear hI0 hT5 hBw hX0 k1 k2 hwr hB12 hB2 hs5 hs4;generalize hA0 : Act.mk _ [] = a0;refine jK (F := Fence.wide) rfl (by decide) (gf := 67) (lb := #[.pointer (some ⟨Bt, 0, none⟩), .pointer (some ⟨Bl, 0, none⟩), .pointer (some ⟨Bh, 0, none⟩)]) (by subst hA0; rfl) trivial (enters_of Tryz.func67 (by kernel_rfl) rfl) hseq (λ h k => h.trans k) (λ x W l o o' h1 h2 h3 h4 => pJ.putObj (pD _ _) W l o o' h2 h3) (Below.refl _ _) (λ _ => rfl)
  (IsI w5 (w.heap.size + 1 + 1) (w.heap.size + 1 + 1 + 1) T.ps ps) (λ c _ W => c = .ret /\ IsX w5 (w.heap.size + 1 + 1) T.ps ps W) (isI_own (by have := HB12.out.2; omega)) (λ c => isX_own (by have := HB12.out.2; omega) c) HI.out.2.1
  (λ pre x a' W => a' = { tmps := (((a0.tmps.setIfInBounds 16 x.1).setIfInBounds 17 x.2).setIfInBounds 7 x.1).setIfInBounds 8 x.2, defers := [] } /\ IsO w5 (w.heap.size + 1 + 1) (w.heap.size + 1 + 1 + 1) T.ps pre x W)
  (λ pre x a' u A B row hs hg hr => ⟨hs.1, isO_own (w5 := w5) u A B row hs.2 hg hr⟩) ?assign ?body ?done ?stop
 case assign =>
  rintro l pre ⟨x1, x2⟩ W K hI hok hK;subst hA0;obtain ⟨p, q1, q2, q3, q4, -⟩ := hok;dsimp only at q2 q3 q4 hK ⊢;obtain ⟨ay, cy, hyv, -⟩ := q2.src.shape;obtain ⟨az, cz, hzv, -⟩ := zP q3;rw [zH] at hyv;subst hyv;subst hzv;have HQ := zB (zC q2 (zC q3 q4));clear q2 q3 q4
  gi_wp2_with fail
  refine hK _ _ (KeepsFrom.refl _ _) (pJ.refl _) hI ⟨rfl, hI.box, ?_⟩;exact ⟨p, q1, HQ.out.1.src, Src.of_owns HQ.out.2.1, HQ.out.2.2⟩
 case body =>
  rintro l' pre ⟨x1, x2⟩ a' W hl' ⟨r, hr⟩ hI ⟨rfl, hX⟩;subst hA0;simp only [List.setIfInBounds_toArray, List.set_cons_succ, List.set_cons_zero];obtain ⟨i, hi⟩ : ∃ i, pre.length = i := ⟨_, rfl⟩;obtain ⟨hbox, p, hp1, s1, s2, hpr⟩ := hX;dsimp only at s1 s2 hpr ⊢;obtain ⟨ay, cy, hyv, -⟩ := s1.shape;obtain ⟨az, cz, hzv, -⟩ := s2.shape;rw [zH] at hyv hzv;subst hyv;subst hzv;have hWw : Below w.heap.size w W := HI.out.1.trans (hI.below.mono (by omega));have hb12 := HB12.out;have d0 : W.cell? ⟨w.heap.size, 0, none⟩ = some (.pointer (some ⟨q.t, 0, none⟩)) := (World.cell?_of_block (w := w5) (hI.below.block _ (by show w.heap.size < _; omega))).trans c0;have d1 : W.cell? ⟨w.heap.size + 1, 0, none⟩ = some (.slice a n cap) := (World.cell?_of_block (w := w5) (hI.below.block _ (by show w.heap.size + 1 < _; omega))).trans c1;have h1 := hI.one;have h2 := hI.two;rw [hi] at h2;have HK := zB (zC hI (zC (hi ▸ hp1) (zC s1 (zC s2 (zC (HH.out.1.below hWw) (zC (HH.out.2.1.below hWw) (zC hi (zC h1 h2))))))));clear hI hp1 s1 s2 hWw hb12 h1 h2 hi hr hbox hpr hl' c0 c1;by_cases hin : i < n
  . have hn20 : (i : Int) <= 1048576 := by have := HH.out.2.2.2.2.1; omega
    have hlt : ¬ (n : Int) <= (i : Int) := by omega
    have hi0 : (i : Int) < (n : Int) := by omega
    obtain ⟨p', hp'⟩ : ∃ p', ps[i]? = some p' := ⟨_, List.getElem?_eq_getElem (by rw [HH.out.2.2.2.2.2.2]; exact hin)⟩;obtain ⟨g, o, va, vb, rfl, ca, cb, sa, sb, -, -⟩ := HK.out.2.2.2.2.2.1.at hp';obtain ⟨l1, l2⟩ := HH.out.2.2.2.2.2.1 p' (List.mem_of_getElem? hp');obtain ⟨-, -, l3, l4⟩ := HK.out.2.2.2.2.1.good p (List.mem_of_getElem? HK.out.2.1);have HN1 := zB λ (hne : p ≠ p') => λ (U : World) (hU : Below W.heap.size W U) => isX_step (ps := ps) (ts := T.ps) HB12.out.1 HB12.out.2 HK.out.1 (λ e => by
     have h1 := HK.out.2.1;rw [e, hp'] at h1;exact hne (Option.some.inj h1).symm) hU
    have HP := zB (zC hp' (zC cb (zC sb (zC l2 l4))));have HY := zB (kM (.slice ay p.1.length cy) va p.1 p'.1 W HK.out.2.2.1.e sa (by omega) (by omega));clear hp' cb sa sb l1 l2 l3 l4;have y1 := zK (Below.refl W.heap.size W) HK.out.2.2.2.2.2.2.2.1;have y2 := zK (Below.refl W.heap.size W) HK.out.2.2.2.2.2.2.2.2;have z1 : (W).cell? ⟨w.heap.size + 1 + 1, 0, none⟩ = some (.bool false) := by simp [World.cell?, y1]
    have z2 : (W).cell? ⟨w.heap.size + 1 + 1 + 1, 0, none⟩ = some (.int .i64 i) := by simp [World.cell?, y2]
    have zf1 : (W).frozen? ⟨w.heap.size + 1 + 1, 0, none⟩ = false := by simp [World.frozen?, y1]
    have zf2 : (W).frozen? ⟨w.heap.size + 1 + 1 + 1, 0, none⟩ = false := by simp [World.frozen?, y2]
    clear y1 y2
    gi_wp2_with fail
    refine ⟨trivial, callsIn_wide.2 (HY.out.mono ?_)⟩;rintro e w1 ⟨rfl, hb1⟩;clear HY z1 z2 zf1 zf2;have d0 := zG hb1 d0;have d1 := zG hb1 d1;clear ca;by_cases hk1 : p.1 = p'.1
    . simp only [decide_eq_true hk1];have cb := zG hb1 HP.out.2.1;have HY := zB (kM (.slice az p.2.length cz) vb p.2 p'.2 w1 (HK.out.2.2.2.1.below hb1).e (HP.out.2.2.1.below hb1).e (by have := HP.out.2.2.2.2; omega) (by have := HP.out.2.2.2.1; omega));have y1 := zK hb1 HK.out.2.2.2.2.2.2.2.1;have y2 := zK hb1 HK.out.2.2.2.2.2.2.2.2;have z1 : (w1).cell? ⟨w.heap.size + 1 + 1, 0, none⟩ = some (.bool false) := by simp [World.cell?, y1]
      have z2 : (w1).cell? ⟨w.heap.size + 1 + 1 + 1, 0, none⟩ = some (.int .i64 i) := by simp [World.cell?, y2]
      have zf1 : (w1).frozen? ⟨w.heap.size + 1 + 1, 0, none⟩ = false := by simp [World.frozen?, y1]
      have zf2 : (w1).frozen? ⟨w.heap.size + 1 + 1 + 1, 0, none⟩ = false := by simp [World.frozen?, y2]
      clear y1 y2
      gi_wp2_with fail
      refine ⟨trivial, callsIn_wide.2 (HY.out.mono ?_)⟩;rintro e w2 ⟨rfl, hb2⟩;have hb2' := hb1.trans (hb2.mono hb1.size);have d0 := zG hb2 d0;clear HY z1 z2 zf1 zf2 cb d1;by_cases hk2 : p.2 = p'.2
      . simp only [decide_eq_true hk2];have hmem := List.mem_of_getElem? HK.out.2.1;obtain ⟨hkb, -, hkl, hvl⟩ := HK.out.2.2.2.2.1.good p hmem;have hkey : p.1 ∈ zS T.ps := List.mem_map_of_mem hmem;have hval : valP T.ps p.1 = p.2 := valP_mem HK.out.2.2.2.2.1.rise hmem;have HG := zB (tget_any d l q T (.slice ay p.1.length cy) p.1 w2 (HK.out.2.2.2.2.1.below hb2') (HK.out.2.2.1.below hb2') hkb (by omega));rw [decide_eq_true hkey, hval] at HG;have Hvl := zB hvl;have Hkk := zB (zC hk1 hk2);clear hmem hkb hkl hvl hkey hval hk1 hk2;have y1 := zK hb2' HK.out.2.2.2.2.2.2.2.1;have y2 := zK hb2' HK.out.2.2.2.2.2.2.2.2;have z1 : (w2).cell? ⟨w.heap.size + 1 + 1, 0, none⟩ = some (.bool false) := by simp [World.cell?, y1]
        have z2 : (w2).cell? ⟨w.heap.size + 1 + 1 + 1, 0, none⟩ = some (.int .i64 i) := by simp [World.cell?, y2]
        have zf1 : (w2).frozen? ⟨w.heap.size + 1 + 1, 0, none⟩ = false := by simp [World.frozen?, y1]
        have zf2 : (w2).frozen? ⟨w.heap.size + 1 + 1 + 1, 0, none⟩ = false := by simp [World.frozen?, y2]
        clear y1 y2
        gi_wp2_with fail
        refine ⟨trivial, callsIn_wide.2 (HG.out.mono ?_)⟩;rintro e w3 ⟨u, rfl, hown, hb3⟩;have hb3' := hb2'.trans (hb3.mono hb2'.size);clear HG z1 z2 zf1 zf2 d0;obtain ⟨au, cu, rfl, -⟩ := zP hown;have HY := zB (kM (.slice au p.2.length cu) (.slice az p.2.length cz) p.2 p.2 w3 (Src.of_owns hown).e (HK.out.2.2.2.1.below hb3').e (by have := Hvl.out; omega) (by have := Hvl.out; omega));clear hown;have y1 := zK hb3' HK.out.2.2.2.2.2.2.2.1;have y2 := zK hb3' HK.out.2.2.2.2.2.2.2.2;have z1 : (w3).cell? ⟨w.heap.size + 1 + 1, 0, none⟩ = some (.bool false) := by simp [World.cell?, y1]
        have z2 : (w3).cell? ⟨w.heap.size + 1 + 1 + 1, 0, none⟩ = some (.int .i64 i) := by simp [World.cell?, y2]
        have zf1 : (w3).frozen? ⟨w.heap.size + 1 + 1, 0, none⟩ = false := by simp [World.frozen?, y1]
        have zf2 : (w3).frozen? ⟨w.heap.size + 1 + 1 + 1, 0, none⟩ = false := by simp [World.frozen?, y2]
        clear y1 y2
        gi_wp2_with fail
        refine ⟨trivial, callsIn_wide.2 (HY.out.mono ?_)⟩;rintro e w4' ⟨rfl, hb4⟩;have hb4' := hb3'.trans (hb4.mono hb3'.size);clear HY z1 z2 zf1 zf2;simp only [decide_eq_true (rfl : p.2 = p.2)];have y1 := zK hb4' HK.out.2.2.2.2.2.2.2.1;have y2 := zK hb4' HK.out.2.2.2.2.2.2.2.2;have z1 : (w4').cell? ⟨w.heap.size + 1 + 1, 0, none⟩ = some (.bool false) := by simp [World.cell?, y1]
        have z2 : (w4').cell? ⟨w.heap.size + 1 + 1 + 1, 0, none⟩ = some (.int .i64 i) := by simp [World.cell?, y2]
        have zf1 : (w4').frozen? ⟨w.heap.size + 1 + 1, 0, none⟩ = false := by simp [World.frozen?, y1]
        have zf2 : (w4').frozen? ⟨w.heap.size + 1 + 1 + 1, 0, none⟩ = false := by simp [World.frozen?, y2]
        clear y1 y2;have hpp : p = p' := Prod.ext Hkk.out.1 Hkk.out.2;have hst := isI_step (x := (Value.slice ay p.1.length cy, Value.slice az p.2.length cz)) (X := λ j => (Value.slice ay p.1.length cy).ownBlock = some j \/ (Value.slice az p.2.length cz).ownBlock = some j) HB12.out.1 HB12.out.2 HK.out.1 (p := p) (by rw [HK.out.2.2.2.2.2.2.1]; exact HK.out.2.1) (by rw [HK.out.2.2.2.2.2.2.1, hpp]; exact HP.out.1) hb4';rw [HK.out.2.2.2.2.2.2.1] at hst;have HST := zB hst;clear hst hpp
        gi_wp2_with fail
        exact HST.out
      . simp only [decide_eq_false hk2];have y1 := zK hb2' HK.out.2.2.2.2.2.2.2.1;have y2 := zK hb2' HK.out.2.2.2.2.2.2.2.2;have z1 : (w2).cell? ⟨w.heap.size + 1 + 1, 0, none⟩ = some (.bool false) := by simp [World.cell?, y1]
        have z2 : (w2).cell? ⟨w.heap.size + 1 + 1 + 1, 0, none⟩ = some (.int .i64 i) := by simp [World.cell?, y2]
        have zf1 : (w2).frozen? ⟨w.heap.size + 1 + 1, 0, none⟩ = false := by simp [World.frozen?, y1]
        have zf2 : (w2).frozen? ⟨w.heap.size + 1 + 1 + 1, 0, none⟩ = false := by simp [World.frozen?, y2]
        clear y1 y2
        gi_wp2_with fail
        have hst := HN1.out (λ e => hk2 (by rw [e])) w2 hb2';exact ⟨hst.1, rfl, hst.2⟩
    . simp only [decide_eq_false hk1];have y1 := zK hb1 HK.out.2.2.2.2.2.2.2.1;have y2 := zK hb1 HK.out.2.2.2.2.2.2.2.2;have z1 : (w1).cell? ⟨w.heap.size + 1 + 1, 0, none⟩ = some (.bool false) := by simp [World.cell?, y1]
      have z2 : (w1).cell? ⟨w.heap.size + 1 + 1 + 1, 0, none⟩ = some (.int .i64 i) := by simp [World.cell?, y2]
      have zf1 : (w1).frozen? ⟨w.heap.size + 1 + 1, 0, none⟩ = false := by simp [World.frozen?, y1]
      have zf2 : (w1).frozen? ⟨w.heap.size + 1 + 1 + 1, 0, none⟩ = false := by simp [World.frozen?, y2]
      clear y1 y2
      gi_wp2_with fail
      refine ⟨trivial, ?_⟩
      gi_wp2_with fail
      have hst := HN1.out (λ e => hk1 (by rw [e])) w1 hb1;exact ⟨hst.1, rfl, hst.2⟩
  . have hge : (n : Int) <= (i : Int) := by omega
    have y1 := zK (Below.refl W.heap.size W) HK.out.2.2.2.2.2.2.2.1;have y2 := zK (Below.refl W.heap.size W) HK.out.2.2.2.2.2.2.2.2;have z1 : (W).cell? ⟨w.heap.size + 1 + 1, 0, none⟩ = some (.bool false) := by simp [World.cell?, y1]
    have z2 : (W).cell? ⟨w.heap.size + 1 + 1 + 1, 0, none⟩ = some (.int .i64 i) := by simp [World.cell?, y2]
    have zf1 : (W).frozen? ⟨w.heap.size + 1 + 1, 0, none⟩ = false := by simp [World.frozen?, y1]
    have zf2 : (W).frozen? ⟨w.heap.size + 1 + 1 + 1, 0, none⟩ = false := by simp [World.frozen?, y2]
    clear y1 y2
    gi_wp2_with fail
    refine ⟨trivial, ?_⟩
    gi_wp2_with fail
    refine ⟨trivial, ?_⟩
    gi_wp2_with fail
    have hst := isX_step (ps := ps) (ts := T.ps) HB12.out.1 HB12.out.2 HK.out.1 (λ e => by
     have h1 := (List.getElem?_eq_some_iff.1 HK.out.2.1).1;have h2 := HH.out.2.2.2.2.2.2;rw [e] at h1;omega) (Below.refl _ _)
    exact ⟨hst.1, rfl, hst.2⟩
 case stop =>
  rintro D c pre W hD hpre ⟨rfl, h⟩ hK;subst hA0;have hb12 := HB12.out;have hXD : Ext (· = D) W (W.putObj D (.deferred none)) := Ext.grown (grownBy_putObj' W D _) λ k e _ => (Option.some.inj e).symm;have y1 := (hXD.block _ (zI h.one) (by omega)).trans h.one;have z1 : (W.putObj D (.deferred none)).cell? ⟨w.heap.size + 1 + 1, 0, none⟩ = some (.bool false) := by simp [World.cell?, y1]
  have hBf : Below w.heap.size w (W.putObj D (.deferred none)) := (HI.out.1.trans (h.below.mono (by omega))).trans ⟨hXD.os, hXD.tape, hXD.output, hXD.size, λ k hk => hXD.block k (by have := HI.out.1.size; have := h.below.size; omega) (by have := HI.out.1.size; omega)⟩;have HZ := zB (zC z1 (zC hBf (zC h.ne hK)));clear hXD y1 z1 hBf h hK hb12
  gi_wp2_with fail
  refine ⟨by simp, .inl ⟨_, _, rfl, run_takeDeferred HZ.out.2.2.2, ?_⟩⟩;refine ⟨.bool false, by simp [results, Tryz.f19, go_sem, HZ.out.1], ?_⟩;rw [decide_eq_false HZ.out.2.2.1];exact ⟨rfl, HZ.out.2.1⟩
 case done =>
  rintro D zs W hD hS hI hK;subst hA0;have hb12 := HB12.out;obtain ⟨m, hm⟩ : ∃ m, T.ps.length = m := ⟨_, rfl⟩;have hz : zs.length = m := by rw [<- hm]; exact hS
  have hWw : Below w.heap.size w W := HI.out.1.trans (hI.below.mono (by omega));have d0 : W.cell? ⟨w.heap.size, 0, none⟩ = some (.pointer (some ⟨q.t, 0, none⟩)) := (World.cell?_of_block (w := w5) (hI.below.block _ (by show w.heap.size < _; omega))).trans c0;have d1 : W.cell? ⟨w.heap.size + 1, 0, none⟩ = some (.slice a n cap) := (World.cell?_of_block (w := w5) (hI.below.block _ (by show w.heap.size + 1 < _; omega))).trans c1;have h2 := hI.two;rw [hz] at h2;have d2 : W.cell? ⟨w.heap.size + 1 + 1 + 1, 0, none⟩ = some (.int .i64 m) := by simp [World.cell?, h2]
  have heq := hI.eq;have hle := hI.len;have h6 := HH.out.2.2.2.2.2.2;rw [hz, List.take_of_length_le (by omega)] at heq;rw [hz, h6] at hle;have hpost : ∀ (U : World) (r : Bool), Below W.heap.size W U -> Below w.heap.size w ((U.setCell ⟨w.heap.size + 1 + 1, 0, none⟩ (.bool r)).putObj D (.deferred none)) /\ ((U.setCell ⟨w.heap.size + 1 + 1, 0, none⟩ (.bool r)).putObj D (.deferred none)).cell? ⟨w.heap.size + 1 + 1, 0, none⟩ = some (.bool r) /\ (U.setCell ⟨w.heap.size + 1 + 1, 0, none⟩ (.bool r)).heap[D]? = some (.deferred (some [])) := λ U r hU => by
   have hws := hWw.size;have hw5 := HI.out.1.size;have hDW := zI hK;have hX1 : Ext (· = w.heap.size + 1 + 1) U (U.setCell ⟨w.heap.size + 1 + 1, 0, none⟩ (.bool r)) := Ext.setCell (S := (· = w.heap.size + 1 + 1)) (p := ⟨w.heap.size + 1 + 1, 0, none⟩) rfl _;have t1 := yB (j := 0) (zK hU hI.one) (.bool r);have t2 := (hX1.block D (by have := hU.size; omega) (by omega)).trans (zK hU hK);generalize U.setCell ⟨w.heap.size + 1 + 1, 0, none⟩ (.bool r) = V at *;have hXD : Ext (· = D) V (V.putObj D (.deferred none)) := Ext.grown (grownBy_putObj' V D _) λ k e _ => (Option.some.inj e).symm;have y1 := (hXD.block _ (zI t1) (by omega)).trans t1;have hb1 := hWw.trans (hU.mono hws);have hX : Ext (λ k => k = D \/ k = w.heap.size + 1 + 1) U (V.putObj D (.deferred none)) := (hX1.mono (λ _ _ h => .inr h)).trans hXD λ _ _ h => .inl h;refine ⟨hb1.trans ⟨hX.os, hX.tape, hX.output, hX.size, λ k hk => hX.block k (by have := hb1.size; omega) (by omega)⟩, by simp [World.cell?, y1], t2⟩
  have hT := HH.out.1.below hWw;have hP := HH.out.2.1.below hWw;have y1 := hI.one;have HK := zB (zC hT (zC hP (zC hpost y1)));clear hT hP hpost hI hK hz hS h2 hWw hb12 h6 c0 c1 y1;by_cases hmn : m = n
  . subst hmn;have hTp : T.ps = ps := by rw [heq, List.take_of_length_le (by rw [HH.out.2.2.2.2.2.2]; exact Nat.le_refl _)]
    have Hm := zB (zC hm hTp);clear hm hTp heq hle
    gi_wp2_with fail
    refine wpIn_wide.2 ?_;refine zR 18 (λ j => if j = 6 then some (λ v _ => v = .int .i64 m) else if j = 13 then some (λ v _ => v = .int .i64 T.live) else if j = 15 then some (λ v _ => v = .int .i64 T.live) else none) fol (by kernel_rfl) (λ U hU hh => ?_);clear hh;have q0 := zV hU d0;have q1 := zV hU d1;have q2 := zV hU d2
    repeat ((first | refine lxM ?_ | refine lxF ?_ | refine zM rfl ?_); simp only [zD])
    refine zW _ rfl (λ _ _ _ h _ => h) rfl (λ w1 hb1 hf1 => ?_) ?_
    . (unfold yE; go_simp; simp only [zN])
      refine (len_any d l q T _ (HK.out.1.below (zF hU hb1))).mono ?_;rintro e w' ⟨rfl, rfl⟩;rw [Hm.out.1];exact ⟨_, rfl, Below.refl _ _, rfl⟩
    rintro v6 W6 hB6 rfl;simp only [zD]
    repeat ((first | refine lxM ?_ | refine lxF ?_ | refine zM rfl ?_); simp only [zD])
    refine zW _ rfl (λ _ _ _ h _ => h) rfl (λ w1 hb1 hf1 => ?_) ?_
    . (unfold yE; go_simp; simp only [zN])
      refine (live_any d l q T _ (HK.out.1.below (zF hU hb1))).mono ?_;rintro e w' ⟨rfl, rfl⟩;exact ⟨_, rfl, Below.refl _ _, rfl⟩
    rintro v13 W13 hB13 rfl;simp only [zD]
    repeat ((first | refine lxM ?_ | refine lxF ?_ | refine zM rfl ?_); simp only [zD])
    refine zW _ rfl (λ _ _ _ h _ => h) rfl (λ w1 hb1 hf1 => ?_) ?_
    . (unfold yE; go_simp; simp only [zN])
      refine (rY F _ ps _ (HK.out.2.1.below (zF hU hb1)) (by rw [HH.out.2.2.2.2.2.2]; exact HH.out.2.2.2.2.1) HH.out.2.2.2.2.2.1 HNE.out).mono ?_;rintro e w' ⟨rfl, hB⟩;rw [<- Hm.out.2, <- HH.out.2.2.1];exact ⟨_, rfl, hB, rfl⟩
    rintro v15 W15 hB15 rfl;simp only [zD]
    repeat ((first | refine lxM ?_ | refine lxF ?_ | refine zM rfl ?_); simp only [zD])
    refine zZ ?_;have hBW := zF hU (zF hB6 (zF hB13 hB15));obtain ⟨r1, r2, r3⟩ := HK.out.2.2.1 W15 true hBW;have y1 := zK hBW HK.out.2.2.2;have z1 : W15.cell? ⟨w.heap.size + 1 + 1, 0, none⟩ = some (.bool false) := by simp [World.cell?, y1]
    have zf1 : W15.frozen? ⟨w.heap.size + 1 + 1, 0, none⟩ = false := by simp [World.frozen?, y1]
    have HZ := zB (zC r1 (zC r2 r3));clear r1 r2 r3 y1 q0 q1 q2 hB6 hB13 hB15 hBW hU d0 d1 d2
    go_wp2_with fail
    gi_wp2_with fail
    refine ⟨by simp, .inl ⟨_, _, rfl, run_takeDeferred HZ.out.2.2, ?_⟩⟩;refine ⟨.bool true, by simp [results, Tryz.f19, go_sem, HZ.out.2.1], ?_⟩;rw [decide_eq_true Hm.out.2];exact ⟨rfl, HZ.out.1⟩
  . have hne : T.ps ≠ ps := λ e => hmn (by rw [<- hm, e]; exact HH.out.2.2.2.2.2.2);have Hne := zB hne;have hmn' : ((m : Int) == (n : Int)) = false := by rw [beq_eq_false_iff_ne]; omega
    clear hne hm heq hle
    gi_wp2_with fail
    refine wpIn_wide.2 ?_;refine zR 18 (λ j => none) fol (by kernel_rfl) (λ U hU hh => ?_);clear hh;have q0 := zV hU d0;have q1 := zV hU d1;have q2 := zV hU d2
    repeat ((first | refine lxM ?_ | refine lxF ?_ | refine zM rfl ?_); simp only [zD])
    refine zZ ?_;obtain ⟨r1, r2, r3⟩ := HK.out.2.2.1 U false hU;have y1 := zK hU HK.out.2.2.2;have z1 : U.cell? ⟨w.heap.size + 1 + 1, 0, none⟩ = some (.bool false) := by simp [World.cell?, y1]
    have zf1 : U.frozen? ⟨w.heap.size + 1 + 1, 0, none⟩ = false := by simp [World.frozen?, y1]
    have HZ := zB (zC r1 (zC r2 r3));clear r1 r2 r3 y1 q0 q1 q2 hU d0 d1 d2
    go_wp2_with fail
    gi_wp2_with fail
    refine ⟨by simp, .inl ⟨_, _, rfl, run_takeDeferred HZ.out.2.2, ?_⟩⟩;refine ⟨.bool false, by simp [results, Tryz.f19, go_sem, HZ.out.2.1], ?_⟩;rw [decide_eq_false Hne.out];exact ⟨rfl, HZ.out.1⟩
end Go.Proofs.YtbjofbhhnmehgaaGreatDoor.TT
namespace Go.Proofs.YtbjofbhhnmehgaaGreatDoor.TT
open Go.RowKit Go.RG Go.Hp Go.Proofs.YtbjofbhhnmehgaaGreatDoor
theorem nO {n : Nat} (h : n < 128) : (sdnv n).length = 1 := by
 unfold sdnv;rw [show n / 128 = 0 by omega, tT];rfl
theorem costN_101 : uR 101 = 1 := by
 have hp : yF 101 = 1 := by decide
 unfold uR;rw [hp];show 0 + need ((vQ 0 (yF 101)).length + min 8112 (101 - 0 * 8112)) = 1;rw [hp, tG, nO (by decide), nO (by decide)];decide
theorem cap_ge {ring c : Nat} (h1 : 81 <= ring) (h : CapOf ring c) : 101 <= c := by
 refine Nat.le_of_not_lt λ hlt => h.top 101 hlt (by decide) ?_;unfold fitsN;rw [costN_101];omega
theorem topen_on (b : Bks) (x : Dsk) (N first size : Nat) (h1 : 83 <= size) (w : World) (h : Sys w b x N) (hN : N <= 1080000000000) {L : LogS} {rs : List Rc} (hV : LogV x first size L rs) (on : x.on) (hg : L.head.gen < 281474976710655) (he : L.head.epoch < 281474976710655)
 (ps : List Pr) (css : List (List Chg)) (hrec : rs.map Prod.fst = wS ps css 0) (hr : yQ (zS ps)) (hgd : ∀ p ∈ ps, zO p.1 /\ zO p.2 /\ 0 < p.1.length /\ p.1.length <= 64 /\ p.2.length <= 1024)
 (hcs : ∀ cs ∈ css, cs ≠ [] /\ cs.length <= 80 /\ ∀ c ∈ cs, c.good = true /\ zO c.key /\ zO c.value /\ c.value.length <= 1024) (hcap : ∀ c, CapOf (size - 2) c -> ∀ i, i <= css.length -> zU (allP ps (css.take i)) <= c) :
 Calls Tryz.prog 16 #[.pointer (some ⟨b.d, 0, none⟩), .int .i64 first, .int .i64 size] w λ e w' => ∃ c y, CapOf (size - 2) c /\ LogV y first size { L with head := uF L rs } rs /\ y.on /\ y.dur.length = x.dur.length /\ oN first size x y /\
  TOpenOk w b y (N + 1) first size { L with head := uF L rs } ⟨c, allP ps css, zU (allP ps css), 0, 0⟩ e w' := by
 obtain ⟨o1, o2, o3, o4, o5, o6⟩ := hV.open on hg he;have hes : HasRecs (yT x first size).1 first size (yT x first size).2.2 ((xX (uF L rs).first rs).zip (rs.map Prod.fst)) := by rw [o2]; exact o3.has
 refine (topen_ok b x N first size h1 hV.fit w h hN o1 _ ps css 0 hes ((LogV.has_snd (L := { L with head := uF L rs }) rs).trans hrec) hr hgd hcs hcap (Nat.zero_le _)).mono ?_;rintro e w' ⟨c, hc, hp⟩;rw [if_pos rfl, o2] at hp;exact ⟨c, _, hc, o3, o4, o5, o6, hp⟩
def rT (d t size : Nat) (vw : Value) (room epoch : Nat) (dead : Bool) : Array Value := #[.pointer (some ⟨d, 0, none⟩), .pointer (some ⟨t, 0, none⟩), .int .i64 size, vw, .int .i64 room, .int .u64 epoch, .bool dead]
theorem sV {B : Nat} {w w1 w2 : World} {S : Nat -> Prop} (h : Below B w w1) (hX : Ext S w1 w2) (hB : B <= w1.heap.size) (hS : ∀ j, S j -> B <= j) : Below B w w2 :=
 ⟨hX.os.trans h.os, hX.tape.trans h.tape, hX.output.trans h.output, Nat.le_trans h.size hX.size, λ k hk => (hX.block k (by omega) λ e => by have := hS k e; omega).trans (h.block k hk)⟩
theorem zero_ok (n : Nat) : DOk (vO n) 0 := by
 refine ⟨⟨λ s hs => ?_, λ i s hs => by cases hs⟩, ⟨by show (-1 : Int) <= _; decide, by show (-1 : Int) <= -1; decide⟩, λ i => Nat.le_refl _⟩;rw [List.eq_of_mem_replicate hs];exact uL 128
theorem new_sys {w w' : World} {b : Bks} {n : Nat} (hP : Pkg w) (hD : wQ w' b (vO n)) (ha : ∀ k, b.all k -> w.heap.size <= k) (hB : Below w.heap.size w w') : Sys w' b (vO n) 0 :=
 ⟨hD, zero_ok n, hP.below hB, λ k hk => by have := ha k hk; have := hP.lt; omega⟩
theorem empty_recs : wS [] [] 0 = [yO [] 0] := by
 unfold wS pG;rfl
structure FreshT (w : World) (b : Bks) (x : Dsk) (N first size : Nat) (k : LBk) (L : LogS) (q : TBk) (c : Nat) : Prop where
 sys : TSys w b x N first size k L q ⟨c, [], 0, 0, 0⟩
 view : LogV x first size L [(yO [] 0, 1)]
 on : x.on
 cap : CapOf (size - 2) c
 epoch : L.head.epoch = 2
 gen : L.head.gen = 3
 first : L.head.first = 0
theorem room_fresh (d l : Nat) (q : TBk) (c : Nat) (w : World) (h : sH w d l q ⟨c, [], 0, 0, 0⟩) (h1 : c <= 1073741824) :
 Calls Tryz.prog 17 #[.pointer (some ⟨q.t, 0, none⟩)] w λ e w' => e = .returned (.int .i64 c) /\ Below w.heap.size w w' := by
 refine (room_any d l q ⟨c, [], 0, 0, 0⟩ w h h1 (Nat.zero_le _)).mono ?_;rintro e w' ⟨rfl, hB⟩;exact ⟨by simp, hB⟩
theorem begin_any (n : Int) (hn : -9223372036854775808 <= n /\ n <= 9223372036854775807) (w : World) (hP : Pkg w) :
 Calls Tryz.prog 12 #[.int .i64 n] w λ e w' => ∃ kb g b k q x N L c, e = .returned (.tuple #[.pointer (some ⟨kb, 0, none⟩), .bool true]) /\
  w'.heap[kb]? = some (.cells (rT b.d q.t (pS n 83 65532).toNat (.slice (some ⟨g, 0, none⟩) 1 1) c 2 false) 30 (0, 0)) /\ w'.heap[g]? = some (.cells #[.slice none 0 0] 44 (0, 0)) /\ g < kb /\ w.heap.size <= g /\ ¬ allB b k q g /\ ¬ allB b k q kb /\ (∀ j, allB b k q j -> w.heap.size <= j) /\
  FreshT w' b x N 2 (pS n 83 65532).toNat k L q c /\ x.dur.length = (pS n 83 65532).toNat + 4 /\ N <= 100000 /\ Below w.heap.size w w' := by
 have hsp := lL n (show (83 : Int) <= 65532 by decide);obtain ⟨s, hs⟩ : ∃ s : Nat, pS n 83 65532 = s := ⟨(pS n 83 65532).toNat, by omega⟩;have HSP := zB (span_any n 83 65532 hn (by decide) w);rw [hs] at HSP hsp ⊢;rw [Int.toNat_natCast];have hs4 : ((s + 4 : Nat) : Int) = (s : Int) + 4 := by omega
 have HN := zB (new_any (s + 4) (by omega) (by omega) w);rw [hs4] at HN;have HP := zB hP;have hw10 := hP.lt;clear hP hs hn hs4;go_enter Tryz.func12, Tryz.ntmps12
 go_wp2_with fail
 refine HSP.out.mono ?_;rintro e w0 ⟨rfl, rfl⟩;clear HSP
 go_wp2_with fail
 refine HN.out.mono ?_;rintro e w1 ⟨b, rfl, hD, ha, hB1⟩;have hSys := new_sys HP.out hD ha hB1;have hwf : (vO (s + 4)).wf := hD.wf;have hzl : (vO (s + 4)).dur.length = s + 4 := by simp [vO]
 obtain ⟨y, L, t1, t2, t3, t4, t5, t6, t7, -⟩ := tformat_on hwf ⟨rfl, rfl⟩ (first := 2) (size := s) (by omega) (by omega) (by omega);have hTF := tformat_any b (vO (s + 4)) 0 2 s (by omega) (by omega) w1 hSys (by decide);rw [t1] at hTF;have HTF := zB hTF;have H1 := zB (zC ha (zC hB1 (zC t2 (zC t3 (zC (t4.trans hzl) (zC t5 (zC t6 t7)))))));clear HN hD ha hB1 hSys hwf hzl t1 t2 t3 t4 t5 t6 t7 hTF
 go_wp2_with fail
 refine HTF.out.mono ?_;rintro e w2 ⟨rfl, b2, hd2, ha2, hX2, hS2⟩;have hO := topen_on b2 y (0 + 65700) 2 s (by omega) w2 hS2 (by decide) H1.out.2.2.1 H1.out.2.2.2.1 (by rw [H1.out.2.2.2.2.2.1]; decide) (by rw [H1.out.2.2.2.2.2.2.1]; decide) [] [] (by rw [empty_recs]; rfl) .nil (λ p hp => by cases hp) (λ p hp => by cases hp) (λ c hc i hi => by rw [List.take_nil]; exact Nat.zero_le _);rw [hd2] at hO;have HO := zB hO;have hb1 := H1.out.2.1;have hB2 := sV hb1 hX2 hb1.size H1.out.1;have ha2' : ∀ j, b2.all j -> w.heap.size <= j := λ j hj => (ha2 j hj).elim (H1.out.1 j) λ h => by have := hb1.size; omega
 have H2 := zB (zC hB2 (zC ha2' hd2));clear hS2 hO hX2 ha2 hB2 ha2' hd2 hb1 HTF
 go_wp2_with fail
 refine HO.out.mono ?_;rintro e w3 ⟨c, y', hc, hV, hon, hlen, -, b3, k, q, rfl, hd3, hqt, ha3, hX3, hS3⟩;have hB3 := sV H2.out.1 hX3 H2.out.1.size H2.out.2.1;have ha3' : ∀ j, allB b3 k q j -> w.heap.size <= j := λ j hj => (ha3 j hj).elim (H2.out.2.1 j) λ h => by have := H2.out.1.size; omega
 have hc101 := cap_ge (by omega) hc;have hcle := hc.le;have hlivn : zU (allP [] []) = 0 := rfl;have hall : allP [] [] = [] := rfl;rw [hlivn, hall] at hS3;have hep : L.head.epoch + 1 = 2 := by rw [H1.out.2.2.2.2.2.2.1]
 have hE := tepoch_any b3.d 2 s k { L with head := uF L [(yO [] 0, 1)] } q ⟨c, [], 0, 0, 0⟩ w3 hS3.tbl hS3.lsys.log;rw [show ({ L with head := uF L [(yO [] 0, 1)] } : LogS).head.epoch = 2 from hep] at hE;have hR := room_fresh b3.d k.l q c w3 hS3.tbl (by omega);have HC := zB (zC hE hR);have H3 := zB (zC hB3 (zC ha3' (zC hc (zC hV (zC hon (zC hlen (zC hS3 (hd3.trans H2.out.2.2))))))));clear hB3 ha3' hc hV hon hlen hS3 hd3 hE hR hqt ha3 hX3 HO hlivn hall;have hc1 : ¬ (c : Int) < 101 := by omega
 go_wp2_with fail
 refine HC.out.1.mono ?_;rintro e w3' ⟨rfl, rfl⟩
 go_wp2_with fail
 refine HC.out.2.mono ?_;rintro e w4 ⟨rfl, hB4⟩;have hS4 := H3.out.2.2.2.2.2.2.1.below hB4;have HU := zB (tJ b3.d k.l q ⟨c, [], 0, 0, 0⟩ w4 hS4.tbl);have HI := zB (is_any b3.d k.l q ⟨c, [], 0, 0, 0⟩ (λ _ => False) (.slice none 0 0) [] w4 hS4.tbl (vR.nil _ _) rfl (Nat.zero_le _) (by decide) (λ p hp => by cases hp) (λ p hp => by cases hp));rw [show decide (({ cap := c, ps := [], live := 0, pending := 0, fallen := 0 } : TblS).ps = []) = true from rfl] at HI;have HB4 := zB hB4;clear hS4 hB4
 go_wp2_with fail
 refine HU.out.mono ?_;rintro e w4' ⟨rfl, rfl⟩
 go_wp2_with fail
 refine HI.out.mono ?_;rintro e w5 ⟨rfl, hB5⟩;have hB5' := HB4.out.trans (hB5.mono HB4.out.size);have hS5 := H3.out.2.2.2.2.2.2.1.below hB5';have hb6 := zQ w5 (.cells #[.slice none 0 0] 44);have g6 := World.alloc_heap_new w5 (.cells #[.slice none 0 0] 44);have HR6 := zB (room_fresh b3.d k.l q c _ (hS5.below hb6).tbl (by omega));have HB5 := zB (zC hB5' (zC hb6 g6));clear hB5 hB5' hb6 g6 hS5
 go_wp2_with fail
 refine HR6.out.mono ?_;rintro e w7 ⟨rfl, hB7⟩;have hb8 := zQ w7 (.cells (rT b.d q.t s (.slice (some ⟨w5.heap.size, 0, none⟩) 1 1) c 2 false) 30);have g8 := World.alloc_heap_new w7 (.cells (rT b.d q.t s (.slice (some ⟨w5.heap.size, 0, none⟩) 1 1) c 2 false) 30);have H8 := zB (zC hB7 (zC hb8 g8));clear hB7 hb8 g8 HR6
 go_wp2_with fail
 go_ret2
 have h56 := HB5.out.2.1;have h57 := h56.trans (H8.out.1.mono h56.size);have h58 := h57.trans (H8.out.2.1.mono h57.size);have h38 := HB5.out.1.trans (h58.mono HB5.out.1.size);have hw8 := H3.out.1.trans (h38.mono H3.out.1.size);have hS8 := H3.out.2.2.2.2.2.2.1.below h38;have hlt := H3.out.2.2.2.2.2.2.1.lt;have s35 := HB5.out.1.size;have s37 : w5.heap.size + 1 <= w7.heap.size := by have := H8.out.1.size; simpa using this
 have sw3 := H3.out.1.size;have ge := H1.out.2.2.2.2;refine ⟨w7.heap.size, w5.heap.size, b3, k, q, y', 0 + 65700 + 1, _, c, rfl, ?_, ?_, by omega, by omega, λ h => by have := hlt _ h; omega, λ h => by have := hlt _ h; omega, H3.out.2.1, ⟨hS8, H3.out.2.2.2.1, H3.out.2.2.2.2.1, H3.out.2.2.1, hep, by show L.head.gen + 1 = 3; rw [ge.2.1], ge.2.2.2⟩, H3.out.2.2.2.2.2.1.trans ge.1, by decide, hw8⟩
 . rw [H3.out.2.2.2.2.2.2.2];exact H8.out.2.2
 . have h78 := H8.out.1.trans (H8.out.2.1.mono H8.out.1.size);exact zK h78 HB5.out.2.2
end Go.Proofs.YtbjofbhhnmehgaaGreatDoor.TT
namespace Go.Proofs.YtbjofbhhnmehgaaGreatDoor.TT
open Go.ChangeShapes Go.WideShapes Go.ChangeAt Go.RowKit Go.RG Go.Hp Go.Proofs.YtbjofbhhnmehgaaGreatDoor
theorem und_field : Tryz.prog.underlying 175 = some (.struct #[Field.mk "at" 3 0 false "" "halyard/seglog" 0, Field.mk "width" 3 1 false "" "halyard/seglog" 8]) := by kernel_rfl
theorem fH {P : Program} {W : World} {x : String × DataW Unit} {r : List (String × DataW Unit)} (h : laidMet P (x :: r) W) : laidMet P r W := by
 obtain ⟨ps, ⟨g, t, cs, fuel, p, q, h1, h2, h3, h4, h5, rfl⟩, hnd, hr⟩ := h;exact ⟨q, h5, (List.nodup_append.1 hnd).2.1, λ b off hb => hr b off (List.mem_append_right _ hb)⟩
theorem fG {W : World} {name : String} {a c : Int} {g : Nat} {r : List (String × DataW Unit)} (hg : Tryz.prog.globalNamed name = some g) (hty : (Tryz.prog.globals[g]?).map (·.type) = some 175)
 (h : laidMet Tryz.prog ((name, .agg [.lit (.int .i64 a), .lit (.int .i64 c)]) :: r) W) : W.cell? ⟨g, 0, none⟩ = some (.int .i64 a) /\ W.cell? ⟨g, 1, none⟩ = some (.int .i64 c) := by
 obtain ⟨ps, ⟨g', t', cs, fuel, p, q, hg', ht', hvar, hd, _, _⟩, _⟩ := h;obtain rfl := Option.some.inj (hg.symm.trans hg');obtain rfl := Option.some.inj (hty.symm.trans ht');obtain ⟨y0, y1, n, he, hl, h0, h1⟩ := trod_struct2 und_field hd;obtain ⟨z0, e0, rfl, -⟩ := DataW.trod_int und_int' h0;obtain ⟨z1, e1, rfl, -⟩ := DataW.trod_int und_int' h1;have he1 := congrArg Prod.fst he;simp only [DataW.agg.injEq, List.cons.injEq, DataW.lit.injEq, Lit.int.injEq, true_and, and_true] at he1;obtain ⟨rfl, rfl⟩ := he1;have c0 := World.var?_cell hg hvar 0;have c1 := World.var?_cell hg hvar 1;have k0 : cs.toList[0]? = some (.int .i64 a) := by
  have := congrArg (·[0]?) e0;simpa [List.getElem?_take, List.getElem?_drop, show Tryz.prog.cellsOf 3 = 1 by kernel_rfl] using this
 have k1 : cs.toList[1]? = some (.int .i64 c) := by
  have := congrArg (·[0]?) e1;simpa [List.getElem?_take, List.getElem?_drop, show Tryz.prog.cellsOf 3 = 1 by kernel_rfl] using this
 rw [Array.getElem?_toList] at k0 k1;exact ⟨c0.trans k0, c1.trans k1⟩
theorem pkg_of_laid {W : World} (h : laidMetH Tryz.prog Rows.tableNamesRow.laid W) : Pkg W := by
 have h0 : laidMet Tryz.prog Rows.tableNamesRow.laid W := h;have h1 := fH h0;have h2 := fH h1;have h3 := fH h2;have h4 := fH h3;have h5 := fH h4;have h6 := fH h5;have h7 := fH h6;have h8 := fH h7;have h9 := fH h8;have ht := Lib.tabIs_of_head (P := Tryz.prog) (W := W) (name := "halyard/octet.table") (k := .u32) (zs := crcTab) (g := 9) (t := 209) (e := 192) (n := 16) (by kernel_rfl) (by kernel_rfl) (by kernel_rfl) (by kernel_rfl) (by kernel_rfl) (by kernel_rfl) h0;exact { tab := λ j hj => ht.cell (g := 9) (by kernel_rfl) j hj, generation := fG (g := 5) (by kernel_rfl) (by kernel_rfl) h1, headEpoch := fG (g := 6) (by kernel_rfl) (by kernel_rfl) h2, first := fG (g := 7) (by kernel_rfl) (by kernel_rfl) h3, least := fG (g := 8) (by kernel_rfl) (by kernel_rfl) h4, size := fG (g := 4) (by kernel_rfl) (by kernel_rfl) h5, number := fG (g := 0) (by kernel_rfl) (by kernel_rfl) h6, pieceEpoch := fG (g := 1) (by kernel_rfl) (by kernel_rfl) h7, bytes := fG (g := 2) (by kernel_rfl) (by kernel_rfl) h8, index := fG (g := 3) (by kernel_rfl) (by kernel_rfl) h9 }
end Go.Proofs.YtbjofbhhnmehgaaGreatDoor.TT
namespace Go.Proofs.YtbjofbhhnmehgaaGreatDoor.TT
open Go.RowKit Go.RG Go.Hp Go.Proofs.YtbjofbhhnmehgaaGreatDoor
def putF (k v : List Int) : Bool -> List Pr -> List Pr
 | inn, [] => if inn then [] else [(k, v)]
 | inn, p :: l => if p.1 = k then putF k v inn l else if inn = false /\ klt k p.1 = true then (k, v) :: p :: putF k v true l else p :: putF k v inn l
theorem lV {k v : List Int} : ∀ {l : List Pr}, k ∉ zS l -> putF k v true l = l
 | [], _ => rfl
 | p :: l, h => by
  have h1 : p.1 ≠ k := λ e => h (by rw [<- e]; exact List.mem_cons_self);unfold putF;rw [if_neg h1, if_neg (by simp), lV (λ e => h (List.mem_cons_of_mem _ e))]
theorem jT {p : Pr} {l : List Pr} (h : yQ (zS (p :: l))) : (∀ q ∈ zS l, klt p.1 q = true) /\ yQ (zS l) := List.pairwise_cons.1 h
theorem lW (y : List Int) (l : List (List Int)) (x : List Int) : posK (y :: l) x = (if klt y x then 1 else 0) + posK l x := by
 unfold posK;rw [List.countP_cons, Nat.add_comm]
theorem posK_low {l : List (List Int)} {x : List Int} (h : ∀ q ∈ l, klt q x = false) : posK l x = 0 := by
 unfold posK;exact List.countP_eq_zero.2 λ q hq => by rw [h q hq]; decide
theorem pB (p : Pr) (l : List Pr) : zS (p :: l) = p.1 :: zS l := rfl
theorem delP_cons {k : List Int} {p : Pr} {l : List Pr} (h : klt p.1 k = true) : delP (p :: l) k = p :: delP l k := by
 have hne := klt_ne h;unfold delP;rw [pB, lW, if_pos h];by_cases hk : k ∈ zS l
 . rw [if_pos (List.mem_cons_of_mem _ hk), if_pos hk, show 1 + posK (zS l) k = posK (zS l) k + 1 by omega];rfl
 . rw [if_neg (λ hm => (List.mem_cons.1 hm).elim (λ e => hne e.symm) hk), if_neg hk]
theorem putP_cons {k v : List Int} {p : Pr} {l : List Pr} (h : klt p.1 k = true) : putP (p :: l) k v = p :: putP l k v := by
 have hne := klt_ne h;unfold putP;rw [pB, lW, if_pos h];by_cases hk : k ∈ zS l
 . rw [if_pos (List.mem_cons_of_mem _ hk), if_pos hk, List.map_cons, if_neg hne]
 . rw [if_neg (λ hm => (List.mem_cons.1 hm).elim (λ e => hne e.symm) hk), if_neg hk, show 1 + posK (zS l) k = posK (zS l) k + 1 by omega];rfl
theorem putF_del {k v : List Int} : ∀ {l : List Pr}, yQ (zS l) -> putF k v true l = delP l k
 | [], _ => rfl
 | p :: l, h => by
  obtain ⟨h1, h2⟩ := jT h;by_cases e : p.1 = k
  . subst e;have hno : p.1 ∉ zS l := λ hm => klt_ne (h1 _ hm) rfl;unfold putF;rw [if_pos rfl, lV hno];unfold delP;rw [pB, if_pos List.mem_cons_self, lW, uA, posK_low λ q hq => kF (h1 q hq)];rfl
  . unfold putF;rw [if_neg e, if_neg (by simp), putF_del h2]
    cases hlt : klt p.1 k with
    | true => rw [delP_cons hlt]
    | false =>
     have hkp : klt k p.1 = true := by
      cases h3 : klt k p.1 with
      | true => rfl
      | false => exact absurd (klt_tri hlt h3) e
     have hno : k ∉ zS l := λ hm => by
      have := uT hkp (h1 _ hm);rw [uA] at this
      cases this
     have hno2 : k ∉ zS (p :: l) := λ hm => (List.mem_cons.1 hm).elim (λ h => e h.symm) hno;unfold delP;rw [if_neg hno, if_neg hno2]
theorem putF_put {k v : List Int} : ∀ {l : List Pr}, yQ (zS l) -> putF k v false l = putP l k v
 | [], _ => rfl
 | p :: l, h => by
  obtain ⟨h1, h2⟩ := jT h;by_cases e : p.1 = k
  . subst e;have hno : p.1 ∉ zS l := λ hm => klt_ne (h1 _ hm) rfl;have hmap : l.map (λ q => if q.1 = p.1 then (p.1, v) else q) = l := by
     refine (List.map_congr_left λ q hq => ?_).trans (List.map_id l);rw [if_neg λ h => hno (by rw [<- h]; exact List.mem_map_of_mem hq)];rfl
    have hl : putF p.1 v false l = (p.1, v) :: l := by
     cases l with
     | nil => rfl
     | cons q l =>
      have hq : q.1 ≠ p.1 := λ h => hno (by rw [<- h]; exact List.mem_cons_self);unfold putF;rw [if_neg hq, if_pos ⟨rfl, h1 _ List.mem_cons_self⟩, lV λ hm => hno (List.mem_cons_of_mem _ hm)]
    unfold putF;rw [if_pos rfl, hl];unfold putP;rw [pB, if_pos List.mem_cons_self, List.map_cons, if_pos rfl, hmap]
  . unfold putF;rw [if_neg e]
    cases hlt : klt p.1 k with
    | true => rw [if_neg (λ hc => by rw [kF hlt] at hc; cases hc.2), putF_put h2, putP_cons hlt]
    | false =>
     have hkp : klt k p.1 = true := by
      cases h3 : klt k p.1 with
      | true => rfl
      | false => exact absurd (klt_tri hlt h3) e
     have hno : k ∉ zS l := λ hm => by
      have := uT hkp (h1 _ hm);rw [uA] at this
      cases this
     have hno2 : k ∉ zS (p :: l) := λ hm => (List.mem_cons.1 hm).elim (λ h => e h.symm) hno;rw [if_pos ⟨rfl, hkp⟩, lV hno];unfold putP;rw [if_neg hno2, pB, lW, hlt, posK_low λ q hq => kF (uT hkp (h1 q hq))];rfl
theorem iO {c : Chg} {l : List Pr} (h : yQ (zS l)) : putF c.key c.value c.gone l = chgP l c := by
 unfold chgP
 cases hg : c.gone with
 | true => rw [if_pos rfl, putF_del h]
 | false => rw [if_neg (by decide), putF_put h]
theorem und_pairs : Tryz.prog.underlying 44 = some (.slice 58) := by kernel_rfl
theorem info_pair : (Tryz.prog.info? 58).map (λ i => (i.zero, i.size, i.bytes)) = some (some (.agg #[.slice none 0 0, .slice none 0 0]), 2, 48) := by kernel_rfl
def prC : List (Value × Value) -> List Value
 | [] => []
 | u :: us => u.1 :: u.2 :: prC us
theorem prC_snoc : ∀ (us : List (Value × Value)) (u : Value × Value), prC (us ++ [u]) = prC us ++ [u.1, u.2]
 | [], u => rfl
 | x :: us, u => by show x.1 :: x.2 :: prC (us ++ [u]) = _; rw [prC_snoc]; rfl
theorem prC_get : ∀ {us : List (Value × Value)} {i : Nat} {u : Value × Value}, us[i]? = some u -> (prC us)[i * 2]? = some u.1 /\ (prC us)[i * 2 + 1]? = some u.2
 | [], i, u, h => by simp at h
 | x :: us, 0, u, h => by simp at h; subst h; exact ⟨rfl, rfl⟩
 | x :: us, i + 1, u, h => by
  rw [List.getElem?_cons_succ] at h;obtain ⟨h1, h2⟩ := prC_get h;rw [show (i + 1) * 2 = i * 2 + 1 + 1 by omega];exact ⟨h1, h2⟩
structure iE (w : World) (B : Nat) (F : Nat -> Prop) (v : Value) (ps : List Pr) (us : List (Value × Value)) : Prop where
 len : us.length = ps.length
 row : w.ownsRow B 58 2 v ps.length (prC us)
 src : ∀ (i : Nat) (p : Pr) (u : Value × Value), ps[i]? = some p -> us[i]? = some u -> SrcE w u.1 (u8s p.1) /\ Src w u.2 (u8s p.2) /\ ∀ j, obk u.1 = some j \/ obk u.2 = some j -> j < w.heap.size /\ v.ownBlock ≠ some j /\ ¬ F j
theorem iE.nil (w : World) (B : Nat) (F : Nat -> Prop) : iE w B F (.slice none 0 0) [] [] := ⟨rfl, World.ownsRow_nil _ _ _ _, λ i e u h => by simp at h⟩
theorem iE.below {w w' : World} {B : Nat} {F : Nat -> Prop} {v : Value} {ps : List Pr} {us : List (Value × Value)} (h : iE w B F v ps us) (hb : Below w.heap.size w w') : iE w' B F v ps us :=
 ⟨h.len, yA h.row hb, λ i e u h1 h2 => let ⟨a, b, c⟩ := h.src i e u h1 h2; ⟨a.below hb, b.below hb, λ j hj => ⟨Nat.lt_of_lt_of_le (c j hj).1 hb.size, (c j hj).2⟩⟩⟩
theorem iE.app {w : World} {B : Nat} {F : Nat -> Prop} {v : Value} {ps : List Pr} {us : List (Value × Value)} (h : iE w B F v ps us) (hn : ps.length <= 1048576) (p : Pr) (u : Value × Value) (h1 : SrcE w u.1 (u8s p.1)) (h2 : Src w u.2 (u8s p.2))
 (hf : ∀ j, obk u.1 = some j \/ obk u.2 = some j -> v.ownBlock ≠ some j /\ ¬ F j) (hlt : ∀ j, obk u.1 = some j \/ obk u.2 = some j -> j < w.heap.size) (hB : B <= w.heap.size) (g c : Nat) (hg : w.heap[g]? = some (.cells #[u.1, u.2] 58 (0, 0))) (ty : TypeId) :
 ∃ v' w', (Builtin.append_ #[44, 44] ty #[v, .slice (some ⟨g, 0, none⟩) 1 c]).run Tryz.prog w = .ok v' w' /\ iE w' B F v' (ps ++ [p]) (us ++ [u]) /\ yL (λ k j y => v.ownBlock = some k /\ ps.length * 2 <= j /\ [u.1, u.2][j - ps.length * 2]? = some y) w w' /\ (∀ k, v'.ownBlock = some k -> v.ownBlock = some k \/ w.heap.size <= k) /\ ∃ a cap, v' = .slice a (ps.length + 1) cap := by
 have k1 : u.1.oneCell' = true := by obtain ⟨a, c, e, -⟩ := h1.shape; rw [e]; rfl
 have k2 : u.2.oneCell' = true := by obtain ⟨a, c, e, -⟩ := h2.shape; rw [e]; rfl
 obtain ⟨i0, hi, hz0, hz1, hz2⟩ := info_parts info_pair;obtain ⟨v', w', r1, r2, r3, r4⟩ := sG (P := Tryz.prog) w B 44 ty 58 i0 (.agg #[.slice none 0 0, .slice none 0 0]) 2 48 und_pairs hi hz0 hz1 hz2 rfl (by decide) v ps.length _ h.row ⟨g, 0, none⟩ 1 c [u.1, u.2] rfl (λ j x hx => by
  rw [Addr.add_lit, Nat.zero_add];exact yV hg j x (by simpa using hx)) (λ x hx => by
   simp only [List.mem_cons, List.mem_nil_iff, or_false] at hx;rcases hx with rfl | rfl
   . exact k1
   . exact k2) (by unfold maxLen; omega) (by omega) hB
 have hX : Ext (λ j => v.ownBlock = some j) w w' := r3.ext.mono λ k _ ⟨_, _, h, _⟩ => h;obtain ⟨a, cap, hsh, -⟩ := zP r2;refine ⟨v', w', r1, ⟨by simp [h.len], by rw [List.length_append, prC_snoc]; exact r2, λ i e' u' he hu' => ?_⟩, r3, r4, a, cap, hsh⟩;have hgo : ∀ (e' : Pr) (u' : Value × Value), SrcE w u'.1 (u8s e'.1) -> Src w u'.2 (u8s e'.2) -> (∀ j, obk u'.1 = some j \/ obk u'.2 = some j -> j < w.heap.size /\ v.ownBlock ≠ some j /\ ¬ F j) ->
  SrcE w' u'.1 (u8s e'.1) /\ Src w' u'.2 (u8s e'.2) /\ ∀ j, obk u'.1 = some j \/ obk u'.2 = some j -> j < w'.heap.size /\ v'.ownBlock ≠ some j /\ ¬ F j := λ e' u' hs1 hs2 hb =>
  ⟨hs1.ext hX λ j hj e => (hb j (.inl hj)).2.1 e, iJ hs2 hX λ j hj e => (hb j (.inr hj)).2.1 e, λ j hj => let ⟨a, b, c⟩ := hb j hj; ⟨Nat.lt_of_lt_of_le a hX.size, λ e => (r4 j e).elim b λ e => by omega, c⟩⟩
 rcases Nat.lt_or_ge i ps.length with hl | hl
 . rw [List.getElem?_append_left hl] at he;rw [List.getElem?_append_left (by rw [h.len]; exact hl)] at hu';obtain ⟨a1, a2, a3⟩ := h.src i e' u' he hu';exact hgo e' u' a1 a2 a3
 . have : i = ps.length := by
    have := (List.getElem?_eq_some_iff.1 he).1;simp at this;omega
   subst this;rw [List.getElem?_append_right (Nat.le_refl _), Nat.sub_self] at he;rw [List.getElem?_append_right (by rw [h.len]; omega), h.len, Nat.sub_self] at hu';simp at he hu';subst he hu';exact hgo p u h1 h2 λ j hj => ⟨hlt j hj, hf j hj⟩
theorem iE.prs {w : World} {B : Nat} {F : Nat -> Prop} {v : Value} {ps : List Pr} {us : List (Value × Value)} (h : iE w B F v ps us) (hF : ∀ j, v.ownBlock = some j -> ¬ F j) : vR w F v ps := by
 obtain ⟨a, cap, rfl, -⟩ := zP h.row;refine ⟨a, cap, rfl, λ i p hp => ?_⟩;have hil := (List.getElem?_eq_some_iff.1 hp).1;obtain ⟨u, hu⟩ : ∃ u, us[i]? = some u := ⟨_, List.getElem?_eq_getElem (by rw [h.len]; exact hil)⟩;obtain ⟨h1, h2, h3⟩ := h.src i p u hp hu;obtain ⟨g, cp, hv3, hg1, -, -, -, hcl, -⟩ := xB h.row (by omega);injection hv3 with e1 e2 e3;subst e1;obtain ⟨p1, p2⟩ := prC_get hu;have c1 := hcl (i * 2) (by omega);have c2 := hcl (i * 2 + 1) (by omega);rw [p1] at c1;rw [p2] at c2;exact ⟨g, 0, u.1, u.2, rfl, by rw [Nat.zero_add]; exact c1, by rw [Nat.zero_add]; exact c2, h1, h2, hF g rfl, λ j hj => ⟨(h3 j hj).1, (h3 j hj).2.2⟩⟩
end Go.Proofs.YtbjofbhhnmehgaaGreatDoor.TT
