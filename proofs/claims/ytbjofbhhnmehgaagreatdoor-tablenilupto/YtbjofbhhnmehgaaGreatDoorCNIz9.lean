
/-
 table: load, of a checkpoint that is one.
-/
import Derived.Test.YtbjofbhhnmehgaaGreatDoorCNIz8
import Derived.Defers
import Derived.Recover
import Derived.Test.YtbjofbhhnmehgaaGreatDoorCNIz6
import Derived.RangeFuncNested
import Derived.Test.YtbjofbhhnmehgaaGreatDoorCNIz0
import Derived.RangeFuncCalls
import Derived.OrdersIn
set_option linter.unusedSimpArgs false
set_option linter.unusedVariables false
set_option maxHeartbeats 4000000
set_option maxRecDepth 100000
open Go.IntWalk (toNatUp iteOmega)
namespace Go.Proofs.YtbjofbhhnmehgaaGreatDoor.TT
open Go.RowKit Go.RG Go.Hp Go.Proofs.YtbjofbhhnmehgaaGreatDoor
theorem RdAt.ext {w w' : World} {r : Nat} {v : Value} {bs : List Int} {at' : Nat} {S : Nat -> Prop} (h : RdAt w r v bs at') (hX : Ext S w w') (hr : ¬ S r) (hv : ∀ k, v.ownBlock = some k -> ¬ S k) : RdAt w' r v bs at' :=
 ⟨(hX.block r (zI h.head) hr).trans h.head, Src.ext h.src hX hv, h.ne, h.bytes, h.le, h.lim⟩
theorem ChgAt.below {w w' : World} {q : TBk} {c : Chg} {va vb : Value} (h : ChgAt w q c va vb) (hb : Below w.heap.size w w') : ChgAt w' q c va vb :=
 ⟨h.key.below hb, h.value.below hb, h.far, h.kb, h.vb', h.kl, h.vl⟩
theorem load_any (d l : Nat) (q : TBk) (T : TblS) (v : Value) (bs : List Int) (more : List (List Int)) (ps : List Pr) (w : World) (h : sH w d l q T) (hT : T.ps = [] /\ T.live = 0) (hv : nH w q.all v (pG bs ++ more)) (hbs : bs = wI ps) (hr : yQ (zS ps))
 (hg : ∀ p ∈ ps, zO p.1 /\ zO p.2 /\ 0 < p.1.length /\ p.1.length <= 64 /\ p.2.length <= 1024) (hsum : zU ps <= 1000000000) (hm : more.length <= 1000000) :
 Calls Tryz.prog 100 #[.pointer (some ⟨q.t, 0, none⟩), v] w λ e w' => e = .returned (.int .i64 (yF bs.length)) /\ vX w d l q { T with ps := ps, live := zU ps } (zS ps) w' := by
 have hbl : bs.length = zU ps := by rw [hbs, xA]
 have hkp := wJ bs.length;have hk1 := jC bs.length;obtain ⟨a, cap, rfl, hel⟩ := hv;obtain ⟨K, hK⟩ : ∃ K, yF bs.length = K := ⟨_, rfl⟩;rw [hK] at hkp hk1 ⊢;have hlen : (pG bs ++ more).length = K + more.length := by rw [List.length_append, wP, hK]
 obtain ⟨m, hmm⟩ : ∃ m, (pG bs ++ more).length = m := ⟨_, rfl⟩;rw [hmm] at hlen ⊢;have hget : ∀ i, i < K -> (pG bs ++ more)[i]? = some (yO bs i) := λ i hi => by
  rw [List.getElem?_append_left (by rw [wP, hK]; exact hi)];exact ckRecs_get (by rw [hK]; exact hi)
 have hrec : ∀ i, i < K -> ∃ g o u, a = some ⟨g, o, none⟩ /\ w.cell? ⟨g, o + i, none⟩ = some u /\ Src w u (u8s (yO bs i)) /\ ¬ q.all g /\ ∀ j, u.ownBlock = some j -> j < w.heap.size /\ ¬ q.all j := λ i hi => hel i _ (hget i hi);obtain ⟨g, o, u0, rfl, k0, hs0, hg0, hu0⟩ := hrec 0 (by omega);have hp0 := tO bs 0 (by omega) (by omega);have hpb : yO bs 0 = 2 :: (sdnv 0 ++ sdnv K ++ qI bs 0) := by rw [mQ, hK]; simp [vQ]
 rw [Nat.add_zero] at k0;obtain ⟨g0, o0, c0, rfl, hc0, hcell0⟩ : ∃ g o c, u0 = .slice (some ⟨g, o, none⟩) (yO bs 0).length c /\ (yO bs 0).length <= c /\ ∀ j u, (u8s (yO bs 0))[j]? = some u -> w.cell? ⟨g, o + j, none⟩ = some u := by
  rcases hs0 with ⟨g, o, c, e, h1, h2⟩ | ⟨-, e⟩
  . rw [zH] at e h1;exact ⟨g, o, c, e, h1, h2⟩
  . exfalso
    have := hp0.1;rw [<- zH, e] at this;simp at this
 have hb0 : w.cell? ⟨g0, o0, none⟩ = some (.int .u8 2) := by
  have := hcell0 0 (.int .u8 2) (by rw [hpb]; rfl)
  rwa [Nat.add_zero] at this
 obtain ⟨n0, hn0⟩ : ∃ n, (yO bs 0).length = n := ⟨_, rfl⟩;rw [hn0] at hp0 k0 hc0;have HREC := zB hrec;have HT := zB h;have HH := zB (zC hT (zC hbs (zC hr (zC hg (zC hbl (zC hK hpb))))));have HC0 := zB hcell0;have hm0 : (0 : Int) < (m : Int) := by omega
 have hbl2 : bs.length <= 1000000000 := by omega
 have hn01 : (0 : Int) < (n0 : Int) := by omega
 have hsd : 1 <= (sdnv K).length := by obtain ⟨z, h1, -⟩ := rM K; omega
 have hn3 : 2 <= n0 := by
  rw [<- hn0, hpb];simp only [List.length_cons, List.length_append];omega
 have hc1 : ¬ c0 = 1 := by omega
 have htl : Src w (.slice (some ⟨g0, o0 + 1, none⟩) (n0 - 1) (c0 - 1)) (u8s ((yO bs 0).drop 1)) := by
  refine .inl ⟨g0, o0 + 1, c0 - 1, by rw [zH, List.length_drop, hn0], by rw [zH, List.length_drop, hn0]; omega, λ j u hu => ?_⟩;rw [show o0 + 1 + j = o0 + (1 + j) by omega];refine hcell0 (1 + j) u ?_;rw [tL, List.getElem?_drop] at hu;exact hu
 have hbb : zO bs := by rw [hbs]; exact jU λ p hp => ⟨(hg p hp).1, (hg p hp).2.1, (hg p hp).2.2.2.1, (hg p hp).2.2.2.2⟩
 have hNW := rnew_any _ ((yO bs 0).drop 1) w htl ((oY hbb 0 (by omega) (by omega)).drop 1) (by rw [List.length_drop, hn0]; omega);have hd0 : (yO bs 0).drop 1 = sdnv 0 ++ (sdnv K ++ qI bs 0) := by rw [hpb]; simp
 have HNW := zB hNW;have HD0 := zB hd0;have HBB := zB hbb;have hK1 : (0 : Int) < (K : Int) := by omega
 have hKm : K <= m := by omega
 have hmb : m <= 2000000 := by omega
 clear hNW hd0 htl hsd hbb;clear h hT hbs hr hg hbl hK hrec hel hget hs0 hcell0 hpb hlen;go_enter Tryz.func100, Tryz.ntmps100
 go_wp2_with fail
 refine (xZ _).mono ?_;rintro e w1 ⟨⟨t, rfl⟩, rfl⟩
 go_wp2_with fail
 refine HNW.out.mono ?_;rintro e w2 ⟨r, u, rfl, hR, hr1, hu1, hB⟩;have HN0 := zB (nP r u _ 0 0 0 (Nat.le_refl _) (by decide) (by rw [List.drop_zero, HD0.out]; exact List.prefix_append _ _) w2 hR);clear HNW hR
 go_wp2_with fail
 refine HN0.out.mono ?_;rintro e w3 ⟨rfl, hR3, hX3⟩;have HNK := zB (nP r u _ (0 + (sdnv 0).length) K m hKm (by omega) (by rw [Nat.zero_add, HD0.out, List.drop_left]; exact List.prefix_append _ _) w3 hR3);clear HN0 hR3
 go_wp2_with fail
 refine HNK.out.mono ?_;rintro e w4 ⟨rfl, hR4, hX4⟩;have HER := zB (pW r u _ _ w4 hR4);clear HNK hR4
 go_wp2_with fail
 refine HER.out.mono ?_;rintro e w5 ⟨rfl, rfl⟩
 go_wp2_with fail
 rw [show decide (0 < K) = true from decide_eq_true (by omega)];refine (xZ _).mono ?_;rintro e w5 ⟨⟨t2, rfl⟩, rfl⟩;have hB4 : Below w.heap.size w w4 := (hB.trans (Ext.to_belowAt hX3 hB.size λ k hk e => by omega)).trans (Ext.to_belowAt hX4 (Nat.le_trans hB.size hX3.size) λ k hk e => by omega);clear hB hX3 hX4 HER
 go_wp2_with fail
 go_loopw [7, 54] (λ vb vi wr => ∃ i : Nat, vi = .int .i64 i /\ i <= K /\ wr.ownsRow w.heap.size 5 1 vb (bs.take (i * 8112)).length (u8s (bs.take (i * 8112))) /\ Below w.heap.size w wr) (λ _ vi _ => K - (intOf vi).toNat)
 case atStart => exact ⟨0, rfl, Nat.zero_le _, World.ownsRow_nil _ _ _ _, hB4⟩
 case round =>
  obtain ⟨i, rfl, hi, hrow, hBr⟩ := hrel;by_cases hik : i < K
  . have hik' : (i : Int) < (K : Int) := by omega
    -- [[A
    obtain ⟨g', o', ui, e1, ki, hsi, -, -⟩ := HREC.out i hik;injection e1 with e1;injection e1 with e1 e2 _;subst e1 e2;have hpi := tO bs i (by omega) (by omega);have hspl : yO bs i = vQ i K ++ qI bs i := by rw [mQ, HH.out.2.2.2.2.2.1]
    have hhl := qP i K (by omega) (by omega);obtain ⟨gi, oi, ci, rfl, hci, hcelli⟩ : ∃ g o c, ui = .slice (some ⟨g, o, none⟩) (yO bs i).length c /\ (yO bs i).length <= c /\ ∀ j u, (u8s (yO bs i))[j]? = some u -> w.cell? ⟨g, o + j, none⟩ = some u := by
     rcases hsi with ⟨g, o, c, e, h1, h2⟩ | ⟨-, e⟩
     . rw [zH] at e h1;exact ⟨g, o, c, e, h1, h2⟩
     . exfalso
       have := hpi.1;rw [<- zH, e] at this;simp at this
    have hnl : (yO bs i).length = (vQ i K).length + (qI bs i).length := by rw [hspl, List.length_append]
    obtain ⟨ni, hni⟩ : ∃ n, (yO bs i).length = n := ⟨_, rfl⟩;obtain ⟨hl, hhl2⟩ : ∃ n, (vQ i K).length = n := ⟨_, rfl⟩;rw [hni, hhl2] at hnl;rw [hni] at ki hci;have HHD := zB (head_any i K (by omega) (by omega) wr);have ki' := zG hBr ki;have Hrow := zB hrow;have HCi := zB hcelli;have HS := zB (zC hspl (zC hni hhl2));have hle : (hl : Int) <= (ni : Int) := by omega
    have Hnl := zB hnl;clear hnl;have hbs2 : (bs.take (i * 8112)).length <= 1000000000 := by rw [List.length_take]; omega
    have hpl : (qI bs i).length <= 8112 := by unfold qI; rw [List.length_take]; omega
    obtain ⟨tl, htl⟩ : ∃ n, (bs.take (i * 8112)).length = n := ⟨_, rfl⟩;rw [htl] at hrow hbs2;have Hrow := zB hrow;have HTL := zB htl;obtain ⟨wa, wc, rfl, -⟩ := zP hrow;clear htl;clear hrow hcelli hspl hsi ki
    go_wp2_with fail
    refine HHD.out.mono ?_;rintro e w5 ⟨hv, rfl, hownh, hB5⟩;rw [HS.out.2.2] at hownh;obtain ⟨ha, hc, rfl, -⟩ := zP hownh;have ki5 := zG hB5 ki';have HPF := zB (show ∀ W, Below w.heap.size w W -> Src W (.slice (some ⟨gi, oi, none⟩) hl ci) (u8s (vQ i K)) from λ W hW => .inl ⟨gi, oi, ci, by rw [zH, HS.out.2.2], by rw [zH, HS.out.2.2]; omega, λ j u hu => zG hW (HCi.out j u (by rw [HS.out.1, xI, List.getElem?_append_left (List.getElem?_eq_some_iff.1 hu).1]; exact hu))⟩);have hBw5 := hBr.trans (hB5.mono hBr.size);have heq := kI _ _ (vQ i K) (vQ i K) w5 (HPF.out w5 hBw5) (Src.of_owns hownh) (by rw [HS.out.2.2]; omega);rw [show decide (vQ i K = vQ i K) = true from decide_eq_true rfl] at heq;have HEQ := zB heq;clear heq;have hlci : ¬ ci < hl := by omega
    have hnl2 : hl <= ni := by omega
    clear hownh HHD
    go_wp2_with fail
    refine HEQ.out.mono ?_;rintro e w6 ⟨rfl, hB6⟩;have ki6 := zG hB6 ki5;have hBw6 := hBw5.trans (hB6.mono hBw5.size);have HW6 := zB (yA (yA Hrow.out hB5) hB6);have hs6 := hBw6.size;have HBW6 := zB hBw6;have HPC := zB (show ∀ c', (ci = hl -> c' = Value.slice (some ⟨gi, oi, none⟩) (ni - hl) 0) -> (ci ≠ hl -> c' = Value.slice (some ⟨gi, oi + hl, none⟩) (ni - hl) (ci - hl)) -> Src w6 c' (u8s (qI bs i)) from λ c' h1 h2 => by
     have hnl := Hnl.out;have hln : (u8s (qI bs i)).length = ni - hl := by rw [zH]; omega
     by_cases hch : ci = hl
     . rw [h1 hch];refine .inl ⟨gi, oi, 0, by rw [hln], by omega, λ j u hu => ?_⟩;have := (List.getElem?_eq_some_iff.1 hu).1;omega
     . rw [h2 hch];refine .inl ⟨gi, oi + hl, ci - hl, by rw [hln], by omega, λ j u hu => ?_⟩;rw [Nat.add_assoc];refine zG HBW6.out (HCi.out (hl + j) u ?_);rw [HS.out.1, xI, List.getElem?_append_right (by rw [zH, HS.out.2.2]; omega), zH, HS.out.2.2, Nat.add_sub_cancel_left];exact hu)
    have hpl2 : (u8s (qI bs i)).length <= 8112 := by rw [zH]; exact hpl
    clear hB6 hB5 hBw6 HEQ hBw5
    go_wp2_with fail
    refine (xZ _).mono ?_;rintro e w7 ⟨⟨t3, rfl⟩, rfl⟩;by_cases hch : ci = hl
    . have hsr := HPC.out _ (λ _ => rfl) (λ h => absurd hch h);have HSR := zB hsr;clear hsr
      go_wp2_with (at_builtin; go_loud (refine xN rfl _ _ rfl w.heap.size _ _ _ _ (u8s (qI bs i)) rfl HW6.out rfl HSR.out (yU _) (by omega) hs6 ?_; intro v2 w2 hown2 hg2; have Hg2 := zB hg2; have Hown2 := zB hown2; clear hown2 hg2))
      refine ⟨⟨i + 1, by simp, by omega, ?_, HBW6.out.trans Hg2.out⟩, ?_⟩
      . have := Hown2.out;rw [<- xI, oA, zH, <- HTL.out, <- List.length_append, oA] at this;exact this
      . show K - ((i : Int) + 1).toNat < K - (i : Int).toNat;omega
    . have hsr := HPC.out _ (λ h => absurd h hch) (λ _ => rfl);have HSR := zB hsr;clear hsr
      go_wp2_with (at_builtin; go_loud (refine xN rfl _ _ rfl w.heap.size _ _ _ _ (u8s (qI bs i)) rfl HW6.out rfl HSR.out (yU _) (by omega) hs6 ?_; intro v2 w2 hown2 hg2; have Hg2 := zB hg2; have Hown2 := zB hown2; clear hown2 hg2))
      refine ⟨⟨i + 1, by simp, by omega, ?_, HBW6.out.trans Hg2.out⟩, ?_⟩
      . have := Hown2.out;rw [<- xI, oA, zH, <- HTL.out, <- List.length_append, oA] at this;exact this
      . show K - ((i : Int) + 1).toNat < K - (i : Int).toNat;omega
    -- ]]A
  . obtain rfl : i = K := by omega
    have hik' : ¬ (i : Int) < (i : Int) := by omega
    have hall : bs.take (i * 8112) = bs := by have := take_all bs; rwa [HH.out.2.2.2.2.2.1] at this
    rw [hall] at hrow;obtain ⟨n, hn⟩ : ∃ n, bs.length = n := ⟨_, rfl⟩;have HP := zB λ w' => oU n (by omega) w';have hpk := HH.out.2.2.2.2.2.1;rw [hn] at hpk hrow hbl2;rw [hpk] at HP;obtain ⟨wa, wc, rfl, -⟩ := zP hrow;have Hrow := zB hrow;have Hn := zB hn;clear hrow hall hn hpk
    go_wp2_with fail
    refine (HP.out _).mono ?_;rintro e w5 ⟨rfl, rfl⟩
    go_wp2_with fail
    refine (xZ _).mono ?_;rintro e w5 ⟨⟨t3, rfl⟩, rfl⟩
    go_wp2_with fail
    generalize wr = wA at *;have hsw := hBr.size
    go_loopw [100] (λ vi wr => ∃ z : Nat, vi = .int .i64 z /\ z <= i /\ Below wA.heap.size wA wr) (λ vi _ => i - (intOf vi).toNat)
    case atStart => exact ⟨0, rfl, Nat.zero_le _, Below.refl _ _⟩
    case round =>
     obtain ⟨z, rfl, hz, hBz⟩ := hrel;by_cases hzk : z < i
     . have hzk' : (z : Int) < (i : Int) := by omega
       -- [[B
       obtain ⟨g', o', ui, e1, ki, hsi, -, -⟩ := HREC.out z hzk;injection e1 with e1;injection e1 with e1 e2 _;subst e1 e2;have hBwz := hBr.trans (hBz.mono hsw);have ki' := zG hBwz ki;have HSI := zB (hsi.below hBwz);obtain ⟨ua, uc, rfl, -⟩ := hsi.shape;have hat : z * 8112 <= bs.length := lZ (by rw [HH.out.2.2.2.2.2.1]; exact hzk);have hpr := λ W (hW : Below wA.heap.size wA W) => sK (.slice wa n wc) bs z hat (by have := Hn.out; omega) W ((Src.of_owns Hrow.out).below hW);have HPR := zB hpr;have hpz := tO bs z (by omega) (by have := Hn.out; omega);clear hpr hat ki hsi
       go_wp2_with fail
       refine zR 7 (λ j => if j = 6 then some (λ v w' => w'.ownsRow wr.heap.size 5 1 v (yO bs z).length (u8s (yO bs z))) else none) fol (by kernel_rfl) (λ W hW hh => ?_);clear hh;simp only [fT];have hsz := hW.size;have r3 := zV hW ki'
       repeat ((first | refine lxM ?_ | refine lxF ?_ | refine zM rfl ?_); simp only [zD])
       refine zW _ rfl (by exact λ _ _ _ h hb => yA h hb) rfl (λ w1 hb1 hf1 => ?_) ?_
       . have hb1' := hb1
         (unfold yE; go_simp; simp only [zN])
         refine (HPR.out _ (hBz.trans ((hW.mono hBz.size).trans (hb1'.mono (Nat.le_trans hBz.size hsz))))).mono ?_;rintro e w' ⟨u, rfl, hown, hB⟩;exact ⟨u, rfl, hB, yC hown λ j hj => Nat.le_trans (Nat.le_trans hsz hb1'.size) (hown.lt j hj).1⟩
       rintro v6 W6 hB6 hown6;simp only [zD];refine zZ ?_;have hBW := zF hW hB6;have heq := kI _ _ (yO bs z) (yO bs z) W6 (HSI.out.below hBW) (Src.of_owns hown6) (by omega);rw [show decide (yO bs z = yO bs z) = true from decide_eq_true rfl] at heq;have HEQ := zB heq;obtain ⟨xa, xc, rfl, -⟩ := zP hown6;clear heq hown6 r3
       go_wp2_with fail
       refine HEQ.out.mono ?_;rintro e w8 ⟨rfl, hB8⟩
       go_wp2_with fail
       refine (xZ _).mono ?_;rintro e w9 ⟨⟨t4, rfl⟩, rfl⟩
       go_wp2_with fail
       refine ⟨⟨z + 1, by simp, by omega, zF hBz (zF hBW hB8)⟩, ?_⟩;show i - ((z : Int) + 1).toNat < i - (z : Int).toNat;omega
       -- ]]B
     . obtain rfl : z = i := by omega
       have hzk' : ¬ (z : Int) < (z : Int) := by omega
       have hBz2 := hBr.trans (hBz.mono hsw);have hnw := rnew_any (.slice wa n wc) bs wr ((Src.of_owns Hrow.out).below hBz) HBB.out (by have := Hn.out; omega);have HNW := zB hnw;clear hnw
       go_wp2_with fail
       refine HNW.out.mono ?_;rintro e w8 ⟨r2, u2, rfl, hR2, hr2, hu2, hB8⟩;have hB88 := hBz2.trans (hB8.mono hBz2.size);have HR2 := zB hR2;have HT8 := zB (HT.out.below hB88);clear hR2 HNW
       go_wp2_with fail
       go_loopw [] (λ wy => ∃ (j : Nat) (q' : TBk), j <= ps.length /\ q'.t = q.t /\ q'.m = q.m /\ (∀ i, q'.all i -> q.all i \/ w8.heap.size <= i) /\ Ext (λ i => q.all i \/ i = r2) w8 wy /\ sH wy d l q' { T with ps := ps.take j, live := zU (ps.take j) } /\ RdAt wy r2 u2 bs (wI (ps.take j)).length) (λ wy => match wy.cell? ⟨r2, 1, none⟩ with | some (.int _ z) => bs.length - z.toNat | _ => 0)
       case atStart =>
        refine ⟨0, q, Nat.zero_le _, rfl, rfl, λ i hi => .inl hi, Ext.refl _ _, ?_, ?_⟩
        . have h1 := HT8.out;have e1 : T = { T with ps := ps.take 0, live := zU (ps.take 0) } := by
           obtain ⟨t1, t2, t3, t4, t5⟩ := T;have := HH.out.1;simp only at this;rw [this.1, this.2];rfl
          rw [<- e1];exact h1
        . exact HR2.out
       case round =>
        obtain ⟨j, q', hj, ht, hm', ha, hX, hTj, hRj⟩ := hrel;by_cases hjl : j < ps.length
        . obtain ⟨p, hp⟩ : ∃ p, ps[j]? = some p := ⟨_, List.getElem?_eq_getElem hjl⟩;obtain ⟨hkb, hvb, hk0, hkl, hvl⟩ := HH.out.2.2.2.1 p (List.mem_of_getElem? hp);have hdr := textB_drop hp;rw [<- HH.out.2.1] at hdr;obtain ⟨off, hoff⟩ : ∃ n, (wI (ps.take j)).length = n := ⟨_, rfl⟩;have hoff2 : (wI (ps.take (j + 1))).length = off + (oD p).length := by rw [textB_succ hp, List.length_append, hoff]
          rw [hoff] at hRj hdr;have hk2 : sdnv p.1.length ++ p.1 <+: bs.drop off := by rw [hdr]; unfold oD lenB; exact ⟨_, by simp only [List.append_assoc]; rfl⟩
          have hk3 : sdnv p.2.length ++ p.2 <+: bs.drop (off + (sdnv p.1.length).length + p.1.length) := by
           have e : bs.drop (off + (sdnv p.1.length).length + p.1.length) = lenB p.2 ++ wI (ps.drop (j + 1)) := by
            rw [show off + (sdnv p.1.length).length + p.1.length = off + (lenB p.1).length by unfold lenB; rw [List.length_append]; omega, <- List.drop_drop, hdr];unfold oD;rw [List.append_assoc, List.drop_left]
           rw [e];exact ⟨_, rfl⟩
          have hpl1 : 1 <= (oD p).length := by rw [oV]; have := pairN_pos p.1 p.2; omega
          have hltb : off < bs.length := by
           have := congrArg List.length hdr;rw [List.length_drop, List.length_append] at this;omega
          have hLf := rleft_ok r2 u2 bs off wr hRj;have hlp : (0 : Int) < ((bs.length - off : Nat) : Int) := by omega
          obtain ⟨lf, hlf⟩ : ∃ n, bs.length - off = n := ⟨_, rfl⟩;rw [hlf] at hLf hlp;have HLf := zB hLf;have HR := zB hRj;have HF := zB (zC ht (zC hm' (zC ha (zC hX hTj))));have HK := zB (zC hk2 (zC hk3 (zC hoff hoff2)));clear hLf hlf hk2 hk3 hoff2 hdr ht hm' ha hX hTj hoff hRj
          go_wp2_with fail
          refine HLf.out.mono ?_;rintro e w9 ⟨rfl, hB9⟩;have HB1 := zB (oS r2 u2 bs off 64 p.1 hkl (by decide) HK.out.1 w9 (HR.out.below hB9))
          go_wp2_with fail
          refine HB1.out.mono ?_;rintro e w10 ⟨kv, rfl, hown10, hR10, hX10⟩;obtain ⟨ka, kc, rfl, -⟩ := zP hown10;have hb11 := zQ w10 (.cells #[.slice ka p.1.length kc, .slice none 0 0, .bool false] 78);have HB2 := zB (oS r2 u2 bs _ 1024 p.2 hvl (by decide) HK.out.2.1 _ (hR10.below hb11));clear HB1
          go_wp2_with fail
          refine HB2.out.mono ?_;rintro e w12 ⟨vv, rfl, hown12, hR12, hX12⟩;obtain ⟨va, vc, rfl, -⟩ := zP hown12;have hlt10 := zI hR10.head;have hgb := World.alloc_heap_new w10 (.cells #[.slice ka p.1.length kc, .slice none 0 0, .bool false] 78);have hgb12 := (hX12.block w10.heap.size (by simp) (by omega)).trans hgb;have hgb13 := yB (j := 1) hgb12 (.slice va p.2.length vc);have fr12 : ∀ j, w12.frozen? ⟨w10.heap.size, j, none⟩ = false := λ j => by simp [World.frozen?, hgb12]
          have ck1 := yV hgb12 1 _ rfl;have hXb : Ext (· = w10.heap.size) w12 (w12.setCell ⟨w10.heap.size, 1, none⟩ (.slice va p.2.length vc)) := Ext.setCell (S := (· = w10.heap.size)) (p := ⟨w10.heap.size, 1, none⟩) rfl _;have HG := zB (zC hgb13 hXb);have HO := zB (zC hown10 (zC hown12 (zC hR10 (zC hR12 (zC hX10 hX12)))));clear hgb hgb12 hgb13 hXb hown10 hown12 hR10 hR12 hX10 hX12 HB2
          go_wp2_with fail
          generalize w12.setCell ⟨w10.heap.size, 1, none⟩ (.slice va p.2.length vc) = w13 at HG ⊢;clear ck1 fr12;have hb13 := HG.out.1;have d0 := yV hb13 0 _ rfl;have d1 := yV hb13 1 _ rfl;have d2 := yV hb13 2 _ rfl;have hs10 : w9.heap.size <= w10.heap.size := HO.out.2.2.2.2.1.size;have hs12 : w10.heap.size + 1 <= w12.heap.size := by have := HO.out.2.2.2.2.2.size; simpa using this
          have hs13 : w12.heap.size <= w13.heap.size := HG.out.2.size;have hltr : r2 < w8.heap.size := zI HR2.out.head;have hs8r : w8.heap.size <= wr.heap.size := HF.out.2.2.2.1.size;have hs89 : w8.heap.size <= w9.heap.size := Nat.le_trans hs8r hB9.size;have hu2l : ∀ k, u2.ownBlock = some k -> k < w8.heap.size := λ k hk => by
           rcases HR2.out.src with ⟨gg, oo, cc, e, -, hce⟩ | ⟨-, e⟩
           . rw [e] at hk;injection hk with hk;subst hk;obtain ⟨y, hy⟩ : ∃ y, (u8s bs)[0]? = some y := ⟨_, List.getElem?_eq_getElem (by rw [zH]; omega)⟩;exact block_lt_of_cell (hce 0 y hy)
           . have := congrArg List.length e;rw [zH] at this;simp at this;rw [this] at hltb;simp at hltb
          have hR13 := HO.out.2.2.2.1.ext HG.out.2 (λ e => by omega) (λ k hk e => by have := hu2l k hk; omega);have hqr : ∀ k, q'.all k -> k ≠ r2 := λ k hk e => by
           rcases HF.out.2.2.1 k hk with h | h
           . have := HT.out.lt k h;have h2 := hBz2.size;omega
           . omega
          have hTw := HF.out.2.2.2.2;have hql := hTw.lt;have hT13 := (((hTw.below hB9).ext HO.out.2.2.2.2.1 hqr).below (zQ w10 (.cells #[.slice ka p.1.length kc, .slice none 0 0, .bool false] 78))).ext HO.out.2.2.2.2.2 hqr;have hT13 := hT13.ext HG.out.2 (λ k hk e => by have := hql k hk; have := hB9.size; omega);have hown10 := xQ (xQ (yA HO.out.1 (zQ w10 (.cells #[.slice ka p.1.length kc, .slice none 0 0, .bool false] 78))) HO.out.2.2.2.2.2 (λ k hk e => by have := (HO.out.1.lt k hk).1; omega)) HG.out.2 (λ k hk e => by have := xD HO.out.1 hk; omega);have hown12 := xQ HO.out.2.1 HG.out.2 (λ k hk e => by have := (HO.out.2.1.lt k hk).1; simp at this; omega);have HE := pW r2 u2 bs _ w13 hR13;have HERR := zB λ W (hW : Below w13.heap.size w13 W) => pW r2 u2 bs _ W (hR13.below hW);have HGD := zB λ W (hW : Below w13.heap.size w13 W) => iV (.slice ka p.1.length kc) (.slice va p.2.length vc) ⟨p.1, p.2, false⟩ W ((Src.of_owns hown10).below hW) ((Src.of_owns hown12).below hW);have hgood : Chg.good ⟨p.1, p.2, false⟩ = true := by simp [Chg.good, hk0, hkl, hvl]
          rw [hgood] at HGD;have HC13 := zB (ChgAt.mk (w := w13) (q := q') (c := ⟨p.1, p.2, false⟩) (Src.of_owns hown10) (Src.of_owns hown12) (λ k hk e => by
           have h1 := hql k e;have h2 := hB9.size;rcases hk with hk | hk
           . have := (hown10.lt k hk).1; omega
           . have := (hown12.lt k hk).1; simp at this; omega) hkb hvb hkl (.inr hvl))
          have HT13 := zB hT13;have HU2 := zB hu2l;have HR13 := zB hR13;have hcs := hT13.cs;obtain ⟨-, -, -, -, t4, -⟩ := hcs;rw [show q'.t = q.t from HF.out.1] at t4;have hcv : ∀ w2, Below w13.heap.size w13 w2 -> Sem.run Tryz.prog (convert 52 9 (.slice ka p.1.length kc)) w2 = .ok (.string (strOfNums p.1)) w2 := λ w2 h2 => sQ ((Src.of_owns hown10).below h2);have hkeys := hT13.keys;have hkl' : (zS (ps.take j)).length = j := by rw [xM, List.length_take]; omega
          simp only [hkl'] at hkeys;have Hkeys := zB hkeys;have hbx := λ (W : World) (hW : Below w13.heap.size w13 W) => zQ W (.cells #[.slice ka p.1.length kc, .slice va p.2.length vc, .bool false] 78);clear HE hT13 hR13 hown10 hown12 hgood hql hqr hu2l hTw hb13 hkeys;have hoff3 : off + (sdnv p.1.length).length + p.1.length + (sdnv p.2.length).length + p.2.length = (wI (ps.take (j + 1))).length := by
           rw [HK.out.2.2.2];unfold oD lenB;simp only [List.length_append];omega
          have hT2 : ({ T with ps := ps.take j, live := zU (ps.take j) } : TblS).change ⟨p.1, p.2, false⟩ = { T with ps := ps.take (j + 1), live := zU (ps.take (j + 1)) } := by
           have h1 : chgP (ps.take j) ⟨p.1, p.2, false⟩ = ps.take (j + 1) := by
            have h2 : ps.take (j + 1) = ps.take j ++ [p] := by rw [List.take_add_one, hp]; rfl
            unfold chgP;rw [if_neg (by simp), h2];refine put_last ?_;rw [<- h2];unfold zS;rw [List.map_take];exact HH.out.2.2.1.sublist (List.take_sublist _ _)
           unfold TblS.change;simp only [h1]
          have HO3 := zB hoff3;have HT2 := zB hT2;have hls : zU (ps.take j) <= 1073741824 := by
           have h2 : zU ps = zU (ps.take j) + zU (ps.drop j) := by rw [<- uH, List.take_append_drop]
           omega
          clear hoff3 hT2;have HFIN : ∀ W2, Below w13.heap.size w13 W2 -> Hid (Calls Tryz.prog 65 #[.pointer (some ⟨q.t, 0, none⟩), .agg #[.slice ka p.1.length kc, .slice va p.2.length vc, .bool false]] W2 λ e w15 => (∃ t, e = .returned t) /\
           ∃ q2 : TBk, q2.t = q.t /\ q2.m = q.m /\ (∀ i, q2.all i -> q.all i \/ w8.heap.size <= i) /\ Ext (λ i => q.all i \/ i = r2) w8 w15 /\ sH w15 d l q2 { T with ps := ps.take (j + 1), live := zU (ps.take (j + 1)) } /\ RdAt w15 r2 u2 bs (wI (ps.take (j + 1))).length /\
            (match w15.cell? ⟨r2, 1, none⟩ with | some (.int _ z) => bs.length - z.toNat | _ => 0) < (match wr.cell? ⟨r2, 1, none⟩ with | some (.int _ z) => bs.length - z.toNat | _ => 0)) := λ W2 hW2 => by
           refine zB ?_;have hc := nV d l q' { T with ps := ps.take j, live := zU (ps.take j) } ⟨p.1, p.2, false⟩ (.slice ka p.1.length kc) (.slice va p.2.length vc) W2 (HT13.out.below hW2) rfl hls ((HC13.out).below hW2);rw [HF.out.1] at hc;refine hc.mono ?_;rintro e w15 ⟨ht, q2, e1, e2, e3, e4, e5⟩;have hq8 : ∀ k, q'.all k -> q.all k \/ w8.heap.size <= k := HF.out.2.2.1;have hR15 : RdAt w15 r2 u2 bs (wI (ps.take (j + 1))).length := by
            rw [<- HO3.out];have hl0 := HT.out.lt;have hz2 := hBz2.size;refine (HR13.out.below hW2).ext e4 (λ hk => ?_) (λ k hk hk2 => ?_)
            . rcases hq8 _ hk with h | h
              . have := hl0 _ h; omega
              . omega
            . have h1 := hu2 k hk;have h3 := HU2.out k hk;rcases hq8 _ hk2 with h | h
              . have := hl0 _ h; omega
              . omega
           refine ⟨ht, q2, e1.trans HF.out.1, e2.trans HF.out.2.1, λ i hi => ?_, ?_, ?_, hR15, ?_⟩
           . rcases e3 i hi with h | h
             . exact hq8 i h
             . have := hW2.size; exact .inr (by omega)
           . have c1 := (HF.out.2.2.2.1.trans (Ext.of_below (S := λ i => q.all i \/ i = r2) hB9) λ _ _ h => h).trans HO.out.2.2.2.2.1 λ k _ h => .inr h;have c2 := (c1.trans (Ext.of_below (S := λ i => q.all i \/ i = r2) (zQ w10 (.cells #[.slice ka p.1.length kc, .slice none 0 0, .bool false] 78))) λ _ _ h => h).trans HO.out.2.2.2.2.2 λ k _ h => .inr h;have c3 := (c2.trans HG.out.2 λ k hk h => by omega).trans (Ext.of_below (S := λ i => q.all i \/ i = r2) hW2) λ _ _ h => h;exact c3.trans e4 λ k hk h => (hq8 k h).elim .inl λ h => by omega
           . rw [HT2.out] at e5;exact e5
           . rw [hR15.cs.2.1, HR.out.cs.2.1];show bs.length - ((wI (ps.take (j + 1))).length : Int).toNat < bs.length - (off : Int).toNat;have := HK.out.2.2.2;omega
          rcases Nat.eq_zero_or_pos j with rfl | hj0
          . obtain ⟨sa, sc, hqs, -⟩ := zP Hkeys.out;rw [hqs] at t4;refine zR 33 (λ i => if i = 1 then some (λ v _ => v = .int .i64 0) else if i = 5 then some (λ v _ => v = .bool true) else none) fol (by kernel_rfl) (λ W hW hh => ?_);clear hh;simp only [fT];have r0 := zV hW d0;have r1 := zV hW d1;have r2' := zV hW d2;have r4 := zV hW t4;have r9' := hj;have hcvW : ∀ w2, Below W.heap.size W w2 -> Sem.run Tryz.prog (convert 52 9 (.slice ka p.1.length kc)) w2 = .ok (.string (strOfNums p.1)) w2 := λ w2 h2 => hcv w2 (zF hW h2)
            repeat ((first | refine lxM ?_ | refine lxF ?_ | refine zM rfl ?_); simp only [zD])
            refine zW _ rfl (λ _ _ _ h _ => h) rfl (λ w1 hb1 hf1 => ?_) ?_
            . have hb1' := hb1
              (unfold yE; go_simp; simp only [zN])
              refine (HERR.out _ (zF hW hb1')).mono ?_;rintro e w' ⟨rfl, rfl⟩;exact ⟨_, rfl, Below.refl _ _, rfl⟩
            rintro v1 W1 hB1 rfl;simp only [zD]
            repeat ((first | refine lxM ?_ | refine lxF ?_ | refine zM rfl ?_); simp only [zD])
            refine zW _ rfl (λ _ _ _ h _ => h) rfl (λ w1 hb1 hf1 => ?_) ?_
            . have hb1' := hb1
              (unfold yE; go_simp; simp only [zN])
              refine (HGD.out _ (zF hW hb1')).mono ?_;rintro e w' ⟨rfl, hB⟩;exact ⟨_, rfl, hB, rfl⟩
            rintro v2 W2 hB2 rfl;simp only [zD]
            repeat ((first | refine lxM ?_ | refine lxF ?_ | refine zM rfl ?_); simp only [zD])
            refine zZ ?_;have hBW2 : Below w13.heap.size w13 W2 := zF hW (zF hB1 hB2);have HFI := HFIN W2 hBW2;have d0 := zG hBW2 d0;have d1 := zG hBW2 d1;have d2 := zG hBW2 d2;clear r0 r1 r2' r4 hcvW
            go_wp2_with fail
            refine (xZ _).mono ?_;rintro e w14 ⟨⟨t9, rfl⟩, rfl⟩
            go_wp2_with fail
            refine HFI.out.mono ?_;rintro e w15 ⟨⟨t10, rfl⟩, q2, f1, f2, f3, f4, f5, f6, f7⟩
            go_wp2_with fail
            exact ⟨⟨_, q2, hjl, f1, f2, f3, f4, f5, f6⟩, f7⟩
          . obtain ⟨i2, rfl⟩ : ∃ i2, j = i2 + 1 := ⟨j - 1, by omega⟩;obtain ⟨gs, sc, hqs, -, -, -, -, hkc, -⟩ := xB Hkeys.out hj0;rw [hqs] at t4;have hj1 : i2 < ps.length := by omega
            have hkj : (zS (ps.take (i2 + 1)))[i2]? = some ps[i2].1 := by
             unfold zS;rw [List.getElem?_map, List.getElem?_take, if_pos (by omega), List.getElem?_eq_getElem hj1];rfl
            have hlast := hkc i2 (by omega);rw [pR hkj] at hlast;have hless : Op.bytesLess (strOfNums ps[i2].1).toList (strOfNums p.1).toList = true := by
             rw [less_strs (HH.out.2.2.2.1 _ (List.getElem_mem hj1)).1 hkb];refine rJ HH.out.2.2.1 (i := i2) (j := i2 + 1) (by omega) ?_ ?_
             . unfold zS; rw [List.getElem?_map, List.getElem?_eq_getElem hj1]; rfl
             . unfold zS; rw [List.getElem?_map, hp]; rfl
            generalize ps[i2].1 = kl at hlast hless;have hje : ((i2 : Int) + 1 == 0) = false := by rw [beq_eq_false_iff_ne]; omega
            have hj4 : (i2 : Int) < (i2 : Int) + 1 := by omega
            have r9 := λ (W : World) (hW : Below w13.heap.size w13 W) => zV hW hlast;have hi2 : (i2 : Int) <= 1000000000 := by have := uY ps; omega
            clear hkc hkj;refine zR 33 (λ i => if i = 1 then some (λ v _ => v = .int .i64 0) else if i = 5 then some (λ v _ => v = .bool true) else none) fol (by kernel_rfl) (λ W hW hh => ?_);clear hh;simp only [fT];have r0 := zV hW d0;have r1 := zV hW d1;have r2' := zV hW d2;have r4 := zV hW t4;have r9' := r9 W hW;have hcvW : ∀ w2, Below W.heap.size W w2 -> Sem.run Tryz.prog (convert 52 9 (.slice ka p.1.length kc)) w2 = .ok (.string (strOfNums p.1)) w2 := λ w2 h2 => hcv w2 (zF hW h2)
            repeat ((first | refine lxM ?_ | refine lxF ?_ | refine zM rfl ?_); simp only [zD])
            refine zW _ rfl (λ _ _ _ h _ => h) rfl (λ w1 hb1 hf1 => ?_) ?_
            . have hb1' := hb1
              (unfold yE; go_simp; simp only [zN])
              refine (HERR.out _ (zF hW hb1')).mono ?_;rintro e w' ⟨rfl, rfl⟩;exact ⟨_, rfl, Below.refl _ _, rfl⟩
            rintro v1 W1 hB1 rfl;simp only [zD]
            repeat ((first | refine lxM ?_ | refine lxF ?_ | refine zM rfl ?_); simp only [zD])
            refine zW _ rfl (λ _ _ _ h _ => h) rfl (λ w1 hb1 hf1 => ?_) ?_
            . have hb1' := hb1
              (unfold yE; go_simp; simp only [zN])
              refine (HGD.out _ (zF hW hb1')).mono ?_;rintro e w' ⟨rfl, hB⟩;exact ⟨_, rfl, hB, rfl⟩
            rintro v2 W2 hB2 rfl;simp only [zD]
            repeat ((first | refine lxM ?_ | refine lxF ?_ | refine zM rfl ?_); simp only [zD])
            refine zZ ?_;have hBW2 : Below w13.heap.size w13 W2 := zF hW (zF hB1 hB2);have HFI := HFIN W2 hBW2;have d0 := zG hBW2 d0;have d1 := zG hBW2 d1;have d2 := zG hBW2 d2;clear r0 r1 r2' r4 hcvW
            go_wp2_with fail
            refine (xZ _).mono ?_;rintro e w14 ⟨⟨t9, rfl⟩, rfl⟩
            go_wp2_with fail
            refine HFI.out.mono ?_;rintro e w15 ⟨⟨t10, rfl⟩, q2, f1, f2, f3, f4, f5, f6, f7⟩
            go_wp2_with fail
            exact ⟨⟨_, q2, hjl, f1, f2, f3, f4, f5, f6⟩, f7⟩
        . obtain rfl : j = ps.length := by omega
          rw [List.take_length] at hTj hRj;have hbt : (wI ps).length = bs.length := by rw [HH.out.2.1]
          rw [hbt] at hRj;have hle := rleft_ok r2 u2 bs bs.length wr hRj;rw [Nat.sub_self] at hle;have hle2 := show Calls Tryz.prog 127 #[.pointer (some ⟨r2, 0, none⟩)] wr (λ e w' => e = .returned (.int .i64 0) /\ Below wr.heap.size wr w') from hle
          have HLE := zB hle2;have HF := zB (zC ht (zC hm' (zC ha (zC hX hTj))));clear hle hle2 hRj ht hm' ha hX hTj
          go_wp2_with fail
          refine HLE.out.mono ?_;rintro e w9 ⟨rfl, hB9⟩
          go_wp2_with fail
          go_ret
          refine ⟨rfl, q', HF.out.1, HF.out.2.1, λ i hi => (HF.out.2.2.1 i hi).imp id λ e => Nat.le_trans hB88.size e, ?_, HF.out.2.2.2.2.below hB9⟩;have hwr2 : w.heap.size <= r2 := Nat.le_trans hBz2.size hr2;exact ((Ext.of_below (S := q.all) hB88).trans HF.out.2.2.2.1 λ k hk e => e.elim id λ e => by omega).trans (Ext.of_below (S := q.all) hB9) λ _ _ h => h
theorem jH (ps : List Pr) (cs : List Chg) : xH ps (cs.map Chg.norm) = xH ps cs := by
 unfold xH;rw [List.foldl_map]
 congr 1
 funext p c
 exact chgP_norm p c
theorem batchK_any (d l : Nat) (q : TBk) (T : TblS) (cs : List Chg) (v : Value) (Bh Bt : Nat) (w : World) (h : sH w d l q T) (hlive : T.live = zU T.ps) (hroom : zU T.ps <= 1000000000) (hv : Src w v (u8s (recB cs))) (h0 : cs ≠ []) (hn : cs.length <= 80)
 (hg : ∀ c ∈ cs, c.good = true /\ zO c.key /\ zO c.value /\ c.value.length <= 1024) (hcap : zU (xH T.ps cs) <= T.cap) (hcl : T.cap <= 1000000000) (hh : w.cell? ⟨Bh, 0, none⟩ = some (.int .i64 0)) (ht : w.cell? ⟨Bt, 0, none⟩ = some (.pointer (some ⟨q.t, 0, none⟩))) (hBt : ¬ q.all Bt) :
 Calls Tryz.prog 94 #[v, .pointer (some ⟨Bh, 0, none⟩), .pointer (some ⟨Bt, 0, none⟩)] w λ e w' => (∃ t, e = .returned t) /\ vX w d l q { T with ps := xH T.ps cs, live := zU (xH T.ps cs) } (zS (xH T.ps cs)) w' := by
 obtain ⟨ds, hds⟩ : ∃ ds, cs.map Chg.norm = ds := ⟨_, rfl⟩;have hdl : ds.length = cs.length := by rw [<- hds, List.length_map]
 have hdp : xH T.ps ds = xH T.ps cs := by rw [<- hds, jH]
 have hdg : ∀ c ∈ ds, zO c.key /\ zO c.value /\ c.key.length <= 64 /\ c.value.length <= 1024 := λ c hc => by
  rw [<- hds] at hc;obtain ⟨c0, hc0, rfl⟩ := List.mem_map.1 hc;obtain ⟨g1, g2, g3, g4⟩ := hg c0 hc0;have g5 : c0.key.length <= 64 := by
   unfold Chg.good at g1;simp only [Bool.and_eq_true, decide_eq_true_eq] at g1;exact g1.1.2
  unfold Chg.norm
  split
  . exact ⟨g2, λ n hn => (by cases hn), g5, by simp⟩
  . exact ⟨g2, g3, g5, g4⟩
 have HB := zB (batch_any v cs w hv h0 hn hg);rw [hds] at HB;rw [<- hdp] at hcap ⊢;obtain ⟨n, hnn⟩ : ∃ n, ds.length = n := ⟨_, rfl⟩;have hn80 : n <= 80 := by omega
 have HT := zB h;have HLV := zB (sS (ps := T.ps) (cs := ds) h.rise (λ c hc => ⟨(hdg c hc).2.2.1, .inr (hdg c hc).2.2.2⟩));have HN := zB hnn;have HL := zB hlive;have hlt := h.lt;have hbt := block_lt_of_cell ht;clear hv h0 hn hg hds hdp h hdl hnn hlive;go_enter Tryz.func94, Tryz.ntmps94
 go_wp2_with fail
 refine (xZ _).mono ?_;rintro e w1 ⟨⟨t, rfl⟩, rfl⟩
 go_wp2_with fail
 refine HB.out.mono ?_;rintro e w1 ⟨u, rfl, hBa, hB1⟩;have ht1 := zG hB1 ht;obtain ⟨ua, uc, rfl⟩ := hBa.shape;rw [HN.out] at hBa ⊢;have HT1 := zB (HT.out.below hB1);have HBa := zB (hBa.mono (G := λ j => q.all j) λ j hj => .inl (hlt j hj));have HB1 := zB hB1;clear hBa HB hh ht
 go_wp2_with fail
 go_loopw [12] (λ vi wr => ∃ (i : Nat) (q7 : TBk), vi = .int .i64 i /\ i <= n /\ q7.t = q.t /\ q7.m = q.m /\ (∀ j, q7.all j -> q.all j \/ w1.heap.size <= j) /\ Ext q.all w1 wr /\
  sH wr d l q7 { T with ps := xH T.ps (ds.take i), live := zU (xH T.ps (ds.take i)) } /\ wE wr q7.all (.slice ua n uc) ds) (λ vi _ => n - (intOf vi).toNat)
 case atStart =>
  refine ⟨0, q, rfl, Nat.zero_le _, rfl, rfl, λ _ h => .inl h, Ext.refl _ _, ?_, HBa.out⟩;have e1 : T = { T with ps := xH T.ps (ds.take 0), live := zU (xH T.ps (ds.take 0)) } := by
   obtain ⟨t1, t2, t3, t4, t5⟩ := T;have := HL.out;simp only at this;rw [this];rfl
  rw [<- e1];exact HT1.out
 case round =>
  obtain ⟨i, q7, rfl, hi, ht7, hm7, ha7, hX7, hT7, hB7⟩ := hrel;have htr : wr.cell? ⟨Bt, 0, none⟩ = some (.pointer (some ⟨q.t, 0, none⟩)) := hX7.cell_some ht1 hBt;by_cases hin : i < n
  . have hin' : (i : Int) < (n : Int) := by omega
    obtain ⟨c, hci⟩ : ∃ c, ds[i]? = some c := ⟨_, List.getElem?_eq_getElem (by rw [HN.out]; exact hin)⟩;have hal7 := HLV.out i;obtain ⟨a', cap', e1, hel⟩ := hB7;obtain ⟨g, o, va, vb, e2, k0, k1, k2, hk, hvv, hgg, hfar⟩ := hel i c hci;injection e1 with e1 e3 e4;subst e1 e4 e2;clear e3;have hB7 : wE wr q7.all (.slice (some ⟨g, o, none⟩) n uc) ds := ⟨_, _, by rw [HN.out], hel⟩;have hbx := zQ wr (.cells #[va, vb, .bool c.gone] 78);have hTx := hT7.below hbx;have hch := nV d l q7 _ c va vb _ hTx rfl (by simp only; omega)
     ⟨hk.below hbx, hvv.below hbx, λ j hj e => (hfar j hj).2 e, (hdg c (List.mem_of_getElem? hci)).1, (hdg c (List.mem_of_getElem? hci)).2.1, (hdg c (List.mem_of_getElem? hci)).2.2.1, .inr (hdg c (List.mem_of_getElem? hci)).2.2.2⟩
    obtain ⟨aa, ca, rfl, -⟩ := hk.shape;obtain ⟨ab, cb, rfl, -⟩ := hvv.shape;rw [ht7] at hch;have htr2 := zG hbx htr;have HCH := zB hch;have Hci := zB hci;have H7 := zB (zC ht7 (zC hm7 (zC ha7 (zC hX7 (zC hTx (zC (hB7.below hbx) hbx))))));clear hk hvv hch hfar hgg hel hci ht7 hm7 ha7 hX7 hT7 hB7 hTx hbx
    go_wp2_with fail
    refine HCH.out.mono ?_;rintro e w8 ⟨⟨t, rfl⟩, q8, f1, f2, f3, f4, f5⟩;have HP := zB (zC f1 (zC f2 (zC f3 (zC f4 f5))));clear f1 f2 f3 f4 f5 HCH
    go_wp2_with fail
    have hXx : Ext q.all w1 w8 := (H7.out.2.2.2.1.trans (Ext.of_below (S := q.all) H7.out.2.2.2.2.2.2) λ _ _ h => h).trans HP.out.2.2.2.1 λ j hj e => by
     rcases H7.out.2.2.1 j e with e | e
     . exact e
     . omega
    refine ⟨⟨i + 1, q8, by simp, by omega, HP.out.1.trans H7.out.1, HP.out.2.1.trans H7.out.2.1, λ j hj => ?_, hXx, ?_, ?_⟩, ?_⟩
    . rcases HP.out.2.2.1 j hj with e | e
      . exact H7.out.2.2.1 j e
      . exact .inr (Nat.le_trans (Nat.le_trans H7.out.2.2.2.1.size H7.out.2.2.2.2.2.2.size) e)
    . rw [pH Hci.out];exact HP.out.2.2.2.2
    . exact ((H7.out.2.2.2.2.2.1.mono (G := λ j => q7.all j \/ q8.all j) λ j hj => hj.elim .inl λ hj => HP.out.2.2.1 j hj).ext HP.out.2.2.2.1 λ _ h => .inl h).mono λ j hj => .inl (.inr hj)
    . show n - ((i : Int) + 1).toNat < n - (i : Int).toNat;omega
  . obtain rfl : i = n := by omega
    have hin' : ¬ (i : Int) < (i : Int) := by omega
    rw [List.take_of_length_le (by rw [HN.out]; exact Nat.le_refl _)] at hT7;have c5 := hT7.cs.2.2.2.2.2.1;have c2 := hT7.cs.2.2.1;rw [ht7] at c5 c2;simp only at c5 c2;have hcap' : ((zU (xH T.ps ds) : Nat) : Int) <= (T.cap : Int) := by omega
    obtain ⟨lv, hlv⟩ : ∃ m, zU (xH T.ps ds) = m := ⟨_, rfl⟩;rw [hlv] at c5 hcap';have H7 := zB (zC ht7 (zC hm7 (zC ha7 (zC hX7 hT7))));clear ht7 hm7 ha7 hX7 hT7 hB7 hlv
    go_wp2_with fail
    refine zR 9 (λ _ => none) fol (by kernel_rfl) (λ W hW hh => ?_);clear hh;simp only [fT];have r5 := zV hW c5;have r2 := zV hW c2;have rt := zV hW htr
    repeat ((first | refine lxM ?_ | refine lxF ?_ | refine zM rfl ?_); simp only [zD])
    refine zZ ?_;clear r5 r2 rt
    go_wp2_with fail
    refine (xZ _).mono ?_;rintro e w9 ⟨⟨t9, rfl⟩, rfl⟩
    go_wp2_with fail
    go_end0
    refine ⟨⟨_, rfl⟩, vX.of_below HB1.out ⟨q7, H7.out.1, H7.out.2.1, H7.out.2.2.1, ?_, H7.out.2.2.2.2.below hW⟩⟩;exact H7.out.2.2.2.1.trans (Ext.of_below (S := q.all) hW) λ _ _ h => h
theorem partK_any (d l : Nat) (q : TBk) (T : TblS) (i : Nat) (v : Value) (Bt Bh : Nat) (w : World) (h : sH w d l q T) (hlive : T.live = zU T.ps) (hsum : zU T.ps <= 1000000000) (hi : i < yF (zU T.ps)) (hv : Src w v (u8s (yO (wI T.ps) i)))
 (hh : w.heap[Bh]? = some (.cells #[.int .i64 i] 3 (0, 0))) (ht : w.cell? ⟨Bt, 0, none⟩ = some (.pointer (some ⟨q.t, 0, none⟩))) :
 Calls Tryz.prog 97 #[v, .pointer (some ⟨Bt, 0, none⟩), .pointer (some ⟨Bh, 0, none⟩)] w λ e w' => (∃ t, e = .returned t) /\ Ext (· = Bh) w w' /\ w'.heap[Bh]? = some (.cells #[.int .i64 ((i : Int) + 1)] 3 (0, 0)) := by
 have hbl : (wI T.ps).length = zU T.ps := xA _;have HT := zB (text_any d l q T w h hlive (by omega));have hat := lZ (n := (wI T.ps).length) (i := i) (by rw [hbl]; exact hi);have hkp := wJ (zU T.ps);obtain ⟨bs, hbs⟩ : ∃ b, wI T.ps = b := ⟨_, rfl⟩;obtain ⟨K, hK⟩ : ∃ K, yF (zU T.ps) = K := ⟨_, rfl⟩;obtain ⟨n, hn⟩ : ∃ n, bs.length = n := ⟨_, rfl⟩;rw [hbs] at HT hbl hv hat;rw [hn] at hbl hat HT;rw [hK] at hi hkp;rw [<- hbl] at hsum hkp hK;have HN := zB hn;have hcb : w.cell? ⟨Bh, 0, none⟩ = some (.int .i64 i) := by simp [World.cell?, hh]
 have hpl := tO bs i (by omega) (by omega);have hP := zB λ w' => oU n (by omega) w';rw [hK] at hP;have hV := zB hv;have HH := zB hh;clear hK hbs hn hv hbl h hlive hh;go_enter Tryz.func97, Tryz.ntmps97
 go_wp2_with fail
 refine HT.out.mono ?_;rintro e w1 ⟨u, rfl, hown, hB1⟩;obtain ⟨ua, uc, rfl, -⟩ := zP hown;have hcb1 := zG hB1 hcb;have hPR := zB λ W (hW : Below w1.heap.size w1 W) => sK (.slice ua n uc) bs i (by rw [HN.out]; exact hat) (by rw [HN.out]; omega) W ((Src.of_owns hown).below hW);have hV1 := zB (hV.out.below hB1);obtain ⟨va, vc, rfl, -⟩ := hV.out.shape;have hik : (i : Int) < (K : Int) := by omega
 clear hown HT
 go_wp2_with fail
 refine zR 10 (λ j => if j = 3 then some (λ v _ => v = .int .i64 K) else if j = 9 then some (λ v w' => Src w' v (u8s (yO bs i))) else none) fol (by kernel_rfl) (λ W hW hh => ?_);clear hh;simp only [fT];have r0 := zV hW hcb1
 repeat ((first | refine lxM ?_ | refine lxF ?_ | refine zM rfl ?_); simp only [zD])
 refine zW _ rfl (λ _ _ _ h _ => h) rfl (λ w1 hb1 hf1 => ?_) ?_
 . (unfold yE; go_simp; simp only [zN])
   refine (hP.out _).mono ?_;rintro e w' ⟨rfl, rfl⟩;exact ⟨_, rfl, Below.refl _ _, rfl⟩
 rintro v1 W1 hb2 rfl;simp only [zD]
 repeat ((first | refine lxM ?_ | refine lxF ?_ | refine zM rfl ?_); simp only [zD])
 refine zW _ rfl (by exact λ _ _ _ h hb => h.below hb) rfl (λ w1 hb1 hf1 => ?_) ?_
 . have hb1' := hb1
   (unfold yE; go_simp; simp only [zN])
   refine (hPR.out _ (zF hW hb1')).mono ?_;rintro e w' ⟨u2, rfl, hown2, hB⟩;obtain ⟨xa, xc, rfl, -⟩ := zP hown2;exact ⟨_, rfl, hB, Src.of_owns hown2⟩
 rintro v2 W2 hb3 hs2;obtain ⟨xa, xc, rfl, -⟩ := hs2.shape;simp only [zD]
 repeat ((first | refine lxM ?_ | refine lxF ?_ | refine zM rfl ?_); simp only [zD])
 refine zZ ?_;have hBW := zF hB1 (zF hW (zF hb2 hb3));have hc2 := zG (zF hW (zF hb2 hb3)) hcb1;have heq := kI _ _ (yO bs i) (yO bs i) W2 (hV1.out.below (zF hW (zF hb2 hb3))) hs2 (by omega);rw [show decide (yO bs i = yO bs i) = true from decide_eq_true rfl] at heq;have HEQ := zB heq;clear heq hs2 r0
 go_wp2_with fail
 refine HEQ.out.mono ?_;rintro e w8 ⟨rfl, hB8⟩
 go_wp2_with fail
 refine (xZ _).mono ?_;rintro e w9 ⟨⟨t9, rfl⟩, rfl⟩;have hBA := zF hBW hB8;have hh8 := zK hBA HH.out;have hc8 : w8.cell? ⟨Bh, 0, none⟩ = some (.int .i64 i) := by simp [World.cell?, hh8]
 have hf8 : w8.frozen? ⟨Bh, 0, none⟩ = false := by simp [World.frozen?, hh8]
 have hset := yB (j := 0) hh8 (.int .i64 ((i : Int) + 1));have hX : Ext (· = Bh) w8 (w8.setCell ⟨Bh, 0, none⟩ (.int .i64 ((i : Int) + 1))) := Ext.setCell (S := (· = Bh)) (p := ⟨Bh, 0, none⟩) rfl _;have HF := zB (zC hset hX);clear hset hX hh8
 go_wp2_with fail
 go_end0
 exact ⟨⟨_, rfl⟩, (Ext.of_below (S := (· = Bh)) hBA).trans HF.out.2 λ _ _ h => h, HF.out.1⟩
theorem und_fmap : Tryz.prog.underlying 155 = some (.map 5 154) := by kernel_rfl
theorem iG : Tryz.prog.underlying 5 = some (.int .u8) := by kernel_rfl
theorem zero_fn (w : World) : (zeroValue 154).run Tryz.prog w = .ok .nilFunc w := by kernel_rfl
structure FMap (w : World) (bm : Nat) (ks : List Int) (V : Int -> Value) : Prop where
 some' : ∃ D, w.ownsMap Tryz.prog 5 asIs bm ks.length D /\ Maps.size D = ks.length /\ ks.Nodup /\ (∀ i : Int, (Lit.int .u8 i).wf = true -> D.atKey (.int .u8 i) (.held .nilFunc) = .held (V i) /\ Maps.has D (.int .u8 i) = decide (i ∈ ks))
theorem FMap.keep {w w' : World} {bm : Nat} {ks : List Int} {V : Int -> Value} (h : FMap w bm ks V) (hb : w'.heap[bm]? = w.heap[bm]?) : FMap w' bm ks V := by
 obtain ⟨D, ⟨es, clock, h1, h2⟩, h3⟩ := h.some';exact ⟨D, ⟨es, clock, hb.trans h1, h2⟩, h3⟩
theorem FMap.lt {w : World} {bm : Nat} {ks : List Int} {V : Int -> Value} (h : FMap w bm ks V) : bm < w.heap.size := by
 obtain ⟨D, h1, -⟩ := h.some';exact h1.lt
theorem FMap.new {w : World} {g : Nat} (h : w.heap[g]? = some (.map #[] 0)) : FMap w g [] (λ _ => .nilFunc) := by
 obtain ⟨es, clock, hb, F, hs, hD⟩ := World.ownsMap_made w Tryz.prog 5 asIs;rw [World.alloc_heap_new] at hb;injection hb with hb;injection hb with e1 e2;subst e1 e2;exact ⟨⟨.map [], ⟨#[], 0, h, F, Nat.le_refl _, rfl⟩, rfl, List.nodup_nil, λ i _ => ⟨rfl, by simp [Maps.has]⟩⟩⟩
theorem FMap.look {w : World} {bm : Nat} {ks : List Int} {V : Int -> Value} (h : FMap w bm ks V) (i : Int) (hi : (Lit.int .u8 i).wf = true) :
 Sem.run Tryz.prog (Instr.lookup 155 (.map (some bm)) (.int .u8 i) false) w = .ok (V i) w := by
 obtain ⟨D, h1, -, -, h2⟩ := h.some';obtain ⟨v, ps, hr, hv⟩ := h1.lookup (Maps.int_keyed iG) und_fmap (zero_fn w) (show asIs .nilFunc = some (.held .nilFunc, []) from rfl) (Maps.keyOf_int_mk iG hi);rw [(h2 i hi).1] at hv;rw [kP hv] at hr;exact hr
theorem FMap.store {w : World} {bm : Nat} {ks : List Int} {V : Int -> Value} (h : FMap w bm ks V) (hn : ks.length <= 65536) (i : Int) (hi : (Lit.int .u8 i).wf = true) (v : Value) :
 ∃ w', (Instr.mapUpdate 155 (.map (some bm)) (.int .u8 i) v).run Tryz.prog w = .ok () w' /\ FMap w' bm (addK ks i) (setV V i v) /\ Ext (· = bm) w w' := by
 obtain ⟨D, h1, h2, h3, h4⟩ := h.some';have K := Maps.int_keyed iG;have hkey := Maps.keyOf_int_mk iG hi;obtain ⟨w', r1, r2, r3⟩ := h1.update K und_fmap (by unfold maxLen; omega) hkey (show asIs v = some (.held v, []) from rfl);have ht := h1.tidy K;have hsz := Maps.size_put ht (k := .int .u8 i) (.held v);rw [(h4 i hi).2, h2] at hsz;have hlen : Maps.size (D.put (.int .u8 i) (.held v)) = (addK ks i).length := by
  rw [hsz];unfold addK;by_cases hm : i ∈ ks
  . simp [hm]
  . simp [hm]
 refine ⟨w', r1, ⟨D.put (.int .u8 i) (.held v), by rw [<- hlen]; exact qZ r2, hlen, ?_, λ j hj => ?_⟩, ⟨r3.os, r3.tape, r3.output, r3.size, λ j hj hne => r3.block j hj λ e => hne (by injection e)⟩⟩
 . unfold addK
   split
   . exact h3
   . rename_i hm; exact List.nodup_cons.2 ⟨hm, h3⟩
 . have hD := h1.isMap;have hkl : WideAt.IsKeyLit (.int .u8 i) := by first | trivial | simp [WideAt.IsKeyLit]
   by_cases hji : j = i
   . subst hji;exact ⟨by rw [Maps.atKey_put_same hD hkl]; simp [setV], by rw [Maps.has_put_same hD hkl]; simp [qR]⟩
   . have hne : (Lit.int .u8 j) ≠ .int .u8 i := λ e => hji (by injection e);refine ⟨?_, ?_⟩
     . rw [Maps.atKey_put_other hne, (h4 j hj).1]; simp [setV, hji]
     . rw [Maps.has_put_other hne, (h4 j hj).2];simp [qR, hji]
theorem catch_idle (a b c : Value) (w : World) : CallsD Tryz.prog 93 #[a, b, c] .returning w λ e u' w' => e = .returned (.tuple #[]) /\ u' = .returning /\ w' = w := by
 refine callsD_of_wpS Tryz.func93 rfl λ c₀ cs hu => ?_;apply wpS_seq;apply wpS_region;simp [wpOpsS, go_sem, recoverD, hu, Tryz.ntmps93, Exit.thenS];apply wpS_seq;apply wpS_region;simp [wpOpsS, go_sem, recoverD, hu, Tryz.ntmps93, Exit.thenS, Act.eval, Array.replicate];refine wpS_cond (t := false) (by simp [Act.eval, Array.replicate]) ?_;simp only [Bool.false_eq_true, if_false];refine wpS_of_wp (wp_skip ?_)
 cases c₀
 simp_all [bodyPostS, results, Tryz.results93]
def allP (ps : List Pr) (css : List (List Chg)) : List Pr := css.foldl xH ps
theorem allP_succ {ps : List Pr} {css : List (List Chg)} {i : Nat} {cs : List Chg} (h : css[i]? = some cs) : allP ps (css.take (i + 1)) = xH (allP ps (css.take i)) cs := by
 unfold allP;rw [List.take_add_one, h, List.foldl_append];rfl
def wS (ps : List Pr) (css : List (List Chg)) (hv : Nat) : List (List Int) := pG (wI ps) ++ (css.map recB ++ (List.range hv).map (yO (wI (allP ps css))))
theorem allocs5 (w : World) (o1 o2 o3 o4 o5 : Obj) : Below w.heap.size w (((((w.alloc o1).alloc o2).alloc o3).alloc o4).alloc o5) /\ (((((w.alloc o1).alloc o2).alloc o3).alloc o4).alloc o5).heap[w.heap.size]? = some o1 /\ (((((w.alloc o1).alloc o2).alloc o3).alloc o4).alloc o5).heap[w.heap.size + 1]? = some o2 /\
 (((((w.alloc o1).alloc o2).alloc o3).alloc o4).alloc o5).heap[w.heap.size + 1 + 1]? = some o3 /\ (((((w.alloc o1).alloc o2).alloc o3).alloc o4).alloc o5).heap[w.heap.size + 1 + 1 + 1]? = some o4 /\ (((((w.alloc o1).alloc o2).alloc o3).alloc o4).alloc o5).heap[w.heap.size + 1 + 1 + 1 + 1]? = some o5 /\
 (((((w.alloc o1).alloc o2).alloc o3).alloc o4).alloc o5).heap.size = w.heap.size + 5 := by
 obtain ⟨h0, h1, h2, h3⟩ := allocs3 w o1 o2 o3;have hs : (((w.alloc o1).alloc o2).alloc o3).heap.size = w.heap.size + 1 + 1 + 1 := by simp
 generalize ((w.alloc o1).alloc o2).alloc o3 = W at *;have b4 := zQ W o4;have b5 := zQ (W.alloc o4) o5;have s4 : (W.alloc o4).heap.size = w.heap.size + 1 + 1 + 1 + 1 := by simp [hs]
 have g4 := World.alloc_heap_new W o4;have g5 := World.alloc_heap_new (W.alloc o4) o5;rw [hs] at g4;rw [s4] at g5;have hb := zF b4 b5;refine ⟨h0.trans (hb.mono h0.size), zK hb h1, zK hb h2, zK hb h3, zK b5 g4, g5, by simp [hs]⟩
def RepI (w : World) (d l : Nat) (q : TBk) (T : TblS) (ps : List Pr) (css : List (List Chg)) (K : Nat) (V : Int -> Value) (ks : List Int) (i : Nat) (wr : World) : Prop :=
 ∃ q7 : TBk, q7.t = q.t /\ q7.m = q.m /\ (∀ j, q7.all j -> q.all j \/ w.heap.size + 5 <= j) /\ Ext q.all w wr /\ sH wr d l q7 { T with ps := allP ps (css.take i), live := zU (allP ps (css.take i)) } /\ w.heap.size + 5 <= wr.heap.size /\
  wr.heap[w.heap.size]? = some (.cells #[.pointer (some ⟨q.t, 0, none⟩)] 26 (0, 0)) /\ wr.heap[w.heap.size + 1]? = some (.cells #[.int .i64 ((K + min i css.length : Nat) : Int)] 3 (0, 0)) /\ wr.heap[w.heap.size + 1 + 1]? = some (.cells #[.int .i64 ((i - css.length : Nat) : Int)] 3 (0, 0)) /\
  wr.heap[w.heap.size + 1 + 1 + 1]? = some (.cells #[.int .i64 0] 34 (0, 0)) /\ FMap wr (w.heap.size + 1 + 1 + 1 + 1) ks V
theorem RepI.below {w wr wr' : World} {d l : Nat} {q : TBk} {T : TblS} {ps : List Pr} {css : List (List Chg)} {K : Nat} {V : Int -> Value} {ks : List Int} {i : Nat} (h : RepI w d l q T ps css K V ks i wr) (hb : Below wr.heap.size wr wr') : RepI w d l q T ps css K V ks i wr' := by
 obtain ⟨q7, h1, h2, h3, h4, h5, h6, h7, h8, h9, h10, h11⟩ := h;exact ⟨q7, h1, h2, h3, h4.trans (Ext.of_below (S := q.all) hb) λ _ _ h => h, h5.below hb, Nat.le_trans h6 hb.size, zK hb h7, zK hb h8, zK hb h9, zK hb h10, h11.keep (hb.block _ h11.lt)⟩
theorem replay_any (d l : Nat) (q : TBk) (T : TblS) (v : Value) (ps : List Pr) (css : List (List Chg)) (hv : Nat) (w : World) (h : sH w d l q T) (hT : T.ps = [] /\ T.live = 0) (hcl : T.cap <= 1000000000) (hr : yQ (zS ps))
 (hg : ∀ p ∈ ps, zO p.1 /\ zO p.2 /\ 0 < p.1.length /\ p.1.length <= 64 /\ p.2.length <= 1024)
 (hcs : ∀ cs ∈ css, cs ≠ [] /\ cs.length <= 80 /\ ∀ c ∈ cs, c.good = true /\ zO c.key /\ zO c.value /\ c.value.length <= 1024)
 (hcap : ∀ i, i <= css.length -> zU (allP ps (css.take i)) <= T.cap) (hn : css.length + hv <= 1000000) (hh : hv <= yF (zU (allP ps css))) (hrecs : nH w q.all v (wS ps css hv)) (hvc : ∀ a n c, v = .slice a n c -> n <= c) :
 Calls Tryz.prog 51 #[.pointer (some ⟨q.t, 0, none⟩), v] w λ e w' => e = .returned (.tuple #[.int .i64 ((yF (zU ps) + css.length : Nat) : Int), .int .i64 hv, .int .i64 0]) /\ vX w d l q { T with ps := allP ps css, live := zU (allP ps css) } (zS (allP ps css)) w' := by
 have hmf : ∀ (fn : Fn) (first cap : Array Value) (w : World), (Instr.makeFunc fn first cap).run Tryz.prog w = .ok (.func fn first cap) w := λ _ _ _ _ => rfl;have hmm := @run_makeMap Tryz.prog;obtain ⟨a, cap, rfl⟩ := hrecs.shape;have hmc := hvc _ _ _ rfl;clear hvc;have hKp := jC (zU ps);obtain ⟨ga, oa, rfl⟩ : ∃ g o, a = some ⟨g, o, none⟩ := by
  obtain ⟨a', cap', e, h⟩ := hrecs;obtain ⟨g, o, u, e2, -⟩ := h 0 (yO (wI ps) 0) (by unfold wS; rw [List.getElem?_append_left (by rw [wP, xA]; omega)]; exact ckRecs_get (by rw [xA]; omega));injection e with e;exact ⟨g, o, e.trans e2⟩
 have hlen : (wS ps css hv).length = yF (zU ps) + (css.length + hv) := by
  unfold wS;simp only [List.length_append, List.length_map, List.length_range, wP, xA]
 obtain ⟨m, hm⟩ : ∃ m, (wS ps css hv).length = m := ⟨_, rfl⟩;rw [hm] at hlen hmc ⊢;obtain ⟨hb5, g0, g1, g2, g3, g4, hs5⟩ := allocs5 w (.cells #[.pointer (some ⟨q.t, 0, none⟩)] 26) (.cells #[.int .i64 0] 3) (.cells #[.int .i64 0] 3) (.cells #[.int .i64 0] 34) (.map #[] 0);obtain ⟨w5, hw5⟩ : ∃ w5, (((((w.alloc (.cells #[.pointer (some ⟨q.t, 0, none⟩)] 26)).alloc (.cells #[.int .i64 0] 3)).alloc (.cells #[.int .i64 0] 3)).alloc (.cells #[.int .i64 0] 34)).alloc (.map #[] 0)) = w5 := ⟨_, rfl⟩;rw [hw5] at hb5 g0 g1 g2 g3 g4 hs5;obtain ⟨Bt, hBt⟩ : ∃ B, w.heap.size = B := ⟨_, rfl⟩;obtain ⟨f1, hf1⟩ : ∃ f, Value.func (.func 94) #[] #[.pointer (some ⟨w.heap.size + 1 + 1, 0, none⟩), .pointer (some ⟨w.heap.size, 0, none⟩)] = f := ⟨_, rfl⟩;obtain ⟨f2, hf2⟩ : ∃ f, Value.func (.func 97) #[] #[.pointer (some ⟨w.heap.size, 0, none⟩), .pointer (some ⟨w.heap.size + 1 + 1, 0, none⟩)] = f := ⟨_, rfl⟩;obtain ⟨w6, r1, hM6, hX6⟩ := (FMap.new g4).store (by decide) 1 (by decide) f1;obtain ⟨w7, r2, hM7, hX7⟩ := hM6.store (by decide) 2 (by decide) f2;have hX57 : Ext (· = w.heap.size + 1 + 1 + 1 + 1) w5 w7 := hX6.trans hX7 λ _ _ h => h;have g0 := hX57.block _ (zI g0) (by omega) |>.trans g0
 have g1 := hX57.block _ (zI g1) (by omega) |>.trans g1
 have g2 := hX57.block _ (zI g2) (by omega) |>.trans g2
 have g3 := hX57.block _ (zI g3) (by omega) |>.trans g3
 have hb7 : Below w.heap.size w w7 := hb5.trans (hX57.to_belowAt hb5.size λ k hk e => by omega);have hs7 : w.heap.size + 5 <= w7.heap.size := by rw [<- hs5]; exact hX57.size
 have HW := zB (zC hw5 (zC r1 r2));have HF := zB (zC hf1 hf2);have HG := zB (zC g0 (zC g1 (zC g2 (zC g3 (zC hb7 (zC hM7 hs7))))));have HT := zB (zC h (zC hT (zC hr (zC hg (zC hcs (zC hcap hh))))));clear hw5 r1 r2 hf1 hf2 hM6 hX6 hM7 hX7 hX57 g0 g1 g2 g3 g4 hb5 hb7 hs5 hs7 h hT hr hg hcs hcap hh hBt;have Hlen := zB hlen;clear hlen;obtain ⟨K, hK⟩ : ∃ K, yF (zU ps) = K := ⟨_, rfl⟩;have c0 : w7.cell? ⟨w.heap.size, 0, none⟩ = some (.pointer (some ⟨q.t, 0, none⟩)) := by simp [World.cell?, HG.out.1]
 have c1 : w7.cell? ⟨w.heap.size + 1, 0, none⟩ = some (.int .i64 0) := by simp [World.cell?, HG.out.2.1]
 have fr1 : ∀ j, w7.frozen? ⟨w.heap.size + 1, j, none⟩ = false := λ j => by simp [World.frozen?, HG.out.2.1]
 have hR7 := hrecs.below HG.out.2.2.2.2.1;rw [hm] at hrecs;have hkp := wJ (zU ps);have hlv0 : zU ps <= T.cap := HT.out.2.2.2.2.2.1 0 (Nat.zero_le _);have HLD := load_any d l q T (.slice (some ⟨ga, oa, none⟩) (wS ps css hv).length cap) (wI ps) (css.map recB ++ (List.range hv).map (yO (wI (allP ps css)))) ps w7 (HT.out.1.below HG.out.2.2.2.2.1) HT.out.2.1 hR7 rfl HT.out.2.2.1 HT.out.2.2.2.1 (by omega) (by simp only [List.length_append, List.length_map, List.length_range]; omega);rw [xA, hK, hm] at HLD;rw [hK] at hkp hKp;have hKb : K <= 200000 := by omega
 have HLD := zB HLD;have HK := zB hK;have Hm := zB hm;have HRS := zB hrecs;clear hK hm hrecs hR7;have hql := HT.out.1.lt
 go_enter_defers Tryz.func51, Tryz.ntmps51
 go_wp2_with fail
 rw [HW.out.1, HF.out.1, HW.out.2.1]
 go_wp2_with fail
 rw [HF.out.2, HW.out.2.2]
 go_wp2_with fail
 refine HLD.out.mono ?_;rintro e w8 ⟨rfl, q1, ht1, hm1, ha1, hX1, hT1⟩;have hnq : ∀ k, w.heap.size <= k -> ¬ q.all k := λ k hk e => by have := hql k e; omega
 have hkeep8 : ∀ k o, w.heap.size <= k -> w7.heap[k]? = some o -> w8.heap[k]? = some o := λ k o hk ho => (hX1.block k (zI ho) (hnq k hk)).trans ho;have k0 := hkeep8 _ _ (by omega) HG.out.1;have k1 := hkeep8 _ _ (by omega) HG.out.2.1;have k2 := hkeep8 _ _ (by omega) HG.out.2.2.1;have k3 := hkeep8 _ _ (by omega) HG.out.2.2.2.1;have hM8 : FMap w8 (w.heap.size + 1 + 1 + 1 + 1) _ _ := HG.out.2.2.2.2.2.1.keep (hX1.block _ HG.out.2.2.2.2.2.1.lt (hnq _ (by omega)));have fr8 : ∀ j, w8.frozen? ⟨w.heap.size + 1, j, none⟩ = false := λ j => by simp [World.frozen?, k1]
 have cc1 : w8.cell? ⟨w.heap.size + 1, 0, none⟩ = some (.int .i64 0) := by simp [World.cell?, k1]
 have hset := yB (j := 0) k1 (.int .i64 K);have hX9 : Ext (· = w.heap.size + 1) w8 (w8.setCell ⟨w.heap.size + 1, 0, none⟩ (.int .i64 K)) := Ext.setCell (S := (· = w.heap.size + 1)) (p := ⟨w.heap.size + 1, 0, none⟩) rfl _;have H8 := zB (zC hset (zC hX9 hM8));clear c0 c1 fr1 hset hX9 hM8
 go_wp2_with fail
 generalize w8.setCell ⟨w.heap.size + 1, 0, none⟩ (.int .i64 K) = w9 at H8 ⊢;clear fr8 cc1;have hq1 : ∀ k, q1.all k -> q.all k \/ w.heap.size + 5 <= k := λ k hk => (ha1 k hk).imp id λ e => Nat.le_trans HG.out.2.2.2.2.2.2 e;have hs8 : w.heap.size + 5 <= w8.heap.size := Nat.le_trans HG.out.2.2.2.2.2.2 hX1.size;have h90 := (H8.out.2.1.block _ (zI k0) (by omega)).trans k0;have h92 := (H8.out.2.1.block _ (zI k2) (by omega)).trans k2;have h93 := (H8.out.2.1.block _ (zI k3) (by omega)).trans k3;have hT9 := hT1.ext H8.out.2.1 λ k hk e => by
  rcases hq1 k hk with h | h
  . have := hql k h; omega
  . omega
 have hX79 : Ext q.all w w9 := ((Ext.of_below (S := q.all) HG.out.2.2.2.2.1).trans hX1 λ _ _ h => h).trans H8.out.2.1 λ k hk e => by omega
 have hI9 : RepI w d l q T ps css K _ _ 0 w9 := ⟨q1, ht1, hm1, hq1, hX79, hT9, Nat.le_trans hs8 H8.out.2.1.size, h90, by rw [Nat.zero_min]; exact H8.out.1, by rw [Nat.zero_sub]; exact h92, h93, H8.out.2.2.keep (H8.out.2.1.block _ H8.out.2.2.lt (by omega))⟩;have HI9 := zB hI9;have c5 := hT9.cs.2.2.2.2.2.1;have c2 := hT9.cs.2.2.1;rw [ht1] at c5 c2;simp only at c5 c2;have c0 : w9.cell? ⟨w.heap.size, 0, none⟩ = some (.pointer (some ⟨q.t, 0, none⟩)) := by simp [World.cell?, h90]
 have c1 : w9.cell? ⟨w.heap.size + 1, 0, none⟩ = some (.int .i64 K) := by have := H8.out.1; simp [World.cell?, this]
 have hlc : ((zU ps : Nat) : Int) <= (T.cap : Int) := by omega
 obtain ⟨lv, hlv⟩ : ∃ m, zU ps = m := ⟨_, rfl⟩;rw [hlv] at c5 hlc;clear k0 k1 k2 k3 h90 h92 h93 hT9 hT1 hX1 hX79 hI9 hlv hq1 ha1 HLD H8 hlv0;refine zR 9 (λ _ => none) fol (by kernel_rfl) (λ W hW hh => ?_);clear hh;simp only [fT];have r5 := zV hW c5;have r2 := zV hW c2;have r0 := zV hW c0
 repeat ((first | refine lxM ?_ | refine lxF ?_ | refine zM rfl ?_); simp only [zD])
 refine zZ ?_;clear r5 r2 r0
 go_wp2_with fail
 refine (xZ _).mono ?_;rintro e w10 ⟨⟨t9, rfl⟩, rfl⟩;have hI10 := HI9.out.below hW;have c1 := zG hW c1;have HI10 := zB hI10;clear hI10 HI9 c0 c2 c5 hW;obtain ⟨nb, hnb⟩ : ∃ n, css.length = n := ⟨_, rfl⟩;obtain ⟨R, hR⟩ : ∃ r, nb + hv = r := ⟨_, rfl⟩;have hmK : m = K + R := by rw [Hlen.out, HK.out, hnb, hR]
 have Hnb := zB hnb;rw [hnb, hR] at hn;have hRn := zB hR;clear hnb hR;by_cases hcK : cap = K
 . have hR0 : R = 0 := by omega
   subst hR0;have hKm : (K : Int) <= (m : Int) := by omega
   have hKc : ¬ (cap : Int) < (K : Int) := by omega
   clear hmm hmf
   go_wp2_with fail
   go_loopw [32] (λ vi wr => ∃ i : Nat, vi = .int .i64 i /\ i <= 0 /\ RepI w d l q T ps css K (setV (setV (λ x => .nilFunc) 1 f1) 2 f2) (addK (addK [] 1) 2) i wr) (λ vi _ => 0)
   case atStart => exact ⟨0, rfl, Nat.zero_le _, HI10.out⟩
   case round =>
    obtain ⟨i, rfl, hi, hI⟩ := hrel;obtain rfl : i = 0 := by omega
    have htk : css.take 0 = css := List.take_of_length_le (by rw [Hnb.out]; have := hRn.out; omega);obtain ⟨q7, e1, e2, e3, e4, e5, e6, e7, e8, e9, e10, e11⟩ := hI;rw [Hnb.out] at e8 e9;rw [htk] at e5;have him : min 0 nb = nb := by have := hRn.out; omega
    have hih : 0 - nb = hv := by have := hRn.out; omega
    rw [him] at e8;rw [hih] at e9;have x8 : wr.cell? ⟨w.heap.size + 1, 0, none⟩ = some (.int .i64 ((K + nb : Nat) : Int)) := by simp [World.cell?, e8]
    have x9 : wr.cell? ⟨w.heap.size + 1 + 1, 0, none⟩ = some (.int .i64 hv) := by simp [World.cell?, e9]
    have HE := zB (zC e1 (zC e2 (zC e3 (zC e4 (zC e5 (zC e6 (zC e8 (zC e9 e10))))))));clear e1 e2 e3 e4 e5 e6 e7 e8 e9 e10 e11 him hih htk
    go_wp2_with fail
    refine vY 3 [1] (λ _ => none) (λ w' => w'.cell? ⟨w.heap.size + 1 + 1, 0, none⟩ = some (.int .i64 hv)) (λ _ w' => w'.heap[w.heap.size + 1]? = some (.cells #[.int .i64 ((K + nb : Nat) : Int)] 3 (0, 0)) /\ Ext (· = w.heap.size + 1) wr w') fol (by kernel_rfl) (λ b1 _ hb w' h => zG (zF hb h) x9) (λ W2 hW2 hh => ?_);clear hh;simp only [fT];have r8 := zV hW2 x8
    iterate 2 ((first | (refine mO _ (by first | exact .inl rfl | exact .inr rfl) (by first | exact .inl rfl | exact .inr rfl) rfl ?_) | (refine sI ?_ rfl rfl (λ w1 hb1 hf1 => ?_) ?_; rotate_left; (go_simp; (try simp (disch := omega) only [zE, toNatUp, iteOmega]); (try go_simp); rfl)) | (refine jP ?_ rfl rfl (λ w1 hcb1 => ?_) ?_; rotate_left; ((try dsimp only at hcb1); go_simp; (try simp (disch := omega) only [zE, toNatUp, iteOmega]); (try go_simp); rfl))); simp only [zD])
    have g8 := zK hW2 HE.out.2.2.2.2.2.2.1;have gf8 : W2.frozen? ⟨w.heap.size + 1, 0, none⟩ = false := by simp [World.frozen?, g8]
    have gc8 : W2.cell? ⟨w.heap.size + 1, 0, none⟩ = some (.int .i64 ((K + nb : Nat) : Int)) := by simp [World.cell?, g8]
    refine jA _ rfl rfl ?_ ?_
    . have hset := yB (j := 0) g8 (.int .i64 ((K + nb : Nat) : Int));have hXs : Ext (· = w.heap.size + 1) W2 (W2.setCell ⟨w.heap.size + 1, 0, none⟩ (.int .i64 ((K + nb : Nat) : Int))) := Ext.setCell (S := (· = w.heap.size + 1)) (p := ⟨w.heap.size + 1, 0, none⟩) rfl _;have hc9 := hXs.cell_some (zG hW2 x9) (by simp);have HS := zB (zC hset (zC ((Ext.of_below (S := (· = w.heap.size + 1)) hW2).trans hXs λ _ _ h => h) hc9));clear hset hXs hc9
      (unfold yE; go_simp; simp only [zN])
      have hcast : ((K : Int) + (nb : Int)) = ((K + nb : Nat) : Int) := by simp
      rw [hcast];exact ⟨HS.out.2.2, HS.out.1, HS.out.2.1⟩
    rintro v9 w9 hcb ⟨h1, h2⟩;simp only [zD];refine rl_nil ?_;have j9 := (h2.block _ (zI HE.out.2.2.2.2.2.2.2.1) (by omega)).trans HE.out.2.2.2.2.2.2.2.1;have j10 := (h2.block _ (zI HE.out.2.2.2.2.2.2.2.2) (by omega)).trans HE.out.2.2.2.2.2.2.2.2;have m9 : w9.cell? ⟨w.heap.size + 1 + 1, 0, none⟩ = some (.int .i64 hv) := by simp [World.cell?, j9]
    have m10 : w9.cell? ⟨w.heap.size + 1 + 1 + 1, 0, none⟩ = some (.int .i64 0) := by simp [World.cell?, j10]
    have n9 : w9.frozen? ⟨w.heap.size + 1 + 1, 0, none⟩ = false := by simp [World.frozen?, j9]
    have n10 : w9.frozen? ⟨w.heap.size + 1 + 1 + 1, 0, none⟩ = false := by simp [World.frozen?, j10]
    have hX2 : Ext (· = w.heap.size + 1 + 1) w9 (w9.setCell ⟨w.heap.size + 1 + 1, 0, none⟩ (.int .i64 hv)) := Ext.setCell (S := (· = w.heap.size + 1 + 1)) (p := ⟨w.heap.size + 1 + 1, 0, none⟩) rfl _;have hX3 : Ext (· = w.heap.size + 1 + 1 + 1) (w9.setCell ⟨w.heap.size + 1 + 1, 0, none⟩ (.int .i64 hv)) ((w9.setCell ⟨w.heap.size + 1 + 1, 0, none⟩ (.int .i64 hv)).setCell ⟨w.heap.size + 1 + 1 + 1, 0, none⟩ (.int .i64 0)) := Ext.setCell (S := (· = w.heap.size + 1 + 1 + 1)) (p := ⟨w.heap.size + 1 + 1 + 1, 0, none⟩) rfl _;have s9 := yB (j := 0) j9 (.int .i64 hv);have s10 := yB (j := 0) ((hX2.block _ (zI j10) (by omega)).trans j10) (.int .i64 0);have s9' := (hX3.block _ (zI s9) (by omega)).trans s9;have s8' := (hX3.block _ (Nat.lt_of_lt_of_le (zI h1) hX2.size) (by omega)).trans ((hX2.block _ (zI h1) (by omega)).trans h1);have HS := zB (zC s8' (zC s9' (zC s10 (zC h2 (zC hX2 hX3)))));clear j9 j10 hX2 hX3 s9 s10 s9' s8' h1 h2 r8 g8 gf8 gc8 x8 x9 hcb
    go_wp2_with fail
    generalize w9.setCell ⟨w.heap.size + 1 + 1, 0, none⟩ (.int .i64 hv) = w10 at HS ⊢;generalize w10.setCell ⟨w.heap.size + 1 + 1 + 1, 0, none⟩ (.int .i64 0) = w11 at HS ⊢;clear m9 m10 n9 n10;have v8 : w11.cell? ⟨w.heap.size + 1, 0, none⟩ = some (.int .i64 ((K + nb : Nat) : Int)) := by have := HS.out.1; simp [World.cell?, this]
    have v9 : w11.cell? ⟨w.heap.size + 1 + 1, 0, none⟩ = some (.int .i64 hv) := by have := HS.out.2.1; simp [World.cell?, this]
    have v10 : w11.cell? ⟨w.heap.size + 1 + 1 + 1, 0, none⟩ = some (.int .i64 0) := by have := HS.out.2.2.1; simp [World.cell?, this]
    have hXe : Ext (λ k => w.heap.size <= k /\ k < w.heap.size + 5) wr w11 := ((HS.out.2.2.2.1.mono (S' := λ k => w.heap.size <= k /\ k < w.heap.size + 5) λ k hk e => by omega).trans HS.out.2.2.2.2.1 λ k hk e => by omega).trans HS.out.2.2.2.2.2 λ k hk e => by omega
    have hXt := HE.out.2.2.2.1.trans hXe λ k hk e => by omega
    have hTt := HE.out.2.2.2.2.1.ext hXe λ k hk e => by
     rcases HE.out.2.2.1 k hk with h | h
     . exact hnq k e.1 h
     . omega
    have HFin := zB (show vX w d l q { T with ps := allP ps css, live := zU (allP ps css) } (zS (allP ps css)) w11 from ⟨q7, HE.out.1, HE.out.2.1, λ j hj => (HE.out.2.2.1 j hj).imp id λ e => by omega, hXt, hTt⟩);clear hXe hXt hTt;refine leaves_cons (f := 93) (args := #[.pointer (some ⟨w.heap.size + 1, 0, none⟩), .pointer (some ⟨w.heap.size + 1 + 1, 0, none⟩), .pointer (some ⟨w.heap.size + 1 + 1 + 1, 0, none⟩)]) (by simp) (by simp [go_sem]) ?_;refine (catch_idle _ _ _ _).mono ?_;rintro e u' w'' ⟨rfl, rfl, rfl⟩;simp [Leaves, settle, results, Tryz.results51, go_sem, v8, v9, v10];exact ⟨by rw [HK.out, Hnb.out], HFin.out⟩
 . have hKm : (K : Int) <= (m : Int) := by omega
   have hKc : ¬ (cap : Int) < (K : Int) := by omega
   clear hmm hmf
   go_wp2_with fail
   go_loopw [32] (λ vi wr => ∃ i : Nat, vi = .int .i64 i /\ i <= R /\ RepI w d l q T ps css K (setV (setV (λ x => .nilFunc) 1 f1) 2 f2) (addK (addK [] 1) 2) i wr) (λ vi _ => R - (intOf vi).toNat)
   case atStart => exact ⟨0, rfl, Nat.zero_le _, HI10.out⟩
   case round =>
    obtain ⟨i, rfl, hi, hI⟩ := hrel;by_cases hiR : i < R
    . have hiR' : (i : Int) < (R : Int) := by omega
      obtain ⟨q7, e1, e2, e3, e4, e5, e6, e7, e8, e9, e10, e11⟩ := hI;rw [Hnb.out] at e8 e9;by_cases hib : i < nb
      . obtain ⟨cs, hci⟩ : ∃ c, css[i]? = some c := ⟨_, List.getElem?_eq_getElem (by rw [Hnb.out]; exact hib)⟩;have hrec : (wS ps css hv)[K + i]? = some (recB cs) := by
         unfold wS;rw [List.getElem?_append_right (by rw [wP, xA, HK.out]; omega), wP, xA, HK.out, Nat.add_sub_cancel_left, List.getElem?_append_left (by rw [List.length_map, Hnb.out]; exact hib), List.getElem?_map, hci];rfl
        obtain ⟨a', cap', ev, hel⟩ := HRS.out;obtain ⟨g', o', u, ea, ku, hsu, hgu, hbu⟩ := hel (K + i) _ hrec;injection ev with ev1 _ ev3;rw [<- ev1] at ea;injection ea with ea;injection ea with ea1 ea2;subst ea1 ea2;have ku : wr.cell? ⟨ga, oa + K + i, none⟩ = some u := by rw [Nat.add_assoc]; exact e4.cell_some ku hgu
        have hsu := xG hsu e4 λ j hj => (hbu j hj).2;obtain ⟨gu, ou, lu, cu, rfl, hlu, hcu⟩ : ∃ g o n c, u = .slice (some ⟨g, o, none⟩) n c /\ 0 < n /\ ∀ j y, (u8s (recB cs))[j]? = some y -> wr.cell? ⟨g, o + j, none⟩ = some y := by
         rcases hsu with ⟨g, o, c, e, -, h2⟩ | ⟨-, e⟩
         . exact ⟨g, o, _, c, e, by rw [zH]; exact iN cs, h2⟩
         . exfalso
           have := congrArg List.length e;rw [zH] at this;have hp : 0 < (recB cs).length := by exact iN cs
           simp only [List.length_nil] at this;omega
        clear hel ev1 ev3 hbu hgu;have hcl0 : wr.cell? ⟨gu, ou, none⟩ = some (.int .u8 1) := by
         have := hcu 0 (.int .u8 1) rfl
         rwa [Nat.add_zero] at this
        have hlk : Sem.run Tryz.prog (Instr.lookup 155 (.map (some (w.heap.size + 1 + 1 + 1 + 1))) (.int .u8 1) false) wr = .ok (.func (.func 94) #[] #[.pointer (some ⟨w.heap.size + 1 + 1, 0, none⟩), .pointer (some ⟨w.heap.size, 0, none⟩)]) wr := by
         rw [HF.out.1];exact e11.look 1 (by decide)
        have hne : ∀ w', Sem.run Tryz.prog (binOp .neq 154 (.func (.func 94) #[] #[.pointer (some ⟨w.heap.size + 1 + 1, 0, none⟩), .pointer (some ⟨w.heap.size, 0, none⟩)]) .nilFunc) w' = .ok (.bool true) w' := λ _ => rfl;obtain ⟨q0, q2, q3⟩ := HT.out.2.2.2.2.1 cs (List.mem_of_getElem? hci);have hsucc := allP_succ (ps := ps) hci;have hcap1 := HT.out.2.2.2.2.2.1 i (by rw [Hnb.out]; omega);have hcap2 := HT.out.2.2.2.2.2.1 (i + 1) (by rw [Hnb.out]; omega);have hfree : ∀ k, w.heap.size <= k -> k < w.heap.size + 5 -> ¬ q7.all k := λ k hk hk2 e => by
         rcases e3 k e with h | h
         . exact hnq k hk h
         . omega
        have hi0 : i - nb = 0 := by omega
        have him : min i nb = i := by omega
        rw [hi0] at e9;rw [him] at e8;have cBh : wr.cell? ⟨w.heap.size + 1 + 1, 0, none⟩ = some (.int .i64 0) := by simp [World.cell?, e9]
        have cBt : wr.cell? ⟨w.heap.size, 0, none⟩ = some (.pointer (some ⟨q7.t, 0, none⟩)) := by rw [e1]; simp [World.cell?, e7]
        have HBK := zB (batchK_any d l q7 _ cs (.slice (some ⟨gu, ou, none⟩) lu cu) (w.heap.size + 1 + 1) w.heap.size wr e5 rfl (show zU (allP ps (css.take i)) <= 1000000000 by omega) hsu q0 q2 q3 (show zU (xH (allP ps (css.take i)) cs) <= T.cap by rw [<- hsucc]; exact hcap2) hcl cBh cBt (hfree _ (Nat.le_refl _) (by omega)));have HE := zB (zC e1 (zC e2 (zC e3 (zC e4 (zC e6 (zC e7 (zC e8 (zC e9 (zC e10 (zC e11 hsucc))))))))));have hlu' : (0 : Int) < (lu : Int) := by omega
        have Hci := zB hci;have h5' : ∀ j, wr.frozen? ⟨w.heap.size + 1, j, none⟩ = false := λ j => by simp [World.frozen?, e8]
        clear e1 e2 e3 e4 e5 e6 e7 e8 e9 e10 e11 hsucc hsu hcu hci hcap1 hcap2 q0 q2 q3 hrec hi0 him cBt
        go_wp2_with fail
        refine (xZ _).mono ?_;rintro e w11 ⟨⟨t11, rfl⟩, rfl⟩
        go_wp2_with fail
        refine HBK.out.mono ?_;rintro e w12 ⟨⟨t12, rfl⟩, q8, p1, p2, p3, p4, p5⟩;have hk8 : ∀ k o, w.heap.size <= k -> k < w.heap.size + 5 -> wr.heap[k]? = some o -> w12.heap[k]? = some o := λ k o h1 h2 ho => (p4.block k (zI ho) (hfree k h1 h2)).trans ho;have y7 := hk8 _ _ (by omega) (by omega) HE.out.2.2.2.2.2.1;have y8 := hk8 _ _ (by omega) (by omega) HE.out.2.2.2.2.2.2.1;have y9 := hk8 _ _ (by omega) (by omega) HE.out.2.2.2.2.2.2.2.1;have y10 := hk8 _ _ (by omega) (by omega) HE.out.2.2.2.2.2.2.2.2.1;have z9 : w12.cell? ⟨w.heap.size + 1 + 1, 0, none⟩ = some (.int .i64 0) := by simp [World.cell?, y9]
        have z8 : w12.cell? ⟨w.heap.size + 1, 0, none⟩ = some (.int .i64 ((K + i : Nat) : Int)) := by simp [World.cell?, y8]
        have zf : w12.frozen? ⟨w.heap.size + 1, 0, none⟩ = false := by simp [World.frozen?, y8]
        have hset := yB (j := 0) y8 (.int .i64 ((K : Int) + (i : Int) + 1));have hXs : Ext (· = w.heap.size + 1) w12 (w12.setCell ⟨w.heap.size + 1, 0, none⟩ (.int .i64 ((K : Int) + (i : Int) + 1))) := Ext.setCell (S := (· = w.heap.size + 1)) (p := ⟨w.heap.size + 1, 0, none⟩) rfl _;have HS := zB (zC hset (zC hXs (zC y7 (zC y9 (zC y10 (zC p1 (zC p2 (zC p3 (zC p4 p5)))))))));clear hset hXs y7 y8 y9 y10 p1 p2 p3 p4 p5
        go_wp2_with fail
        refine ⟨⟨i + 1, by simp, by omega, q8, HS.out.2.2.2.2.2.1.trans HE.out.1, HS.out.2.2.2.2.2.2.1.trans HE.out.2.1, λ j hj => ?_, ?_, ?_, ?_, ?_, ?_, ?_, ?_, ?_⟩, ?_⟩
        . rcases HS.out.2.2.2.2.2.2.2.1 j hj with h | h
          . exact HE.out.2.2.1 j h
          . have := HE.out.2.2.2.2.1; exact .inr (by omega)
        . exact (HE.out.2.2.2.1.trans HS.out.2.2.2.2.2.2.2.2.1 λ k hk h => (HE.out.2.2.1 k h).elim id λ h => by omega).trans HS.out.2.1 λ k hk h => by omega
        . have h5 := HS.out.2.2.2.2.2.2.2.2.2.ext HS.out.2.1 λ k hk h => by
           rcases HS.out.2.2.2.2.2.2.2.1 k hk with h1 | h1
           . exact hfree k (by omega) (by omega) h1
           . have := HE.out.2.2.2.2.1; omega
          rw [HE.out.2.2.2.2.2.2.2.2.2.2];exact h5
        . have h1 := HE.out.2.2.2.2.1;have h2 := HS.out.2.2.2.2.2.2.2.2.1.size;have h3 := HS.out.2.1.size;omega
        . exact (HS.out.2.1.block _ (zI HS.out.2.2.1) (by omega)).trans HS.out.2.2.1
        . rw [HS.out.1, show min (i + 1) css.length = i + 1 by rw [Hnb.out]; omega];simp;omega
        . rw [show i + 1 - css.length = 0 by rw [Hnb.out]; omega];exact (HS.out.2.1.block _ (zI HS.out.2.2.2.1) (by omega)).trans HS.out.2.2.2.1
        . exact (HS.out.2.1.block _ (zI HS.out.2.2.2.2.1) (by omega)).trans HS.out.2.2.2.2.1
        . have hm1 := HE.out.2.2.2.2.2.2.2.2.2.1;have hl1 := hm1.lt;have hm2 := hm1.keep (HS.out.2.2.2.2.2.2.2.2.1.block _ hl1 (hfree _ (by omega) (by omega)));exact hm2.keep (HS.out.2.1.block _ hm2.lt (by omega))
        . show R - ((i : Int) + 1).toNat < R - (i : Int).toNat;omega
      . obtain ⟨hq, hqd⟩ : ∃ h, i - nb = h := ⟨_, rfl⟩;have hqv : hq < hv := by have := hRn.out; omega
        have htk : css.take i = css := List.take_of_length_le (by rw [Hnb.out]; omega);have hrec : (wS ps css hv)[K + i]? = some (yO (wI (allP ps css)) hq) := by
         unfold wS;rw [List.getElem?_append_right (by rw [wP, xA, HK.out]; omega), wP, xA, HK.out, Nat.add_sub_cancel_left, List.getElem?_append_right (by rw [List.length_map, Hnb.out]; omega), List.length_map, Hnb.out, hqd, List.getElem?_map];simp [hqv]
        rw [htk] at e5;have hcapA := HT.out.2.2.2.2.2.1 css.length (Nat.le_refl _);rw [List.take_length] at hcapA;have hhp := HT.out.2.2.2.2.2.2;have hplp := tO (wI (allP ps css)) hq (by have := wJ (zU (allP ps css)); omega) (by rw [xA]; omega);obtain ⟨a', cap', ev, hel⟩ := HRS.out;obtain ⟨g', o', u, ea, ku, hsu, hgu, hbu⟩ := hel (K + i) _ hrec;injection ev with ev1 _ ev3;rw [<- ev1] at ea;injection ea with ea;injection ea with ea1 ea2;subst ea1 ea2;have ku : wr.cell? ⟨ga, oa + K + i, none⟩ = some u := by rw [Nat.add_assoc]; exact e4.cell_some ku hgu
        have hsu := xG hsu e4 λ j hj => (hbu j hj).2;obtain ⟨gu, ou, lu, cu, rfl, hlu, hcu⟩ : ∃ g o n c, u = .slice (some ⟨g, o, none⟩) n c /\ 0 < n /\ ∀ j y, (u8s (yO (wI (allP ps css)) hq))[j]? = some y -> wr.cell? ⟨g, o + j, none⟩ = some y := by
         rcases hsu with ⟨g, o, c, e, -, h2⟩ | ⟨-, e⟩
         . exact ⟨g, o, _, c, e, by rw [zH]; omega, h2⟩
         . exfalso
           have := congrArg List.length e;rw [zH] at this;have hp : 0 < (yO (wI (allP ps css)) hq).length := by omega
           simp only [List.length_nil] at this;omega
        clear hel ev1 ev3 hbu hgu;have hpb0 : ∃ l, yO (wI (allP ps css)) hq = 2 :: l := ⟨_, by rw [mQ]; simp only [vQ, List.cons_append]; rfl⟩;have hcl0 : wr.cell? ⟨gu, ou, none⟩ = some (.int .u8 2) := by
         obtain ⟨l, hl⟩ := hpb0;have := hcu 0 (.int .u8 2) (by rw [hl]; rfl)
         rwa [Nat.add_zero] at this
        have hlk : Sem.run Tryz.prog (Instr.lookup 155 (.map (some (w.heap.size + 1 + 1 + 1 + 1))) (.int .u8 2) false) wr = .ok (.func (.func 97) #[] #[.pointer (some ⟨w.heap.size, 0, none⟩), .pointer (some ⟨w.heap.size + 1 + 1, 0, none⟩)]) wr := by
         rw [HF.out.2];exact e11.look 2 (by decide)
        have hne : ∀ w', Sem.run Tryz.prog (binOp .neq 154 (.func (.func 97) #[] #[.pointer (some ⟨w.heap.size, 0, none⟩), .pointer (some ⟨w.heap.size + 1 + 1, 0, none⟩)]) .nilFunc) w' = .ok (.bool true) w' := λ _ => rfl;have hfree : ∀ k, w.heap.size <= k -> k < w.heap.size + 5 -> ¬ q7.all k := λ k hk hk2 e => by
         rcases e3 k e with h | h
         . exact hnq k hk h
         . omega
        have him : min i nb = nb := by omega
        rw [him] at e8;rw [hqd] at e9;have cBt : wr.cell? ⟨w.heap.size, 0, none⟩ = some (.pointer (some ⟨q7.t, 0, none⟩)) := by rw [e1]; simp [World.cell?, e7]
        have HBK := zB (partK_any d l q7 _ hq (.slice (some ⟨gu, ou, none⟩) lu cu) w.heap.size (w.heap.size + 1 + 1) wr e5 rfl (show zU (allP ps css) <= 1000000000 by omega) (show hq < yF (zU (allP ps css)) by omega) hsu e9 cBt);have HE := zB (zC e1 (zC e2 (zC e3 (zC e4 (zC e6 (zC e7 (zC e8 (zC e5 (zC e10 e11)))))))));have hlu' : (0 : Int) < (lu : Int) := by omega
        clear e1 e2 e3 e4 e5 e6 e7 e8 e9 e10 e11 hsu hcu hcapA hhp hrec him cBt htk hplp hpb0
        go_wp2_with fail
        refine (xZ _).mono ?_;rintro e w11 ⟨⟨t11, rfl⟩, rfl⟩
        go_wp2_with fail
        refine HBK.out.mono ?_;rintro e w12 ⟨⟨t12, rfl⟩, p4, p5⟩;have z9 : w12.cell? ⟨w.heap.size + 1 + 1, 0, none⟩ = some (.int .i64 ((hq : Int) + 1)) := by simp [World.cell?, p5]
        have hqz : ((hq : Int) + 1 == 0) = false := by rw [beq_eq_false_iff_ne]; omega
        have HP := zB (zC p4 p5);clear p4 p5
        go_wp2_with fail
        have hk8 : ∀ k o, k ≠ w.heap.size + 1 + 1 -> wr.heap[k]? = some o -> w12.heap[k]? = some o := λ k o h1 ho => (HP.out.1.block k (zI ho) h1).trans ho;have htk2 : css.take (i + 1) = css := List.take_of_length_le (by rw [Hnb.out]; omega);refine ⟨⟨i + 1, by simp, by omega, q7, HE.out.1, HE.out.2.1, HE.out.2.2.1, ?_, ?_, ?_, ?_, ?_, ?_, ?_, ?_⟩, ?_⟩
        . exact HE.out.2.2.2.1.trans HP.out.1 λ k hk h => by omega
        . rw [htk2];exact HE.out.2.2.2.2.2.2.2.1.ext HP.out.1 λ k hk h => hfree k (by omega) (by omega) hk
        . exact Nat.le_trans HE.out.2.2.2.2.1 HP.out.1.size
        . exact hk8 _ _ (by omega) HE.out.2.2.2.2.2.1
        . rw [show min (i + 1) css.length = nb by rw [Hnb.out]; omega];exact hk8 _ _ (by omega) HE.out.2.2.2.2.2.2.1
        . rw [show i + 1 - css.length = hq + 1 by rw [Hnb.out]; omega];exact HP.out.2
        . exact hk8 _ _ (by omega) HE.out.2.2.2.2.2.2.2.2.1
        . exact HE.out.2.2.2.2.2.2.2.2.2.keep (HP.out.1.block _ HE.out.2.2.2.2.2.2.2.2.2.lt (by omega))
        . show R - ((i : Int) + 1).toNat < R - (i : Int).toNat;omega
    . obtain rfl : i = R := by omega
      have hiR' : ¬ (i : Int) < (i : Int) := by omega
      have htk : css.take i = css := List.take_of_length_le (by rw [Hnb.out]; have := hRn.out; omega);obtain ⟨q7, e1, e2, e3, e4, e5, e6, e7, e8, e9, e10, e11⟩ := hI;rw [Hnb.out] at e8 e9;rw [htk] at e5;have him : min i nb = nb := by have := hRn.out; omega
      have hih : i - nb = hv := by have := hRn.out; omega
      rw [him] at e8;rw [hih] at e9;have x8 : wr.cell? ⟨w.heap.size + 1, 0, none⟩ = some (.int .i64 ((K + nb : Nat) : Int)) := by simp [World.cell?, e8]
      have x9 : wr.cell? ⟨w.heap.size + 1 + 1, 0, none⟩ = some (.int .i64 hv) := by simp [World.cell?, e9]
      have HE := zB (zC e1 (zC e2 (zC e3 (zC e4 (zC e5 (zC e6 (zC e8 (zC e9 e10))))))));clear e1 e2 e3 e4 e5 e6 e7 e8 e9 e10 e11 him hih htk
      go_wp2_with fail
      refine vY 3 [1] (λ _ => none) (λ w' => w'.cell? ⟨w.heap.size + 1 + 1, 0, none⟩ = some (.int .i64 hv)) (λ _ w' => w'.heap[w.heap.size + 1]? = some (.cells #[.int .i64 ((K + nb : Nat) : Int)] 3 (0, 0)) /\ Ext (· = w.heap.size + 1) wr w') fol (by kernel_rfl) (λ b1 _ hb w' h => zG (zF hb h) x9) (λ W2 hW2 hh => ?_);clear hh;simp only [fT];have r8 := zV hW2 x8
      iterate 2 ((first | (refine mO _ (by first | exact .inl rfl | exact .inr rfl) (by first | exact .inl rfl | exact .inr rfl) rfl ?_) | (refine sI ?_ rfl rfl (λ w1 hb1 hf1 => ?_) ?_; rotate_left; (go_simp; (try simp (disch := omega) only [zE, toNatUp, iteOmega]); (try go_simp); rfl)) | (refine jP ?_ rfl rfl (λ w1 hcb1 => ?_) ?_; rotate_left; ((try dsimp only at hcb1); go_simp; (try simp (disch := omega) only [zE, toNatUp, iteOmega]); (try go_simp); rfl))); simp only [zD])
      have g8 := zK hW2 HE.out.2.2.2.2.2.2.1;have gf8 : W2.frozen? ⟨w.heap.size + 1, 0, none⟩ = false := by simp [World.frozen?, g8]
      have gc8 : W2.cell? ⟨w.heap.size + 1, 0, none⟩ = some (.int .i64 ((K + nb : Nat) : Int)) := by simp [World.cell?, g8]
      refine jA _ rfl rfl ?_ ?_
      . have hset := yB (j := 0) g8 (.int .i64 ((K + nb : Nat) : Int));have hXs : Ext (· = w.heap.size + 1) W2 (W2.setCell ⟨w.heap.size + 1, 0, none⟩ (.int .i64 ((K + nb : Nat) : Int))) := Ext.setCell (S := (· = w.heap.size + 1)) (p := ⟨w.heap.size + 1, 0, none⟩) rfl _;have hc9 := hXs.cell_some (zG hW2 x9) (by simp);have HS := zB (zC hset (zC ((Ext.of_below (S := (· = w.heap.size + 1)) hW2).trans hXs λ _ _ h => h) hc9));clear hset hXs hc9
        (unfold yE; go_simp; simp only [zN])
        have hcast : ((K : Int) + (nb : Int)) = ((K + nb : Nat) : Int) := by simp
        rw [hcast];exact ⟨HS.out.2.2, HS.out.1, HS.out.2.1⟩
      rintro v9 w9 hcb ⟨h1, h2⟩;simp only [zD];refine rl_nil ?_;have j9 := (h2.block _ (zI HE.out.2.2.2.2.2.2.2.1) (by omega)).trans HE.out.2.2.2.2.2.2.2.1;have j10 := (h2.block _ (zI HE.out.2.2.2.2.2.2.2.2) (by omega)).trans HE.out.2.2.2.2.2.2.2.2;have m9 : w9.cell? ⟨w.heap.size + 1 + 1, 0, none⟩ = some (.int .i64 hv) := by simp [World.cell?, j9]
      have m10 : w9.cell? ⟨w.heap.size + 1 + 1 + 1, 0, none⟩ = some (.int .i64 0) := by simp [World.cell?, j10]
      have n9 : w9.frozen? ⟨w.heap.size + 1 + 1, 0, none⟩ = false := by simp [World.frozen?, j9]
      have n10 : w9.frozen? ⟨w.heap.size + 1 + 1 + 1, 0, none⟩ = false := by simp [World.frozen?, j10]
      have hX2 : Ext (· = w.heap.size + 1 + 1) w9 (w9.setCell ⟨w.heap.size + 1 + 1, 0, none⟩ (.int .i64 hv)) := Ext.setCell (S := (· = w.heap.size + 1 + 1)) (p := ⟨w.heap.size + 1 + 1, 0, none⟩) rfl _;have hX3 : Ext (· = w.heap.size + 1 + 1 + 1) (w9.setCell ⟨w.heap.size + 1 + 1, 0, none⟩ (.int .i64 hv)) ((w9.setCell ⟨w.heap.size + 1 + 1, 0, none⟩ (.int .i64 hv)).setCell ⟨w.heap.size + 1 + 1 + 1, 0, none⟩ (.int .i64 0)) := Ext.setCell (S := (· = w.heap.size + 1 + 1 + 1)) (p := ⟨w.heap.size + 1 + 1 + 1, 0, none⟩) rfl _;have s9 := yB (j := 0) j9 (.int .i64 hv);have s10 := yB (j := 0) ((hX2.block _ (zI j10) (by omega)).trans j10) (.int .i64 0);have s9' := (hX3.block _ (zI s9) (by omega)).trans s9;have s8' := (hX3.block _ (Nat.lt_of_lt_of_le (zI h1) hX2.size) (by omega)).trans ((hX2.block _ (zI h1) (by omega)).trans h1);have HS := zB (zC s8' (zC s9' (zC s10 (zC h2 (zC hX2 hX3)))));clear j9 j10 hX2 hX3 s9 s10 s9' s8' h1 h2 r8 g8 gf8 gc8 x8 x9 hcb
      go_wp2_with fail
      generalize w9.setCell ⟨w.heap.size + 1 + 1, 0, none⟩ (.int .i64 hv) = w10 at HS ⊢;generalize w10.setCell ⟨w.heap.size + 1 + 1 + 1, 0, none⟩ (.int .i64 0) = w11 at HS ⊢;clear m9 m10 n9 n10;have v8 : w11.cell? ⟨w.heap.size + 1, 0, none⟩ = some (.int .i64 ((K + nb : Nat) : Int)) := by have := HS.out.1; simp [World.cell?, this]
      have v9 : w11.cell? ⟨w.heap.size + 1 + 1, 0, none⟩ = some (.int .i64 hv) := by have := HS.out.2.1; simp [World.cell?, this]
      have v10 : w11.cell? ⟨w.heap.size + 1 + 1 + 1, 0, none⟩ = some (.int .i64 0) := by have := HS.out.2.2.1; simp [World.cell?, this]
      have hXe : Ext (λ k => w.heap.size <= k /\ k < w.heap.size + 5) wr w11 := ((HS.out.2.2.2.1.mono (S' := λ k => w.heap.size <= k /\ k < w.heap.size + 5) λ k hk e => by omega).trans HS.out.2.2.2.2.1 λ k hk e => by omega).trans HS.out.2.2.2.2.2 λ k hk e => by omega
      have hXt := HE.out.2.2.2.1.trans hXe λ k hk e => by omega
      have hTt := HE.out.2.2.2.2.1.ext hXe λ k hk e => by
       rcases HE.out.2.2.1 k hk with h | h
       . exact hnq k e.1 h
       . omega
      have HFin := zB (show vX w d l q { T with ps := allP ps css, live := zU (allP ps css) } (zS (allP ps css)) w11 from ⟨q7, HE.out.1, HE.out.2.1, λ j hj => (HE.out.2.2.1 j hj).imp id λ e => by omega, hXt, hTt⟩);clear hXe hXt hTt;refine leaves_cons (f := 93) (args := #[.pointer (some ⟨w.heap.size + 1, 0, none⟩), .pointer (some ⟨w.heap.size + 1 + 1, 0, none⟩), .pointer (some ⟨w.heap.size + 1 + 1 + 1, 0, none⟩)]) (by simp) (by simp [go_sem]) ?_;refine (catch_idle _ _ _ _).mono ?_;rintro e u' w'' ⟨rfl, rfl, rfl⟩;simp [Leaves, settle, results, Tryz.results51, go_sem, v8, v9, v10];exact ⟨by rw [HK.out, Hnb.out], HFin.out⟩
theorem below_of_ext {w w' : World} {g : Nat} (hX : Ext (· = g) w w') (h : w'.heap[g]? = w.heap[g]?) : Below w.heap.size w w' := by
 refine ⟨hX.os, hX.tape, hX.output, hX.size, λ k hk => ?_⟩;by_cases e : k = g
 . rw [e]; exact h
 . exact hX.block k hk e
theorem falls_still (d first size : Nat) (k : LBk) (L : LogS) (w : World) (h : tH w d first size k L) (hf : L.fallen = false) :
 Calls Tryz.prog 87 #[.pointer (some ⟨k.l, 0, none⟩), .bool false] w λ e w' => e = .returned (.int .i64 0) /\ Below w.heap.size w w' := by
 refine (pE d first size k L false w h).mono ?_;rintro e w' ⟨rfl, hL, hX⟩;refine ⟨by rw [hf]; rfl, below_of_ext hX ?_⟩;have e2 : L.fall false = L := by unfold LogS.fall; rw [Bool.or_false]
 rw [e2] at hL;exact hL.cells.trans h.cells.symm
theorem jR (b : Bks) (x : Dsk) (N first size : Nat) (k : LBk) (L : LogS) (w : World) (h : LSys w b x N first size k L) (hf : L.fallen = false) (ho : x.off = false) :
 Calls Tryz.prog 84 #[.pointer (some ⟨k.l, 0, none⟩)] w λ e w' => e = .returned (.int .i64 0) /\ Below w.heap.size w w' := by
 obtain ⟨c0, -⟩ := h.log.cs;have hd := kK b x w h.sys.dsk.head;rw [ho] at hd;have HD := zB hd;have HF := zB (falls_still b.d first size k L w h.log hf);clear h hd hf ho;go_enter Tryz.func84, Tryz.ntmps84
 go_wp2_with fail
 refine HD.out.mono ?_;rintro e w' ⟨rfl, rfl⟩
 go_wp2_with fail
 refine HF.out.mono ?_;rintro e w2 ⟨rfl, hB⟩
 go_wp2_with fail
 go_ret
 exact ⟨rfl, hB⟩
theorem lread_still (b : Bks) (x : Dsk) (N first size : Nat) (k : LBk) (L : LogS) (n : Nat) (hn : n <= 9223372036854775807) (w : World) (h : LSys w b x N first size k L) (hr : L.starts.Pairwise (· < ·)) (hs : L.starts.length <= 65536) (hfl : L.fallen = false) (hoff : x.off = false) :
 Calls Tryz.prog 92 #[.pointer (some ⟨k.l, 0, none⟩), .int .u64 n] w λ e w' => LReadPost (lreadR x first size L n) w.heap.size e w' /\ Below w.heap.size w w' := by
 have HR := zB (jR b x N first size k L w h hfl hoff);have HS0 := zB h;have Hf0 := zB (zC hfl hoff);clear h hfl hoff;go_enter Tryz.func92, Tryz.ntmps92
 go_wp2_with fail
 refine HR.out.mono ?_;rintro e w1 ⟨rfl, hB1⟩;have hS1 := HS0.out.below hB1
 . have hcs := hS1.log.cs;obtain ⟨y0, y1, y2, -, y4, -, -, -, y8, -⟩ := hcs;obtain ⟨sa, sc, hks, -⟩ := zP hS1.log.starts;rw [hks] at y8;have HBS := zB (nN k.s L.starts hr n w1 (Src.of_owns hS1.log.starts) (by omega));rw [hks] at HBS;have hf : (L.fallen || x.off) = false := by rw [Hf0.out.1, Hf0.out.2]; rfl
   have hrr : lreadR x first size L n = if n ∈ L.starts then (match xL x first size n 0 L.head.epoch with
    | .ok d => .ok d.1
    | .error c => .error c) else .error 4 := by unfold lreadR; rw [if_neg (by rw [hf]; decide)]; rfl
   have Hrr := zB hrr;have HS1 := zB (zC hS1 hB1);clear hf hS1 hB1 hrr hks
   go_wp2_with fail
   refine HBS.out.mono ?_;rintro e w2 ⟨rfl, hB2⟩;have HS2 := zB (HS1.out.1.below hB2);have y0 := zG hB2 y0;have y1 := zG hB2 y1;have y2 := zG hB2 y2;have y4 : w2.cell? ⟨k.l, 4, none⟩ = some (.int .u64 (L.head.epoch : Int)) := zG hB2 y4;have HB2 := zB hB2;by_cases hin : n ∈ L.starts
   . rw [decide_eq_true hin];have Hr2 := zB (Hrr.out.trans (if_pos hin));clear hin hB2 y8;have HRe := zB λ w' (hw : Below w2.heap.size w2 w') => record_any b x first size n 0 L.head.epoch hn HS2.out.big HS2.out.fit w' ((HS2.out.below hw).sys.dsk) HS2.out.sys.ok.ok ((HS2.out.below hw).sys.pkg);unfold vH at HRe;generalize hRc : xL x first size n 0 L.head.epoch = rc at HRe Hr2;clear hRc
     go_wp2_with fail
     cases rc with
     | error c =>
      refine zY (λ i => if i = 10 then some (λ v _ => c ≠ 0 /\ v = .tuple #[.slice none 0 0, .int .u64 0, .int .i64 c]) else none) fol (by kernel_rfl) (λ W hW hh => ?_);clear hh;have q0 := zV hW y0;have q1 := zV hW y1;have q2 := zV hW y2;have q4 := zV hW y4
      repeat ((first | refine lxM ?_ | refine lxF ?_ | refine zM rfl ?_); simp only [zD])
      refine zW _ rfl (λ _ _ _ h _ => h) rfl (λ w1 hb1 hf1 => ?_) ?_
      . (unfold yE; go_simp; simp only [zN])
        refine (HRe.out _ (zF hW hb1)).mono ?_;rintro e w' ⟨hpost, hbb⟩;obtain ⟨hc, rfl⟩ : c ≠ 0 /\ e = _ := hpost;exact ⟨_, rfl, hbb, hc, rfl⟩
      rintro v10 W4 hB10 ⟨hc, rfl⟩;simp only [zD]
      repeat ((first | refine lxM ?_ | refine lxF ?_ | refine zM rfl ?_); simp only [zD])
      refine zZ ?_;clear q0 q1 q2 q4;have hB4 := zF HB2.out (zF hW hB10)
      go_wp2_with fail
      go_ret2
      rw [Hr2.out];exact ⟨⟨hc, rfl⟩, HS1.out.2.trans (hB4.mono HS1.out.2.size)⟩
     | ok d =>
      refine zY (λ i => if i = 10 then some (λ v w' => ∃ g o l c, v = .tuple #[.slice (some ⟨g, o, none⟩) l c, .int .u64 d.2, .int .i64 0] /\ Win w' w2.heap.size (.slice (some ⟨g, o, none⟩) l c) (u8s d.1)) else none) fol (by kernel_rfl) (λ W hW hh => ?_);clear hh;have q0 := zV hW y0;have q1 := zV hW y1;have q2 := zV hW y2;have q4 := zV hW y4
      repeat ((first | refine lxM ?_ | refine lxF ?_ | refine zM rfl ?_); simp only [zD])
      refine zW _ rfl (by exact λ _ _ _ ⟨g, o, l, c, h1, h2⟩ hb => ⟨g, o, l, c, h1, h2.below hb⟩) rfl (λ w1 hb1 hf1 => ?_) ?_
      . (unfold yE; go_simp; simp only [zN])
        have hsz := (zF hW hb1).size;refine (HRe.out _ (zF hW hb1)).mono ?_;rintro e w' ⟨⟨u, rfl, hw⟩, hbb⟩;obtain ⟨g, o, l, c, rfl⟩ := hw.shape;exact ⟨_, rfl, hbb, g, o, l, c, rfl, hw.base hsz⟩
      rintro v10 W4 hB10 ⟨g, o, l, c, rfl, hw⟩;simp only [zD]
      repeat ((first | refine lxM ?_ | refine lxF ?_ | refine zM rfl ?_); simp only [zD])
      refine zZ ?_;clear q0 q1 q2 q4;have hB4 := zF HB2.out (zF hW hB10);have hws : w.heap.size <= w2.heap.size := Nat.le_trans HS1.out.2.size HB2.out.size
      go_wp2_with fail
      go_ret2
      rw [Hr2.out];exact ⟨⟨_, rfl, hw.base hws⟩, HS1.out.2.trans (hB4.mono HS1.out.2.size)⟩
   . rw [decide_eq_false hin];have Hr2 := zB (Hrr.out.trans (if_neg hin));clear hin y0 y1 y2 y4 y8 hB2
     go_wp2_with fail
     go_ret2
     rw [Hr2.out];exact ⟨⟨by decide, rfl⟩, HS1.out.2.trans (HB2.out.mono HS1.out.2.size)⟩
end Go.Proofs.YtbjofbhhnmehgaaGreatDoor.TT
namespace Go.RG
open Go.RowKit
def SeqO {α : Type} (F : Fence) (n : Nat) (P : Program) (g : Nat) (lb : Array Value) (encs : α -> Array Value) (Kp : World -> World -> Prop) (S Sp : List α -> Prop) (Ok : List α -> α -> Prop) (w : World) : Prop :=
 ∀ (l : Nat) (J Jx : List α -> World -> Prop) (W : World), Below w.heap.size w W -> OwnFrom W.heap.size J -> OwnFrom W.heap.size Jx ->
  (∀ pre x W1, J pre W1 -> Ok pre x -> YieldAt F (n - 1) P l (encs x) W1 λ e W' =>
   (e = .returned (.bool true) /\ J (pre ++ [x]) W' /\ Kp W1 W' /\ KeepsFrom W.heap.size W1 W') \/ (e = .returned (.bool false) /\ Jx (pre ++ [x]) W' /\ KeepsFrom W.heap.size W1 W')) ->
  J [] W ->
  CallsIn F n P g (#[.func (.yield l) #[] #[]] ++ lb) W λ e W' => (∃ v, e = .returned v) /\ ((∃ xs, S xs /\ J xs W') \/ (∃ pre, Sp pre /\ Jx pre W'))
theorem KeepsFrom.up {B B' : Nat} {W W' : World} (h : KeepsFrom B W W') (hB : B <= B') : KeepsFrom B' W W' := ⟨h.size, λ k o hk => h.same k o (Nat.le_trans hB hk)⟩
section
variable {F : Fence} {n : Nat} {P : Program}
end
end Go.RG
namespace Go.RG
open Go.RowKit
def SeqX {α : Type} (F : Fence) (n : Nat) (P : Program) (g : Nat) (lb : Array Value) (encs : α -> Array Value) (Kp : α -> World -> World -> Prop) (S Sp : List α -> Prop) (Ok : List α -> α -> World -> Prop) (w : World) : Prop :=
 ∀ (l : Nat) (J Jx : List α -> World -> Prop) (W : World), Below w.heap.size w W -> OwnFrom W.heap.size J -> OwnFrom W.heap.size Jx ->
  (∀ pre x W1, J pre W1 -> Ok pre x W1 -> YieldAt F (n - 1) P l (encs x) W1 λ e W' =>
   (e = .returned (.bool true) /\ J (pre ++ [x]) W' /\ Kp x W1 W' /\ KeepsFrom W.heap.size W1 W') \/ (e = .returned (.bool false) /\ Jx (pre ++ [x]) W' /\ KeepsFrom W.heap.size W1 W')) ->
  J [] W ->
  CallsIn F n P g (#[.func (.yield l) #[] #[]] ++ lb) W λ e W' => (∃ v, e = .returned v) /\ ((∃ xs, S xs /\ J xs W') \/ (∃ pre, Sp pre /\ Jx pre W'))
section
variable {F : Fence} {n : Nat} {P : Program}
theorem jK {α : Type} {g : Operand} {ps : Array Tmp} {assign body : Code} {Q : Exit -> Act -> World -> Prop} {a : Act} {w : World}
 (hro : F.round = none) (h1 : 1 <= n) {gf : Nat} {lb : Array Value} (hg : a.eval g = .func (.func gf) #[] lb) (hFg : F.fn gf) (eg : ∀ args w, (callFunc gf args).run P w = .ok (.enter gf args) w)
 {encs : α -> Array Value} {Kp : α -> World -> World -> Prop} {S Sp : List α -> Prop} {Ok : List α -> α -> World -> Prop} {w0 : World} (hseq : SeqX F (n - 1) P gf lb encs Kp S Sp Ok w0)
 (hKt : ∀ {x : α} {A B C : World}, Kp x A B -> Kp x B C -> Kp x A C) (hKb : ∀ (x : α) (W : World) (l : Nat) (o o' : Obj), w.heap.size <= l -> W.heap[l]? = some o -> o.isCells = false -> o.isWalk = false -> Kp x W (W.putObj l o')) (hb0 : Below w0.heap.size w0 w) (hps : ∀ x, (encs x).size = ps.size)
 (I : List α -> World -> Prop) (Ix : Code -> List α -> World -> Prop) (hI : OwnFrom w.heap.size I) (hIx : ∀ c, OwnFrom w.heap.size (Ix c)) (h0 : I [] w) (Ax : List α -> α -> Act -> World -> Prop) (hAx : ∀ pre x a', OwnFrom w.heap.size (λ (_ : Unit) W => Ax pre x a' W))
 (hassign : ∀ (l : Nat) (pre : List α) (x : α) (W : World) (K : Act -> World -> Prop), I pre W -> Ok pre x W -> (∀ a' W', KeepsFrom w.heap.size W W' -> Kp x W W' -> I pre W' -> Ax pre x a' W' -> K a' W') ->
  assign.wpIn (F.inRound l) (n - 1 - 1) P (Exit.then K (λ _ _ _ => False)) { tmps := (ps.zip (encs x)).foldl (λ t (p, v) => t.setIfInBounds p v) a.tmps, defers := [] } W)
 (hbody : ∀ (l : Nat) (pre : List α) (x : α) (a' : Act) (W : World), w.heap.size <= l -> (∃ r, W.heap[l]? = some (.loop r)) -> I pre W -> Ax pre x a' W -> body.wpIn (F.inRound l) (n - 1 - 1) P (ownPostG w.heap.size (Kp x) I Ix (pre ++ [x]) W) a' W)
 (hdone : ∀ (D : Nat) (xs : List α) (W : World), w.heap.size <= D -> S xs -> I xs W -> W.heap[D]? = some (.deferred (some [])) -> Q .normal { a with defers := { target := .collected D, args := #[] } :: a.defers } W)
 (hstop : ∀ (D : Nat) (c : Code) (pre : List α) (W : World), w.heap.size <= D -> Sp pre -> Ix c pre W -> W.heap[D]? = some (.deferred (some [])) -> c.wpIn F n P Q { a with defers := { target := .collected D, args := #[] } :: a.defers } W) :
 (Code.rangeFunc g ps assign body).wpIn F n P Q a w := by
 refine wpIn_rangeFunc ?_;intro fn hfn;rw [hro]
 -- the loop's record lies at L, the block for the rounds' deferred calls at D
 obtain ⟨D, hD⟩ : ∃ D, D = w.heap.size := ⟨_, rfl⟩;obtain ⟨rc, hrc⟩ : ∃ rc : LoopState -> Option Code -> Loop, rc = λ st pe => { state := st, pending := pe, fn, tmps := a.tmps, params := ps, assign, body, defers := D } := ⟨_, rfl⟩;obtain ⟨V, hV⟩ : ∃ V, (w.alloc (.deferred (some []))).alloc (.loop (rc .ready none)) = V := ⟨_, rfl⟩;have vL : V.heap[D + 1]? = some (.loop (rc .ready none)) := by
  rw [<- hV, hD];have := World.alloc_heap_new (w.alloc (.deferred (some []))) (.loop (rc .ready none))
  rwa [World.size_alloc] at this
 have vD : V.heap[D]? = some (.deferred (some [])) := by
  rw [<- hV, hD];exact (Below.heap_alloc _ _ _ (by simp)).trans (World.alloc_heap_new w _)
 have vI : I [] V := by rw [<- hV]; exact hI.alloc _ (hI.alloc _ h0)
 have vB : Below w0.heap.size w0 V := by
  rw [<- hV];exact hb0.trans ((((Below.refl _ w).alloc (Nat.le_refl _) _).alloc (by simp) _).mono hb0.size)
 have vz : D + 1 < V.heap.size := (Array.getElem?_eq_some_iff.1 vL).1;refine ⟨D + 1, [{ target := .collected D, args := #[] }], V, { target := .fn (.func gf) lb, args := #[.func (.yield (D + 1)) #[] #[]] }, V, gf, #[.func (.yield (D + 1)) #[] #[]] ++ lb, V, ?_, ?_, ?_, ?_, λ _ => h1, ?_⟩
 . rw [<- hV, hrc, hD];exact run_enterLoop_outer _ _ _ _ _
 . simp only [resolve, hg];simp [go_sem]
 . intro f' hf';simp [Target.leads] at hf';subst hf';exact hFg
 . simp [invoke, go_sem, eg]
 . -- a block that lies where it lay: the record, the deferred calls' block
   have stay : ∀ {A B : World} {row : Option Nat} {k : Nat} {o : Obj}, A.heap[k]? = some o -> k < V.heap.size -> A.grownBy B row -> (∀ r, row = some r -> V.heap.size <= r /\ ∃ o : Obj, A.heap[r]? = some o /\ o.isCells = false) -> B.heap[k]? = some o :=
    λ hk hlt hg hr => (hg.block _ (Array.getElem?_eq_some_iff.1 hk).1 (λ e => by have := (hr _ e.symm).1; omega)).trans hk
   have up : ∀ {A : World} {row : Option Nat}, (∀ r, row = some r -> V.heap.size <= r /\ ∃ o : Obj, A.heap[r]? = some o /\ o.isCells = false) -> ∀ r, row = some r -> w.heap.size <= r /\ ∃ o : Obj, A.heap[r]? = some o /\ o.isCells = false :=
    λ hr r e => ⟨by have := (hr r e).1; omega, (hr r e).2⟩
   refine (hseq (D + 1) (λ pre W => I pre W /\ W.heap[D + 1]? = some (.loop (rc .ready none)) /\ W.heap[D]? = some (.deferred (some [])))
    (λ pre W => ∃ c, Ix c pre W /\ W.heap[D + 1]? = some (.loop (rc .done (some c))) /\ W.heap[D]? = some (.deferred (some []))) V vB
    (λ s A B row hs hg' hr => ⟨hI s A B row hs.1 hg' (up hr), stay hs.2.1 vz hg' hr, stay hs.2.2 (by omega) hg' hr⟩)
    (λ s A B row ⟨c, hc, hl, hk⟩ hg' hr => ⟨c, hIx c s A B row hc hg' (up hr), stay hl vz hg' hr, stay hk (by omega) hg' hr⟩) ?_ ⟨vI, vL, vD⟩).mono ?_
   . -- a round
     rintro pre x W ⟨hi, hl, hk⟩ hlen;have hy := run_yield (P := P) (args := encs x) hl (by rw [hrc]; exact hps x);rw [hrc] at hy;refine ⟨fn, _, assign, body, hy, roundIn_of_wpIn hfn (hassign _ pre x W _ hi hlen ?_)⟩;clear hy;intro a' A hkf hkp hia hax;have lA := hkf.same _ _ (by omega) hl rfl;have dA := hkf.same _ _ (by omega) hk rfl;have zA : D + 1 < A.heap.size := (Array.getElem?_eq_some_iff.1 lA).1;refine ⟨_, run_beginRound lA (by rw [hrc]), ?_⟩;obtain ⟨C, hC⟩ : ∃ C, A.putObj (D + 1) (.loop { rc .ready none with state := .busy }) = C := ⟨_, rfl⟩;have lC : C.heap[D + 1]? = some (.loop { rc .ready none with state := .busy }) := by rw [<- hC]; exact World.putObj_heap_same zA
     have dC : C.heap[D]? = some (.deferred (some [])) := by rw [<- hC]; exact (World.putObj_heap_other (by omega)).trans dA
     have kC : Kp x A C := by rw [<- hC]; exact hKb _ _ _ _ _ (by omega) lA rfl rfl
     have iC : I pre C := by rw [<- hC]; exact hI.putObj _ hia (by omega) lA rfl
     have xC : Ax pre x a' C := by rw [<- hC]; exact (hAx pre x a').putObj (s := ()) _ hax (by omega) lA rfl
     rw [hC];refine wpIn_mono (hbody _ pre x a' C (by omega) ⟨_, lC⟩ iC xC) ?_;have fin : ∀ (jump : Option Code) (E : World), KeepsFrom w.heap.size C E ->
      ∃ T, (Instr.endRound (D + 1) jump).run P E = .ok (.bool jump.isNone) T /\ T = E.putObj (D + 1) (.loop (rc (if jump.isNone then .ready else .done) jump)) /\ E.heap[D + 1]? = some (.loop { rc .ready none with state := .busy }) /\
       T.heap[D + 1]? = some (.loop (rc (if jump.isNone then .ready else .done) jump)) /\ T.heap[D]? = some (.deferred (some [])) := λ jump E hE => by
      have lE := hE.same _ _ (by omega) lC rfl;have dE := hE.same _ _ (by omega) dC rfl;have r := run_endRound (P := P) jump lE;rw [hrc] at r lE ⊢;exact ⟨_, r, rfl, lE, World.putObj_heap_same (Array.getElem?_eq_some_iff.1 lE).1, (World.putObj_heap_other (by omega)).trans dE⟩
     have kf : ∀ {E T : World} {o : Obj}, KeepsFrom w.heap.size C E -> T = E.putObj (D + 1) o -> KeepsFrom V.heap.size W T := λ hE hT => by
      subst hT;have hA : KeepsFrom V.heap.size W A := KeepsFrom.up hkf (by omega);have hC' : KeepsFrom V.heap.size A C := by rw [<- hC]; exact KeepsFrom.of_grownBy (grownBy_putObj' _ _ _) λ j e => by cases e; omega
      exact ((hA.trans hC').trans (KeepsFrom.up hE (by omega))).trans (KeepsFrom.of_grownBy (grownBy_putObj' _ _ _) λ j e => by cases e; omega)
     rintro e a3 E hp
     cases e with
     | normal =>
      obtain ⟨hE, hkE, hiE⟩ := hp;obtain ⟨T, hr, rfl, lE, lT, dT⟩ := fin none E hE;exact ⟨_, _, hr, .inl ⟨rfl, ⟨hI.putObj _ hiE (by omega) lE rfl, lT, dT⟩, hKt hkp (hKt (hKt kC hkE) (hKb _ _ _ _ _ (by omega) lE rfl rfl)), kf hE rfl⟩⟩
     | ret =>
      obtain ⟨T, hr, rfl, lE, lT, dT⟩ := fin (some .ret) E hp.1;exact ⟨_, _, hr, .inr ⟨rfl, ⟨.ret, (hIx _).putObj _ hp.2 (by omega) lE rfl, lT, dT⟩, kf hp.1 rfl⟩⟩
     | exit id =>
      obtain ⟨T, hr, rfl, lE, lT, dT⟩ := fin (some (.exit id)) E hp.1;exact ⟨_, _, hr, .inr ⟨rfl, ⟨.exit id, (hIx _).putObj _ hp.2 (by omega) lE rfl, lT, dT⟩, kf hp.1 rfl⟩⟩
     | goto t =>
      obtain ⟨T, hr, rfl, lE, lT, dT⟩ := fin (some (.goto t)) E hp.1;exact ⟨_, _, hr, .inr ⟨rfl, ⟨.goto t, (hIx _).putObj _ hp.2 (by omega) lE rfl, lT, dT⟩, kf hp.1 rfl⟩⟩
     | panic ch => exact hp.elim
     | outgrown => exact hp.elim
   . -- pI the iterator
     rintro e E ⟨⟨v, rfl⟩, (⟨xs, hS, hi, hl, hk⟩ | ⟨pre, hSp, c, hi, hl, hk⟩)⟩
     . have r := run_endLoop (P := P) hl (by rw [hrc]; simp);rw [hrc] at r;exact ⟨none, _, r, hdone _ xs _ (by omega) hS (hI.putObj _ hi (by omega) hl rfl) ((World.putObj_heap_other (by omega)).trans hk)⟩
     . have r := run_endLoop (P := P) hl (by rw [hrc]; simp);rw [hrc] at r;exact ⟨some c, _, r, hstop _ c pre _ (by omega) hSp ((hIx c).putObj _ hi (by omega) hl rfl) ((World.putObj_heap_other (by omega)).trans hk)⟩
end
end Go.RG
namespace Go.RG
open Go.RowKit
section
variable {P : Program} {ops : Array Oper} {base : World} {sp : Nat -> Option Spec} {md : Region.Mode} {l0 n0 : Nat}
theorem lB {o : Oper} {a : Act} {w : World} {R : Value -> World -> Prop} {K : Act -> World -> Prop} {Q : Exit -> Act -> World -> Prop}
 (hd : ∀ c, o.op ≠ .defer c) (h : yE P o a w R) (hK : ∀ v w', R v w' -> K (a.put o.dst v) w') : o.wpIn (Fence.wide.inRound l0) n0 P a w K Q := by
 unfold yE at h;unfold Oper.wpIn;refine ⟨λ f _ => trivial, ?_⟩;rw [Oper.semAt_eq _ _ _ hd];generalize (execOp a.eval o).run P w = r at *
 cases r with
 | ok n w' =>
  cases n <;> simp only [zN] at h <;> simp only [Oper.uponIn]
  case value v => exact hK _ _ h
  case skip => exact hK _ _ h
  case enter f args => exact ⟨(λ h => by cases h), CallsIn.inRound l0 (callsIn_wide.2 (h.mono λ e w'' ⟨v, he, hv⟩ => by subst he; exact hK _ _ hv))⟩
 | halt x w' => simp only [zN] at h
def noDeferB (ops : Array Oper) : Bool := ops.toList.all λ o => match o.op with | .defer _ => false | _ => true
theorem noDefer {ops : Array Oper} (h : noDeferB ops = true) : ∀ (i : Nat) (o : Oper), ops[i]? = some o -> ∀ c, o.op ≠ .defer c := by
 intro i o ho c hc;have h := List.all_eq_true.1 h o (by rw [Array.mem_toList_iff]; exact Array.mem_of_getElem? ho);rw [hc] at h
 cases h
end
end Go.RG
