
/-
 table: what replay calls for a record of a batch, and for a part of a checkpoint.
-/
import Derived.Test.YtbjofbhhnmehgaaGreatDoorCNHz8
import Derived.Defers
import Derived.Recover
import Derived.Test.YtbjofbhhnmehgaaGreatDoorCNHz6
import Derived.RangeFuncNested
import Derived.Test.YtbjofbhhnmehgaaGreatDoorCNHz0
import Derived.RangeFuncCalls
import Derived.OrdersIn
import Derived.Test.YtbjofbhhnmehgaaGreatDoorCNHz3
import Derived.TacticsIn
import Derived.RangeFuncBound
import Derived.RangeFuncLeaves
import Derived.Shelf.RegionOpen
import Derived.WalkKit
import Derived.OwnWalkIn
import Derived.TacticsInMore
import Derived.LoopNIn
import Derived.LoopIn
set_option linter.unusedSimpArgs false
set_option linter.unusedVariables false
set_option maxHeartbeats 4000000
set_option maxRecDepth 100000
open Go.IntWalk (toNatUp iteOmega)
namespace Go.Proofs.YtbjofbhhnmehgaaGreatDoor.TT
open Go.RowKit Go.RG Go.Hp Go.Proofs.YtbjofbhhnmehgaaGreatDoor
theorem jH (ps : List Pr) (cs : List Chg) : xH ps (cs.map Chg.norm) = xH ps cs := by
 unfold xH;rw [List.foldl_map]
 congr 1
 funext p c
 exact chgP_norm p c
theorem batchK_any (d l : Nat) (q : TBk) (T : TblS) (cs : List Chg) (v : Value) (Bh Bt : Nat) (w : World) (h : sH w d l q T) (hlive : T.live = zU T.ps) (hroom : zU T.ps <= 1000000000) (hv : Src w v (u8s (recB cs))) (h0 : cs ≠ []) (hn : cs.length <= 80)
 (hg : ∀ c ∈ cs, c.good = true /\ zO c.key /\ zO c.value /\ c.value.length <= 1024) (hcap : zU (xH T.ps cs) <= T.cap) (hcl : T.cap <= 1000000000) (hh : w.cell? ⟨Bh, 0, none⟩ = some (.int .i64 0)) (ht : w.cell? ⟨Bt, 0, none⟩ = some (.pointer (some ⟨q.t, 0, none⟩))) (hBt : ¬ q.all Bt) :
 Calls Tryz.prog 94 #[v, .pointer (some ⟨Bh, 0, none⟩), .pointer (some ⟨Bt, 0, none⟩)] w λ e w' => (∃ t, e = .returned t) /\ vX w d l q { T with ps := xH T.ps cs, live := zU (xH T.ps cs) } (zS (xH T.ps cs)) w' := by
 obtain ⟨ds, hds⟩ : ∃ ds, cs.map Chg.norm = ds := ⟨_, rfl⟩;have hdl : ds.length = cs.length := by rw [<- hds, List.length_map]
 have hdp : xH T.ps ds = xH T.ps cs := by rw [<- hds, jH]
 have hdg : ∀ c ∈ ds, zO c.key /\ zO c.value /\ c.key.length <= 64 /\ c.value.length <= 1024 := λ c hc => by
  rw [<- hds] at hc;obtain ⟨c0, hc0, rfl⟩ := List.mem_map.1 hc;obtain ⟨g1, g2, g3, g4⟩ := hg c0 hc0;have g5 : c0.key.length <= 64 := by
   unfold Chg.good at g1;simp only [Bool.and_eq_true, decide_eq_true_eq] at g1;exact g1.1.2
  unfold Chg.norm
  split
  . exact ⟨g2, λ n hn => (by cases hn), g5, by simp⟩
  . exact ⟨g2, g3, g5, g4⟩
 have HB := zB (batch_any v cs w hv h0 hn hg);rw [hds] at HB;rw [<- hdp] at hcap ⊢;obtain ⟨n, hnn⟩ : ∃ n, ds.length = n := ⟨_, rfl⟩;have hn80 : n <= 80 := by omega
 have HT := zB h;have HLV := zB (sS (ps := T.ps) (cs := ds) h.rise (λ c hc => ⟨(hdg c hc).2.2.1, .inr (hdg c hc).2.2.2⟩));have HN := zB hnn;have HL := zB hlive;have hlt := h.lt;have hbt := block_lt_of_cell ht;clear hv h0 hn hg hds hdp h hdl hnn hlive;go_enter Tryz.func94, Tryz.ntmps94
 go_wp2_with fail
 refine (xZ _).mono ?_;rintro e w1 ⟨⟨t, rfl⟩, rfl⟩
 go_wp2_with fail
 refine HB.out.mono ?_;rintro e w1 ⟨u, rfl, hBa, hB1⟩;have ht1 := zG hB1 ht;obtain ⟨ua, uc, rfl⟩ := hBa.shape;rw [HN.out] at hBa ⊢;have HT1 := zB (HT.out.below hB1);have HBa := zB (hBa.mono (G := λ j => q.all j) λ j hj => .inl (hlt j hj));have HB1 := zB hB1;clear hBa HB hh ht
 go_wp2_with fail
 go_loopw [12] (λ vi wr => ∃ (i : Nat) (q7 : TBk), vi = .int .i64 i /\ i <= n /\ q7.t = q.t /\ q7.m = q.m /\ (∀ j, q7.all j -> q.all j \/ w1.heap.size <= j) /\ Ext q.all w1 wr /\
  sH wr d l q7 { T with ps := xH T.ps (ds.take i), live := zU (xH T.ps (ds.take i)) } /\ wE wr q7.all (.slice ua n uc) ds) (λ vi _ => n - (intOf vi).toNat)
 case atStart =>
  refine ⟨0, q, rfl, Nat.zero_le _, rfl, rfl, λ _ h => .inl h, Ext.refl _ _, ?_, HBa.out⟩;have e1 : T = { T with ps := xH T.ps (ds.take 0), live := zU (xH T.ps (ds.take 0)) } := by
   obtain ⟨t1, t2, t3, t4, t5⟩ := T;have := HL.out;simp only at this;rw [this];rfl
  rw [<- e1];exact HT1.out
 case round =>
  obtain ⟨i, q7, rfl, hi, ht7, hm7, ha7, hX7, hT7, hB7⟩ := hrel;have htr : wr.cell? ⟨Bt, 0, none⟩ = some (.pointer (some ⟨q.t, 0, none⟩)) := hX7.cell_some ht1 hBt;by_cases hin : i < n
  . have hin' : (i : Int) < (n : Int) := by omega
    obtain ⟨c, hci⟩ : ∃ c, ds[i]? = some c := ⟨_, List.getElem?_eq_getElem (by rw [HN.out]; exact hin)⟩;have hal7 := HLV.out i;obtain ⟨a', cap', e1, hel⟩ := hB7;obtain ⟨g, o, va, vb, e2, k0, k1, k2, hk, hvv, hgg, hfar⟩ := hel i c hci;injection e1 with e1 e3 e4;subst e1 e4 e2;clear e3;have hB7 : wE wr q7.all (.slice (some ⟨g, o, none⟩) n uc) ds := ⟨_, _, by rw [HN.out], hel⟩;have hbx := zQ wr (.cells #[va, vb, .bool c.gone] 78);have hTx := hT7.below hbx;have hch := nV d l q7 _ c va vb _ hTx rfl (by simp only; omega)
     ⟨hk.below hbx, hvv.below hbx, λ j hj e => (hfar j hj).2 e, (hdg c (List.mem_of_getElem? hci)).1, (hdg c (List.mem_of_getElem? hci)).2.1, (hdg c (List.mem_of_getElem? hci)).2.2.1, .inr (hdg c (List.mem_of_getElem? hci)).2.2.2⟩
    obtain ⟨aa, ca, rfl, -⟩ := hk.shape;obtain ⟨ab, cb, rfl, -⟩ := hvv.shape;rw [ht7] at hch;have htr2 := zG hbx htr;have HCH := zB hch;have Hci := zB hci;have H7 := zB (zC ht7 (zC hm7 (zC ha7 (zC hX7 (zC hTx (zC (hB7.below hbx) hbx))))));clear hk hvv hch hfar hgg hel hci ht7 hm7 ha7 hX7 hT7 hB7 hTx hbx
    go_wp2_with fail
    refine HCH.out.mono ?_;rintro e w8 ⟨⟨t, rfl⟩, q8, f1, f2, f3, f4, f5⟩;have HP := zB (zC f1 (zC f2 (zC f3 (zC f4 f5))));clear f1 f2 f3 f4 f5 HCH
    go_wp2_with fail
    have hXx : Ext q.all w1 w8 := (H7.out.2.2.2.1.trans (Ext.of_below (S := q.all) H7.out.2.2.2.2.2.2) λ _ _ h => h).trans HP.out.2.2.2.1 λ j hj e => by
     rcases H7.out.2.2.1 j e with e | e
     . exact e
     . omega
    refine ⟨⟨i + 1, q8, by simp, by omega, HP.out.1.trans H7.out.1, HP.out.2.1.trans H7.out.2.1, λ j hj => ?_, hXx, ?_, ?_⟩, ?_⟩
    . rcases HP.out.2.2.1 j hj with e | e
      . exact H7.out.2.2.1 j e
      . exact .inr (Nat.le_trans (Nat.le_trans H7.out.2.2.2.1.size H7.out.2.2.2.2.2.2.size) e)
    . rw [pH Hci.out];exact HP.out.2.2.2.2
    . exact ((H7.out.2.2.2.2.2.1.mono (G := λ j => q7.all j \/ q8.all j) λ j hj => hj.elim .inl λ hj => HP.out.2.2.1 j hj).ext HP.out.2.2.2.1 λ _ h => .inl h).mono λ j hj => .inl (.inr hj)
    . show n - ((i : Int) + 1).toNat < n - (i : Int).toNat;omega
  . obtain rfl : i = n := by omega
    have hin' : ¬ (i : Int) < (i : Int) := by omega
    rw [List.take_of_length_le (by rw [HN.out]; exact Nat.le_refl _)] at hT7;have c5 := hT7.cs.2.2.2.2.2.1;have c2 := hT7.cs.2.2.1;rw [ht7] at c5 c2;simp only at c5 c2;have hcap' : ((zU (xH T.ps ds) : Nat) : Int) <= (T.cap : Int) := by omega
    obtain ⟨lv, hlv⟩ : ∃ m, zU (xH T.ps ds) = m := ⟨_, rfl⟩;rw [hlv] at c5 hcap';have H7 := zB (zC ht7 (zC hm7 (zC ha7 (zC hX7 hT7))));clear ht7 hm7 ha7 hX7 hT7 hB7 hlv
    go_wp2_with fail
    refine zR 9 (λ _ => none) fol (by kernel_rfl) (λ W hW hh => ?_);clear hh;simp only [fT];have r5 := zV hW c5;have r2 := zV hW c2;have rt := zV hW htr
    repeat ((first | refine zL _ (by first | exact .inl rfl | exact .inr rfl) rfl rfl ?_ | (refine zJ ?_ rfl rfl (λ w1 hb1 hf1 => ?_) ?_; rotate_left; (go_simp; (try simp (disch := omega) only [zE, toNatUp, iteOmega]); (try go_simp); rfl)) | refine zM rfl ?_); simp only [zD])
    refine zZ ?_;clear r5 r2 rt
    go_wp2_with fail
    refine (xZ _).mono ?_;rintro e w9 ⟨⟨t9, rfl⟩, rfl⟩
    go_wp2_with fail
    go_end0
    refine ⟨⟨_, rfl⟩, vX.of_below HB1.out ⟨q7, H7.out.1, H7.out.2.1, H7.out.2.2.1, ?_, H7.out.2.2.2.2.below hW⟩⟩;exact H7.out.2.2.2.1.trans (Ext.of_below (S := q.all) hW) λ _ _ h => h
theorem partK_any (d l : Nat) (q : TBk) (T : TblS) (i : Nat) (v : Value) (Bt Bh : Nat) (w : World) (h : sH w d l q T) (hlive : T.live = zU T.ps) (hsum : zU T.ps <= 1000000000) (hi : i < yF (zU T.ps)) (hv : Src w v (u8s (yO (wI T.ps) i)))
 (hh : w.heap[Bh]? = some (.cells #[.int .i64 i] 3 (0, 0))) (ht : w.cell? ⟨Bt, 0, none⟩ = some (.pointer (some ⟨q.t, 0, none⟩))) :
 Calls Tryz.prog 97 #[v, .pointer (some ⟨Bt, 0, none⟩), .pointer (some ⟨Bh, 0, none⟩)] w λ e w' => (∃ t, e = .returned t) /\ Ext (· = Bh) w w' /\ w'.heap[Bh]? = some (.cells #[.int .i64 ((i : Int) + 1)] 3 (0, 0)) := by
 have hbl : (wI T.ps).length = zU T.ps := xA _;have HT := zB (text_any d l q T w h hlive (by omega));have hat := lZ (n := (wI T.ps).length) (i := i) (by rw [hbl]; exact hi);have hkp := wJ (zU T.ps);obtain ⟨bs, hbs⟩ : ∃ b, wI T.ps = b := ⟨_, rfl⟩;obtain ⟨K, hK⟩ : ∃ K, yF (zU T.ps) = K := ⟨_, rfl⟩;obtain ⟨n, hn⟩ : ∃ n, bs.length = n := ⟨_, rfl⟩;rw [hbs] at HT hbl hv hat;rw [hn] at hbl hat HT;rw [hK] at hi hkp;rw [<- hbl] at hsum hkp hK;have HN := zB hn;have hcb : w.cell? ⟨Bh, 0, none⟩ = some (.int .i64 i) := by simp [World.cell?, hh]
 have hpl := tO bs i (by omega) (by omega);have hP := zB λ w' => oU n (by omega) w';rw [hK] at hP;have hV := zB hv;have HH := zB hh;clear hK hbs hn hv hbl h hlive hh;go_enter Tryz.func97, Tryz.ntmps97
 go_wp2_with fail
 refine HT.out.mono ?_;rintro e w1 ⟨u, rfl, hown, hB1⟩;obtain ⟨ua, uc, rfl, -⟩ := zP hown;have hcb1 := zG hB1 hcb;have hPR := zB λ W (hW : Below w1.heap.size w1 W) => sK (.slice ua n uc) bs i (by rw [HN.out]; exact hat) (by rw [HN.out]; omega) W ((Src.of_owns hown).below hW);have hV1 := zB (hV.out.below hB1);obtain ⟨va, vc, rfl, -⟩ := hV.out.shape;have hik : (i : Int) < (K : Int) := by omega
 clear hown HT
 go_wp2_with fail
 refine zR 10 (λ j => if j = 3 then some (λ v _ => v = .int .i64 K) else if j = 9 then some (λ v w' => Src w' v (u8s (yO bs i))) else none) fol (by kernel_rfl) (λ W hW hh => ?_);clear hh;simp only [fT];have r0 := zV hW hcb1
 repeat ((first | refine zL _ (by first | exact .inl rfl | exact .inr rfl) rfl rfl ?_ | (refine zJ ?_ rfl rfl (λ w1 hb1 hf1 => ?_) ?_; rotate_left; (go_simp; (try simp (disch := omega) only [zE, toNatUp, iteOmega]); (try go_simp); rfl)) | refine zM rfl ?_); simp only [zD])
 refine zW _ rfl (λ _ _ _ h _ => h) rfl (λ w1 hb1 hf1 => ?_) ?_
 . (unfold yE; go_simp; simp only [zN])
   refine (hP.out _).mono ?_;rintro e w' ⟨rfl, rfl⟩;exact ⟨_, rfl, Below.refl _ _, rfl⟩
 rintro v1 W1 hb2 rfl;simp only [zD]
 repeat ((first | refine zL _ (by first | exact .inl rfl | exact .inr rfl) rfl rfl ?_ | (refine zJ ?_ rfl rfl (λ w1 hb1 hf1 => ?_) ?_; rotate_left; (go_simp; (try simp (disch := omega) only [zE, toNatUp, iteOmega]); (try go_simp); rfl)) | refine zM rfl ?_); simp only [zD])
 refine zW _ rfl (by exact λ _ _ _ h hb => h.below hb) rfl (λ w1 hb1 hf1 => ?_) ?_
 . have hb1' := hb1
   (unfold yE; go_simp; simp only [zN])
   refine (hPR.out _ (zF hW hb1')).mono ?_;rintro e w' ⟨u2, rfl, hown2, hB⟩;obtain ⟨xa, xc, rfl, -⟩ := zP hown2;exact ⟨_, rfl, hB, Src.of_owns hown2⟩
 rintro v2 W2 hb3 hs2;obtain ⟨xa, xc, rfl, -⟩ := hs2.shape;simp only [zD]
 repeat ((first | refine zL _ (by first | exact .inl rfl | exact .inr rfl) rfl rfl ?_ | (refine zJ ?_ rfl rfl (λ w1 hb1 hf1 => ?_) ?_; rotate_left; (go_simp; (try simp (disch := omega) only [zE, toNatUp, iteOmega]); (try go_simp); rfl)) | refine zM rfl ?_); simp only [zD])
 refine zZ ?_;have hBW := zF hB1 (zF hW (zF hb2 hb3));have hc2 := zG (zF hW (zF hb2 hb3)) hcb1;have heq := kI _ _ (yO bs i) (yO bs i) W2 (hV1.out.below (zF hW (zF hb2 hb3))) hs2 (by omega);rw [show decide (yO bs i = yO bs i) = true from decide_eq_true rfl] at heq;have HEQ := zB heq;clear heq hs2 r0
 go_wp2_with fail
 refine HEQ.out.mono ?_;rintro e w8 ⟨rfl, hB8⟩
 go_wp2_with fail
 refine (xZ _).mono ?_;rintro e w9 ⟨⟨t9, rfl⟩, rfl⟩;have hBA := zF hBW hB8;have hh8 := zK hBA HH.out;have hc8 : w8.cell? ⟨Bh, 0, none⟩ = some (.int .i64 i) := by simp [World.cell?, hh8]
 have hf8 : w8.frozen? ⟨Bh, 0, none⟩ = false := by simp [World.frozen?, hh8]
 have hset := yB (j := 0) hh8 (.int .i64 ((i : Int) + 1));have hX : Ext (· = Bh) w8 (w8.setCell ⟨Bh, 0, none⟩ (.int .i64 ((i : Int) + 1))) := Ext.setCell (S := (· = Bh)) (p := ⟨Bh, 0, none⟩) rfl _;have HF := zB (zC hset hX);clear hset hX hh8
 go_wp2_with fail
 go_end0
 exact ⟨⟨_, rfl⟩, (Ext.of_below (S := (· = Bh)) hBA).trans HF.out.2 λ _ _ h => h, HF.out.1⟩
theorem und_fmap : Tryz.prog.underlying 155 = some (.map 5 154) := by kernel_rfl
theorem iG : Tryz.prog.underlying 5 = some (.int .u8) := by kernel_rfl
theorem zero_fn (w : World) : (zeroValue 154).run Tryz.prog w = .ok .nilFunc w := by kernel_rfl
structure FMap (w : World) (bm : Nat) (ks : List Int) (V : Int -> Value) : Prop where
 some' : ∃ D, w.ownsMap Tryz.prog 5 asIs bm ks.length D /\ Maps.size D = ks.length /\ ks.Nodup /\ (∀ i : Int, (Lit.int .u8 i).wf = true -> D.atKey (.int .u8 i) (.held .nilFunc) = .held (V i) /\ Maps.has D (.int .u8 i) = decide (i ∈ ks))
theorem FMap.keep {w w' : World} {bm : Nat} {ks : List Int} {V : Int -> Value} (h : FMap w bm ks V) (hb : w'.heap[bm]? = w.heap[bm]?) : FMap w' bm ks V := by
 obtain ⟨D, ⟨es, clock, h1, h2⟩, h3⟩ := h.some';exact ⟨D, ⟨es, clock, hb.trans h1, h2⟩, h3⟩
theorem FMap.lt {w : World} {bm : Nat} {ks : List Int} {V : Int -> Value} (h : FMap w bm ks V) : bm < w.heap.size := by
 obtain ⟨D, h1, -⟩ := h.some';exact h1.lt
theorem FMap.new {w : World} {g : Nat} (h : w.heap[g]? = some (.map #[] 0)) : FMap w g [] (λ _ => .nilFunc) := by
 obtain ⟨es, clock, hb, F, hs, hD⟩ := World.ownsMap_made w Tryz.prog 5 asIs;rw [World.alloc_heap_new] at hb;injection hb with hb;injection hb with e1 e2;subst e1 e2;exact ⟨⟨.map [], ⟨#[], 0, h, F, Nat.le_refl _, rfl⟩, rfl, List.nodup_nil, λ i _ => ⟨rfl, by simp [Maps.has]⟩⟩⟩
theorem FMap.look {w : World} {bm : Nat} {ks : List Int} {V : Int -> Value} (h : FMap w bm ks V) (i : Int) (hi : (Lit.int .u8 i).wf = true) :
 Sem.run Tryz.prog (Instr.lookup 155 (.map (some bm)) (.int .u8 i) false) w = .ok (V i) w := by
 obtain ⟨D, h1, -, -, h2⟩ := h.some';obtain ⟨v, ps, hr, hv⟩ := h1.lookup (Maps.int_keyed iG) und_fmap (zero_fn w) (show asIs .nilFunc = some (.held .nilFunc, []) from rfl) (Maps.keyOf_int_mk iG hi);rw [(h2 i hi).1] at hv;rw [kP hv] at hr;exact hr
theorem FMap.store {w : World} {bm : Nat} {ks : List Int} {V : Int -> Value} (h : FMap w bm ks V) (hn : ks.length <= 65536) (i : Int) (hi : (Lit.int .u8 i).wf = true) (v : Value) :
 ∃ w', (Instr.mapUpdate 155 (.map (some bm)) (.int .u8 i) v).run Tryz.prog w = .ok () w' /\ FMap w' bm (addK ks i) (setV V i v) /\ Ext (· = bm) w w' := by
 obtain ⟨D, h1, h2, h3, h4⟩ := h.some';have K := Maps.int_keyed iG;have hkey := Maps.keyOf_int_mk iG hi;obtain ⟨w', r1, r2, r3⟩ := h1.update K und_fmap (by unfold maxLen; omega) hkey (show asIs v = some (.held v, []) from rfl);have ht := h1.tidy K;have hsz := Maps.size_put ht (k := .int .u8 i) (.held v);rw [(h4 i hi).2, h2] at hsz;have hlen : Maps.size (D.put (.int .u8 i) (.held v)) = (addK ks i).length := by
  rw [hsz];unfold addK;by_cases hm : i ∈ ks
  . simp [hm]
  . simp [hm]
 refine ⟨w', r1, ⟨D.put (.int .u8 i) (.held v), by rw [<- hlen]; exact qZ r2, hlen, ?_, λ j hj => ?_⟩, ⟨r3.os, r3.tape, r3.output, r3.size, λ j hj hne => r3.block j hj λ e => hne (by injection e)⟩⟩
 . unfold addK
   split
   . exact h3
   . rename_i hm; exact List.nodup_cons.2 ⟨hm, h3⟩
 . have hD := h1.isMap;have hkl : WideAt.IsKeyLit (.int .u8 i) := by first | trivial | simp [WideAt.IsKeyLit]
   by_cases hji : j = i
   . subst hji;exact ⟨by rw [Maps.atKey_put_same hD hkl]; simp [setV], by rw [Maps.has_put_same hD hkl]; simp [qR]⟩
   . have hne : (Lit.int .u8 j) ≠ .int .u8 i := λ e => hji (by injection e);refine ⟨?_, ?_⟩
     . rw [Maps.atKey_put_other hne, (h4 j hj).1]; simp [setV, hji]
     . rw [Maps.has_put_other hne, (h4 j hj).2];simp [qR, hji]
theorem catch_idle (a b c : Value) (w : World) : CallsD Tryz.prog 93 #[a, b, c] .returning w λ e u' w' => e = .returned (.tuple #[]) /\ u' = .returning /\ w' = w := by
 refine callsD_of_wpS Tryz.func93 rfl λ c₀ cs hu => ?_;apply wpS_seq;apply wpS_region;simp [wpOpsS, go_sem, recoverD, hu, Tryz.ntmps93, Exit.thenS];apply wpS_seq;apply wpS_region;simp [wpOpsS, go_sem, recoverD, hu, Tryz.ntmps93, Exit.thenS, Act.eval, Array.replicate];refine wpS_cond (t := false) (by simp [Act.eval, Array.replicate]) ?_;simp only [Bool.false_eq_true, if_false];refine wpS_of_wp (wp_skip ?_)
 cases c₀
 simp_all [bodyPostS, results, Tryz.results93]
def allP (ps : List Pr) (css : List (List Chg)) : List Pr := css.foldl xH ps
theorem allP_succ {ps : List Pr} {css : List (List Chg)} {i : Nat} {cs : List Chg} (h : css[i]? = some cs) : allP ps (css.take (i + 1)) = xH (allP ps (css.take i)) cs := by
 unfold allP;rw [List.take_add_one, h, List.foldl_append];rfl
def wS (ps : List Pr) (css : List (List Chg)) (hv : Nat) : List (List Int) := pG (wI ps) ++ (css.map recB ++ (List.range hv).map (yO (wI (allP ps css))))
theorem allocs5 (w : World) (o1 o2 o3 o4 o5 : Obj) : Below w.heap.size w (((((w.alloc o1).alloc o2).alloc o3).alloc o4).alloc o5) /\ (((((w.alloc o1).alloc o2).alloc o3).alloc o4).alloc o5).heap[w.heap.size]? = some o1 /\ (((((w.alloc o1).alloc o2).alloc o3).alloc o4).alloc o5).heap[w.heap.size + 1]? = some o2 /\
 (((((w.alloc o1).alloc o2).alloc o3).alloc o4).alloc o5).heap[w.heap.size + 1 + 1]? = some o3 /\ (((((w.alloc o1).alloc o2).alloc o3).alloc o4).alloc o5).heap[w.heap.size + 1 + 1 + 1]? = some o4 /\ (((((w.alloc o1).alloc o2).alloc o3).alloc o4).alloc o5).heap[w.heap.size + 1 + 1 + 1 + 1]? = some o5 /\
 (((((w.alloc o1).alloc o2).alloc o3).alloc o4).alloc o5).heap.size = w.heap.size + 5 := by
 obtain ⟨h0, h1, h2, h3⟩ := allocs3 w o1 o2 o3;have hs : (((w.alloc o1).alloc o2).alloc o3).heap.size = w.heap.size + 1 + 1 + 1 := by simp
 generalize ((w.alloc o1).alloc o2).alloc o3 = W at *;have b4 := zQ W o4;have b5 := zQ (W.alloc o4) o5;have s4 : (W.alloc o4).heap.size = w.heap.size + 1 + 1 + 1 + 1 := by simp [hs]
 have g4 := World.alloc_heap_new W o4;have g5 := World.alloc_heap_new (W.alloc o4) o5;rw [hs] at g4;rw [s4] at g5;have hb := zF b4 b5;refine ⟨h0.trans (hb.mono h0.size), zK hb h1, zK hb h2, zK hb h3, zK b5 g4, g5, by simp [hs]⟩
def RepI (w : World) (d l : Nat) (q : TBk) (T : TblS) (ps : List Pr) (css : List (List Chg)) (K : Nat) (V : Int -> Value) (ks : List Int) (i : Nat) (wr : World) : Prop :=
 ∃ q7 : TBk, q7.t = q.t /\ q7.m = q.m /\ (∀ j, q7.all j -> q.all j \/ w.heap.size + 5 <= j) /\ Ext q.all w wr /\ sH wr d l q7 { T with ps := allP ps (css.take i), live := zU (allP ps (css.take i)) } /\ w.heap.size + 5 <= wr.heap.size /\
  wr.heap[w.heap.size]? = some (.cells #[.pointer (some ⟨q.t, 0, none⟩)] 26 (0, 0)) /\ wr.heap[w.heap.size + 1]? = some (.cells #[.int .i64 ((K + min i css.length : Nat) : Int)] 3 (0, 0)) /\ wr.heap[w.heap.size + 1 + 1]? = some (.cells #[.int .i64 ((i - css.length : Nat) : Int)] 3 (0, 0)) /\
  wr.heap[w.heap.size + 1 + 1 + 1]? = some (.cells #[.int .i64 0] 34 (0, 0)) /\ FMap wr (w.heap.size + 1 + 1 + 1 + 1) ks V
theorem RepI.below {w wr wr' : World} {d l : Nat} {q : TBk} {T : TblS} {ps : List Pr} {css : List (List Chg)} {K : Nat} {V : Int -> Value} {ks : List Int} {i : Nat} (h : RepI w d l q T ps css K V ks i wr) (hb : Below wr.heap.size wr wr') : RepI w d l q T ps css K V ks i wr' := by
 obtain ⟨q7, h1, h2, h3, h4, h5, h6, h7, h8, h9, h10, h11⟩ := h;exact ⟨q7, h1, h2, h3, h4.trans (Ext.of_below (S := q.all) hb) λ _ _ h => h, h5.below hb, Nat.le_trans h6 hb.size, zK hb h7, zK hb h8, zK hb h9, zK hb h10, h11.keep (hb.block _ h11.lt)⟩
theorem replay_any (d l : Nat) (q : TBk) (T : TblS) (v : Value) (ps : List Pr) (css : List (List Chg)) (hv : Nat) (w : World) (h : sH w d l q T) (hT : T.ps = [] /\ T.live = 0) (hcl : T.cap <= 1000000000) (hr : yQ (zS ps))
 (hg : ∀ p ∈ ps, zO p.1 /\ zO p.2 /\ 0 < p.1.length /\ p.1.length <= 64 /\ p.2.length <= 1024)
 (hcs : ∀ cs ∈ css, cs ≠ [] /\ cs.length <= 80 /\ ∀ c ∈ cs, c.good = true /\ zO c.key /\ zO c.value /\ c.value.length <= 1024)
 (hcap : ∀ i, i <= css.length -> zU (allP ps (css.take i)) <= T.cap) (hn : css.length + hv <= 1000000) (hh : hv <= yF (zU (allP ps css))) (hrecs : nH w q.all v (wS ps css hv)) (hvc : ∀ a n c, v = .slice a n c -> n <= c) :
 Calls Tryz.prog 51 #[.pointer (some ⟨q.t, 0, none⟩), v] w λ e w' => e = .returned (.tuple #[.int .i64 ((yF (zU ps) + css.length : Nat) : Int), .int .i64 hv, .int .i64 0]) /\ vX w d l q { T with ps := allP ps css, live := zU (allP ps css) } (zS (allP ps css)) w' := by
 have hmf : ∀ (fn : Fn) (first cap : Array Value) (w : World), (Instr.makeFunc fn first cap).run Tryz.prog w = .ok (.func fn first cap) w := λ _ _ _ _ => rfl;have hmm := @run_makeMap Tryz.prog;obtain ⟨a, cap, rfl⟩ := hrecs.shape;have hmc := hvc _ _ _ rfl;clear hvc;have hKp := jC (zU ps);obtain ⟨ga, oa, rfl⟩ : ∃ g o, a = some ⟨g, o, none⟩ := by
  obtain ⟨a', cap', e, h⟩ := hrecs;obtain ⟨g, o, u, e2, -⟩ := h 0 (yO (wI ps) 0) (by unfold wS; rw [List.getElem?_append_left (by rw [wP, xA]; omega)]; exact ckRecs_get (by rw [xA]; omega));injection e with e;exact ⟨g, o, e.trans e2⟩
 have hlen : (wS ps css hv).length = yF (zU ps) + (css.length + hv) := by
  unfold wS;simp only [List.length_append, List.length_map, List.length_range, wP, xA]
 obtain ⟨m, hm⟩ : ∃ m, (wS ps css hv).length = m := ⟨_, rfl⟩;rw [hm] at hlen hmc ⊢;obtain ⟨hb5, g0, g1, g2, g3, g4, hs5⟩ := allocs5 w (.cells #[.pointer (some ⟨q.t, 0, none⟩)] 26) (.cells #[.int .i64 0] 3) (.cells #[.int .i64 0] 3) (.cells #[.int .i64 0] 34) (.map #[] 0);obtain ⟨w5, hw5⟩ : ∃ w5, (((((w.alloc (.cells #[.pointer (some ⟨q.t, 0, none⟩)] 26)).alloc (.cells #[.int .i64 0] 3)).alloc (.cells #[.int .i64 0] 3)).alloc (.cells #[.int .i64 0] 34)).alloc (.map #[] 0)) = w5 := ⟨_, rfl⟩;rw [hw5] at hb5 g0 g1 g2 g3 g4 hs5;obtain ⟨Bt, hBt⟩ : ∃ B, w.heap.size = B := ⟨_, rfl⟩;obtain ⟨f1, hf1⟩ : ∃ f, Value.func (.func 94) #[] #[.pointer (some ⟨w.heap.size + 1 + 1, 0, none⟩), .pointer (some ⟨w.heap.size, 0, none⟩)] = f := ⟨_, rfl⟩;obtain ⟨f2, hf2⟩ : ∃ f, Value.func (.func 97) #[] #[.pointer (some ⟨w.heap.size, 0, none⟩), .pointer (some ⟨w.heap.size + 1 + 1, 0, none⟩)] = f := ⟨_, rfl⟩;obtain ⟨w6, r1, hM6, hX6⟩ := (FMap.new g4).store (by decide) 1 (by decide) f1;obtain ⟨w7, r2, hM7, hX7⟩ := hM6.store (by decide) 2 (by decide) f2;have hX57 : Ext (· = w.heap.size + 1 + 1 + 1 + 1) w5 w7 := hX6.trans hX7 λ _ _ h => h;have g0 := hX57.block _ (zI g0) (by omega) |>.trans g0
 have g1 := hX57.block _ (zI g1) (by omega) |>.trans g1
 have g2 := hX57.block _ (zI g2) (by omega) |>.trans g2
 have g3 := hX57.block _ (zI g3) (by omega) |>.trans g3
 have hb7 : Below w.heap.size w w7 := hb5.trans (hX57.to_belowAt hb5.size λ k hk e => by omega);have hs7 : w.heap.size + 5 <= w7.heap.size := by rw [<- hs5]; exact hX57.size
 have HW := zB (zC hw5 (zC r1 r2));have HF := zB (zC hf1 hf2);have HG := zB (zC g0 (zC g1 (zC g2 (zC g3 (zC hb7 (zC hM7 hs7))))));have HT := zB (zC h (zC hT (zC hr (zC hg (zC hcs (zC hcap hh))))));clear hw5 r1 r2 hf1 hf2 hM6 hX6 hM7 hX7 hX57 g0 g1 g2 g3 g4 hb5 hb7 hs5 hs7 h hT hr hg hcs hcap hh hBt;have Hlen := zB hlen;clear hlen;obtain ⟨K, hK⟩ : ∃ K, yF (zU ps) = K := ⟨_, rfl⟩;have c0 : w7.cell? ⟨w.heap.size, 0, none⟩ = some (.pointer (some ⟨q.t, 0, none⟩)) := by simp [World.cell?, HG.out.1]
 have c1 : w7.cell? ⟨w.heap.size + 1, 0, none⟩ = some (.int .i64 0) := by simp [World.cell?, HG.out.2.1]
 have fr1 : ∀ j, w7.frozen? ⟨w.heap.size + 1, j, none⟩ = false := λ j => by simp [World.frozen?, HG.out.2.1]
 have hR7 := hrecs.below HG.out.2.2.2.2.1;rw [hm] at hrecs;have hkp := wJ (zU ps);have hlv0 : zU ps <= T.cap := HT.out.2.2.2.2.2.1 0 (Nat.zero_le _);have HLD := load_any d l q T (.slice (some ⟨ga, oa, none⟩) (wS ps css hv).length cap) (wI ps) (css.map recB ++ (List.range hv).map (yO (wI (allP ps css)))) ps w7 (HT.out.1.below HG.out.2.2.2.2.1) HT.out.2.1 hR7 rfl HT.out.2.2.1 HT.out.2.2.2.1 (by omega) (by simp only [List.length_append, List.length_map, List.length_range]; omega);rw [xA, hK, hm] at HLD;rw [hK] at hkp hKp;have hKb : K <= 200000 := by omega
 have HLD := zB HLD;have HK := zB hK;have Hm := zB hm;have HRS := zB hrecs;clear hK hm hrecs hR7;have hql := HT.out.1.lt
 go_enter_defers Tryz.func51, Tryz.ntmps51
 go_wp2_with fail
 rw [HW.out.1, HF.out.1, HW.out.2.1]
 go_wp2_with fail
 rw [HF.out.2, HW.out.2.2]
 go_wp2_with fail
 refine HLD.out.mono ?_;rintro e w8 ⟨rfl, q1, ht1, hm1, ha1, hX1, hT1⟩;have hnq : ∀ k, w.heap.size <= k -> ¬ q.all k := λ k hk e => by have := hql k e; omega
 have hkeep8 : ∀ k o, w.heap.size <= k -> w7.heap[k]? = some o -> w8.heap[k]? = some o := λ k o hk ho => (hX1.block k (zI ho) (hnq k hk)).trans ho;have k0 := hkeep8 _ _ (by omega) HG.out.1;have k1 := hkeep8 _ _ (by omega) HG.out.2.1;have k2 := hkeep8 _ _ (by omega) HG.out.2.2.1;have k3 := hkeep8 _ _ (by omega) HG.out.2.2.2.1;have hM8 : FMap w8 (w.heap.size + 1 + 1 + 1 + 1) _ _ := HG.out.2.2.2.2.2.1.keep (hX1.block _ HG.out.2.2.2.2.2.1.lt (hnq _ (by omega)));have fr8 : ∀ j, w8.frozen? ⟨w.heap.size + 1, j, none⟩ = false := λ j => by simp [World.frozen?, k1]
 have cc1 : w8.cell? ⟨w.heap.size + 1, 0, none⟩ = some (.int .i64 0) := by simp [World.cell?, k1]
 have hset := yB (j := 0) k1 (.int .i64 K);have hX9 : Ext (· = w.heap.size + 1) w8 (w8.setCell ⟨w.heap.size + 1, 0, none⟩ (.int .i64 K)) := Ext.setCell (S := (· = w.heap.size + 1)) (p := ⟨w.heap.size + 1, 0, none⟩) rfl _;have H8 := zB (zC hset (zC hX9 hM8));clear c0 c1 fr1 hset hX9 hM8
 go_wp2_with fail
 generalize w8.setCell ⟨w.heap.size + 1, 0, none⟩ (.int .i64 K) = w9 at H8 ⊢;clear fr8 cc1;have hq1 : ∀ k, q1.all k -> q.all k \/ w.heap.size + 5 <= k := λ k hk => (ha1 k hk).imp id λ e => Nat.le_trans HG.out.2.2.2.2.2.2 e;have hs8 : w.heap.size + 5 <= w8.heap.size := Nat.le_trans HG.out.2.2.2.2.2.2 hX1.size;have h90 := (H8.out.2.1.block _ (zI k0) (by omega)).trans k0;have h92 := (H8.out.2.1.block _ (zI k2) (by omega)).trans k2;have h93 := (H8.out.2.1.block _ (zI k3) (by omega)).trans k3;have hT9 := hT1.ext H8.out.2.1 λ k hk e => by
  rcases hq1 k hk with h | h
  . have := hql k h; omega
  . omega
 have hX79 : Ext q.all w w9 := ((Ext.of_below (S := q.all) HG.out.2.2.2.2.1).trans hX1 λ _ _ h => h).trans H8.out.2.1 λ k hk e => by omega
 have hI9 : RepI w d l q T ps css K _ _ 0 w9 := ⟨q1, ht1, hm1, hq1, hX79, hT9, Nat.le_trans hs8 H8.out.2.1.size, h90, by rw [Nat.zero_min]; exact H8.out.1, by rw [Nat.zero_sub]; exact h92, h93, H8.out.2.2.keep (H8.out.2.1.block _ H8.out.2.2.lt (by omega))⟩;have HI9 := zB hI9;have c5 := hT9.cs.2.2.2.2.2.1;have c2 := hT9.cs.2.2.1;rw [ht1] at c5 c2;simp only at c5 c2;have c0 : w9.cell? ⟨w.heap.size, 0, none⟩ = some (.pointer (some ⟨q.t, 0, none⟩)) := by simp [World.cell?, h90]
 have c1 : w9.cell? ⟨w.heap.size + 1, 0, none⟩ = some (.int .i64 K) := by have := H8.out.1; simp [World.cell?, this]
 have hlc : ((zU ps : Nat) : Int) <= (T.cap : Int) := by omega
 obtain ⟨lv, hlv⟩ : ∃ m, zU ps = m := ⟨_, rfl⟩;rw [hlv] at c5 hlc;clear k0 k1 k2 k3 h90 h92 h93 hT9 hT1 hX1 hX79 hI9 hlv hq1 ha1 HLD H8 hlv0;refine zR 9 (λ _ => none) fol (by kernel_rfl) (λ W hW hh => ?_);clear hh;simp only [fT];have r5 := zV hW c5;have r2 := zV hW c2;have r0 := zV hW c0
 repeat ((first | refine zL _ (by first | exact .inl rfl | exact .inr rfl) rfl rfl ?_ | (refine zJ ?_ rfl rfl (λ w1 hb1 hf1 => ?_) ?_; rotate_left; (go_simp; (try simp (disch := omega) only [zE, toNatUp, iteOmega]); (try go_simp); rfl)) | refine zM rfl ?_); simp only [zD])
 refine zZ ?_;clear r5 r2 r0
 go_wp2_with fail
 refine (xZ _).mono ?_;rintro e w10 ⟨⟨t9, rfl⟩, rfl⟩;have hI10 := HI9.out.below hW;have c1 := zG hW c1;have HI10 := zB hI10;clear hI10 HI9 c0 c2 c5 hW;obtain ⟨nb, hnb⟩ : ∃ n, css.length = n := ⟨_, rfl⟩;obtain ⟨R, hR⟩ : ∃ r, nb + hv = r := ⟨_, rfl⟩;have hmK : m = K + R := by rw [Hlen.out, HK.out, hnb, hR]
 have Hnb := zB hnb;rw [hnb, hR] at hn;have hRn := zB hR;clear hnb hR;by_cases hcK : cap = K
 . have hR0 : R = 0 := by omega
   subst hR0;have hKm : (K : Int) <= (m : Int) := by omega
   have hKc : ¬ (cap : Int) < (K : Int) := by omega
   clear hmm hmf
   go_wp2_with fail
   go_loopw [32] (λ vi wr => ∃ i : Nat, vi = .int .i64 i /\ i <= 0 /\ RepI w d l q T ps css K (setV (setV (λ x => .nilFunc) 1 f1) 2 f2) (addK (addK [] 1) 2) i wr) (λ vi _ => 0)
   case atStart => exact ⟨0, rfl, Nat.zero_le _, HI10.out⟩
   case round =>
    obtain ⟨i, rfl, hi, hI⟩ := hrel;obtain rfl : i = 0 := by omega
    have htk : css.take 0 = css := List.take_of_length_le (by rw [Hnb.out]; have := hRn.out; omega);obtain ⟨q7, e1, e2, e3, e4, e5, e6, e7, e8, e9, e10, e11⟩ := hI;rw [Hnb.out] at e8 e9;rw [htk] at e5;have him : min 0 nb = nb := by have := hRn.out; omega
    have hih : 0 - nb = hv := by have := hRn.out; omega
    rw [him] at e8;rw [hih] at e9;have x8 : wr.cell? ⟨w.heap.size + 1, 0, none⟩ = some (.int .i64 ((K + nb : Nat) : Int)) := by simp [World.cell?, e8]
    have x9 : wr.cell? ⟨w.heap.size + 1 + 1, 0, none⟩ = some (.int .i64 hv) := by simp [World.cell?, e9]
    have HE := zB (zC e1 (zC e2 (zC e3 (zC e4 (zC e5 (zC e6 (zC e8 (zC e9 e10))))))));clear e1 e2 e3 e4 e5 e6 e7 e8 e9 e10 e11 him hih htk
    go_wp2_with fail
    refine vY 3 [1] (λ _ => none) (λ w' => w'.cell? ⟨w.heap.size + 1 + 1, 0, none⟩ = some (.int .i64 hv)) (λ _ w' => w'.heap[w.heap.size + 1]? = some (.cells #[.int .i64 ((K + nb : Nat) : Int)] 3 (0, 0)) /\ Ext (· = w.heap.size + 1) wr w') fol (by kernel_rfl) (λ b1 _ hb w' h => zG (zF hb h) x9) (λ W2 hW2 hh => ?_);clear hh;simp only [fT];have r8 := zV hW2 x8
    iterate 2 ((first | (refine mO _ (by first | exact .inl rfl | exact .inr rfl) (by first | exact .inl rfl | exact .inr rfl) rfl ?_) | (refine sI ?_ rfl rfl (λ w1 hb1 hf1 => ?_) ?_; rotate_left; (go_simp; (try simp (disch := omega) only [zE, toNatUp, iteOmega]); (try go_simp); rfl)) | (refine jP ?_ rfl rfl (λ w1 hcb1 => ?_) ?_; rotate_left; ((try dsimp only at hcb1); go_simp; (try simp (disch := omega) only [zE, toNatUp, iteOmega]); (try go_simp); rfl))); simp only [zD])
    have g8 := zK hW2 HE.out.2.2.2.2.2.2.1;have gf8 : W2.frozen? ⟨w.heap.size + 1, 0, none⟩ = false := by simp [World.frozen?, g8]
    have gc8 : W2.cell? ⟨w.heap.size + 1, 0, none⟩ = some (.int .i64 ((K + nb : Nat) : Int)) := by simp [World.cell?, g8]
    refine jA _ rfl rfl ?_ ?_
    . have hset := yB (j := 0) g8 (.int .i64 ((K + nb : Nat) : Int));have hXs : Ext (· = w.heap.size + 1) W2 (W2.setCell ⟨w.heap.size + 1, 0, none⟩ (.int .i64 ((K + nb : Nat) : Int))) := Ext.setCell (S := (· = w.heap.size + 1)) (p := ⟨w.heap.size + 1, 0, none⟩) rfl _;have hc9 := hXs.cell_some (zG hW2 x9) (by simp);have HS := zB (zC hset (zC ((Ext.of_below (S := (· = w.heap.size + 1)) hW2).trans hXs λ _ _ h => h) hc9));clear hset hXs hc9
      (unfold yE; go_simp; simp only [zN])
      have hcast : ((K : Int) + (nb : Int)) = ((K + nb : Nat) : Int) := by simp
      rw [hcast];exact ⟨HS.out.2.2, HS.out.1, HS.out.2.1⟩
    rintro v9 w9 hcb ⟨h1, h2⟩;simp only [zD];refine rl_nil ?_;have j9 := (h2.block _ (zI HE.out.2.2.2.2.2.2.2.1) (by omega)).trans HE.out.2.2.2.2.2.2.2.1;have j10 := (h2.block _ (zI HE.out.2.2.2.2.2.2.2.2) (by omega)).trans HE.out.2.2.2.2.2.2.2.2;have m9 : w9.cell? ⟨w.heap.size + 1 + 1, 0, none⟩ = some (.int .i64 hv) := by simp [World.cell?, j9]
    have m10 : w9.cell? ⟨w.heap.size + 1 + 1 + 1, 0, none⟩ = some (.int .i64 0) := by simp [World.cell?, j10]
    have n9 : w9.frozen? ⟨w.heap.size + 1 + 1, 0, none⟩ = false := by simp [World.frozen?, j9]
    have n10 : w9.frozen? ⟨w.heap.size + 1 + 1 + 1, 0, none⟩ = false := by simp [World.frozen?, j10]
    have hX2 : Ext (· = w.heap.size + 1 + 1) w9 (w9.setCell ⟨w.heap.size + 1 + 1, 0, none⟩ (.int .i64 hv)) := Ext.setCell (S := (· = w.heap.size + 1 + 1)) (p := ⟨w.heap.size + 1 + 1, 0, none⟩) rfl _;have hX3 : Ext (· = w.heap.size + 1 + 1 + 1) (w9.setCell ⟨w.heap.size + 1 + 1, 0, none⟩ (.int .i64 hv)) ((w9.setCell ⟨w.heap.size + 1 + 1, 0, none⟩ (.int .i64 hv)).setCell ⟨w.heap.size + 1 + 1 + 1, 0, none⟩ (.int .i64 0)) := Ext.setCell (S := (· = w.heap.size + 1 + 1 + 1)) (p := ⟨w.heap.size + 1 + 1 + 1, 0, none⟩) rfl _;have s9 := yB (j := 0) j9 (.int .i64 hv);have s10 := yB (j := 0) ((hX2.block _ (zI j10) (by omega)).trans j10) (.int .i64 0);have s9' := (hX3.block _ (zI s9) (by omega)).trans s9;have s8' := (hX3.block _ (Nat.lt_of_lt_of_le (zI h1) hX2.size) (by omega)).trans ((hX2.block _ (zI h1) (by omega)).trans h1);have HS := zB (zC s8' (zC s9' (zC s10 (zC h2 (zC hX2 hX3)))));clear j9 j10 hX2 hX3 s9 s10 s9' s8' h1 h2 r8 g8 gf8 gc8 x8 x9 hcb
    go_wp2_with fail
    generalize w9.setCell ⟨w.heap.size + 1 + 1, 0, none⟩ (.int .i64 hv) = w10 at HS ⊢;generalize w10.setCell ⟨w.heap.size + 1 + 1 + 1, 0, none⟩ (.int .i64 0) = w11 at HS ⊢;clear m9 m10 n9 n10;have v8 : w11.cell? ⟨w.heap.size + 1, 0, none⟩ = some (.int .i64 ((K + nb : Nat) : Int)) := by have := HS.out.1; simp [World.cell?, this]
    have v9 : w11.cell? ⟨w.heap.size + 1 + 1, 0, none⟩ = some (.int .i64 hv) := by have := HS.out.2.1; simp [World.cell?, this]
    have v10 : w11.cell? ⟨w.heap.size + 1 + 1 + 1, 0, none⟩ = some (.int .i64 0) := by have := HS.out.2.2.1; simp [World.cell?, this]
    have hXe : Ext (λ k => w.heap.size <= k /\ k < w.heap.size + 5) wr w11 := ((HS.out.2.2.2.1.mono (S' := λ k => w.heap.size <= k /\ k < w.heap.size + 5) λ k hk e => by omega).trans HS.out.2.2.2.2.1 λ k hk e => by omega).trans HS.out.2.2.2.2.2 λ k hk e => by omega
    have hXt := HE.out.2.2.2.1.trans hXe λ k hk e => by omega
    have hTt := HE.out.2.2.2.2.1.ext hXe λ k hk e => by
     rcases HE.out.2.2.1 k hk with h | h
     . exact hnq k e.1 h
     . omega
    have HFin := zB (show vX w d l q { T with ps := allP ps css, live := zU (allP ps css) } (zS (allP ps css)) w11 from ⟨q7, HE.out.1, HE.out.2.1, λ j hj => (HE.out.2.2.1 j hj).imp id λ e => by omega, hXt, hTt⟩);clear hXe hXt hTt;refine leaves_cons (f := 93) (args := #[.pointer (some ⟨w.heap.size + 1, 0, none⟩), .pointer (some ⟨w.heap.size + 1 + 1, 0, none⟩), .pointer (some ⟨w.heap.size + 1 + 1 + 1, 0, none⟩)]) (by simp) (by simp [go_sem]) ?_;refine (catch_idle _ _ _ _).mono ?_;rintro e u' w'' ⟨rfl, rfl, rfl⟩;simp [Leaves, settle, results, Tryz.results51, go_sem, v8, v9, v10];exact ⟨by rw [HK.out, Hnb.out], HFin.out⟩
 . have hKm : (K : Int) <= (m : Int) := by omega
   have hKc : ¬ (cap : Int) < (K : Int) := by omega
   clear hmm hmf
   go_wp2_with fail
   go_loopw [32] (λ vi wr => ∃ i : Nat, vi = .int .i64 i /\ i <= R /\ RepI w d l q T ps css K (setV (setV (λ x => .nilFunc) 1 f1) 2 f2) (addK (addK [] 1) 2) i wr) (λ vi _ => R - (intOf vi).toNat)
   case atStart => exact ⟨0, rfl, Nat.zero_le _, HI10.out⟩
   case round =>
    obtain ⟨i, rfl, hi, hI⟩ := hrel;by_cases hiR : i < R
    . have hiR' : (i : Int) < (R : Int) := by omega
      obtain ⟨q7, e1, e2, e3, e4, e5, e6, e7, e8, e9, e10, e11⟩ := hI;rw [Hnb.out] at e8 e9;by_cases hib : i < nb
      . obtain ⟨cs, hci⟩ : ∃ c, css[i]? = some c := ⟨_, List.getElem?_eq_getElem (by rw [Hnb.out]; exact hib)⟩;have hrec : (wS ps css hv)[K + i]? = some (recB cs) := by
         unfold wS;rw [List.getElem?_append_right (by rw [wP, xA, HK.out]; omega), wP, xA, HK.out, Nat.add_sub_cancel_left, List.getElem?_append_left (by rw [List.length_map, Hnb.out]; exact hib), List.getElem?_map, hci];rfl
        obtain ⟨a', cap', ev, hel⟩ := HRS.out;obtain ⟨g', o', u, ea, ku, hsu, hgu, hbu⟩ := hel (K + i) _ hrec;injection ev with ev1 _ ev3;rw [<- ev1] at ea;injection ea with ea;injection ea with ea1 ea2;subst ea1 ea2;have ku : wr.cell? ⟨ga, oa + K + i, none⟩ = some u := by rw [Nat.add_assoc]; exact e4.cell_some ku hgu
        have hsu := xG hsu e4 λ j hj => (hbu j hj).2;obtain ⟨gu, ou, lu, cu, rfl, hlu, hcu⟩ : ∃ g o n c, u = .slice (some ⟨g, o, none⟩) n c /\ 0 < n /\ ∀ j y, (u8s (recB cs))[j]? = some y -> wr.cell? ⟨g, o + j, none⟩ = some y := by
         rcases hsu with ⟨g, o, c, e, -, h2⟩ | ⟨-, e⟩
         . exact ⟨g, o, _, c, e, by rw [zH]; exact iN cs, h2⟩
         . exfalso
           have := congrArg List.length e;rw [zH] at this;have hp : 0 < (recB cs).length := by exact iN cs
           simp only [List.length_nil] at this;omega
        clear hel ev1 ev3 hbu hgu;have hcl0 : wr.cell? ⟨gu, ou, none⟩ = some (.int .u8 1) := by
         have := hcu 0 (.int .u8 1) rfl
         rwa [Nat.add_zero] at this
        have hlk : Sem.run Tryz.prog (Instr.lookup 155 (.map (some (w.heap.size + 1 + 1 + 1 + 1))) (.int .u8 1) false) wr = .ok (.func (.func 94) #[] #[.pointer (some ⟨w.heap.size + 1 + 1, 0, none⟩), .pointer (some ⟨w.heap.size, 0, none⟩)]) wr := by
         rw [HF.out.1];exact e11.look 1 (by decide)
        have hne : ∀ w', Sem.run Tryz.prog (binOp .neq 154 (.func (.func 94) #[] #[.pointer (some ⟨w.heap.size + 1 + 1, 0, none⟩), .pointer (some ⟨w.heap.size, 0, none⟩)]) .nilFunc) w' = .ok (.bool true) w' := λ _ => rfl;obtain ⟨q0, q2, q3⟩ := HT.out.2.2.2.2.1 cs (List.mem_of_getElem? hci);have hsucc := allP_succ (ps := ps) hci;have hcap1 := HT.out.2.2.2.2.2.1 i (by rw [Hnb.out]; omega);have hcap2 := HT.out.2.2.2.2.2.1 (i + 1) (by rw [Hnb.out]; omega);have hfree : ∀ k, w.heap.size <= k -> k < w.heap.size + 5 -> ¬ q7.all k := λ k hk hk2 e => by
         rcases e3 k e with h | h
         . exact hnq k hk h
         . omega
        have hi0 : i - nb = 0 := by omega
        have him : min i nb = i := by omega
        rw [hi0] at e9;rw [him] at e8;have cBh : wr.cell? ⟨w.heap.size + 1 + 1, 0, none⟩ = some (.int .i64 0) := by simp [World.cell?, e9]
        have cBt : wr.cell? ⟨w.heap.size, 0, none⟩ = some (.pointer (some ⟨q7.t, 0, none⟩)) := by rw [e1]; simp [World.cell?, e7]
        have HBK := zB (batchK_any d l q7 _ cs (.slice (some ⟨gu, ou, none⟩) lu cu) (w.heap.size + 1 + 1) w.heap.size wr e5 rfl (show zU (allP ps (css.take i)) <= 1000000000 by omega) hsu q0 q2 q3 (show zU (xH (allP ps (css.take i)) cs) <= T.cap by rw [<- hsucc]; exact hcap2) hcl cBh cBt (hfree _ (Nat.le_refl _) (by omega)));have HE := zB (zC e1 (zC e2 (zC e3 (zC e4 (zC e6 (zC e7 (zC e8 (zC e9 (zC e10 (zC e11 hsucc))))))))));have hlu' : (0 : Int) < (lu : Int) := by omega
        have Hci := zB hci;have h5' : ∀ j, wr.frozen? ⟨w.heap.size + 1, j, none⟩ = false := λ j => by simp [World.frozen?, e8]
        clear e1 e2 e3 e4 e5 e6 e7 e8 e9 e10 e11 hsucc hsu hcu hci hcap1 hcap2 q0 q2 q3 hrec hi0 him cBt
        go_wp2_with fail
        refine (xZ _).mono ?_;rintro e w11 ⟨⟨t11, rfl⟩, rfl⟩
        go_wp2_with fail
        refine HBK.out.mono ?_;rintro e w12 ⟨⟨t12, rfl⟩, q8, p1, p2, p3, p4, p5⟩;have hk8 : ∀ k o, w.heap.size <= k -> k < w.heap.size + 5 -> wr.heap[k]? = some o -> w12.heap[k]? = some o := λ k o h1 h2 ho => (p4.block k (zI ho) (hfree k h1 h2)).trans ho;have y7 := hk8 _ _ (by omega) (by omega) HE.out.2.2.2.2.2.1;have y8 := hk8 _ _ (by omega) (by omega) HE.out.2.2.2.2.2.2.1;have y9 := hk8 _ _ (by omega) (by omega) HE.out.2.2.2.2.2.2.2.1;have y10 := hk8 _ _ (by omega) (by omega) HE.out.2.2.2.2.2.2.2.2.1;have z9 : w12.cell? ⟨w.heap.size + 1 + 1, 0, none⟩ = some (.int .i64 0) := by simp [World.cell?, y9]
        have z8 : w12.cell? ⟨w.heap.size + 1, 0, none⟩ = some (.int .i64 ((K + i : Nat) : Int)) := by simp [World.cell?, y8]
        have zf : w12.frozen? ⟨w.heap.size + 1, 0, none⟩ = false := by simp [World.frozen?, y8]
        have hset := yB (j := 0) y8 (.int .i64 ((K : Int) + (i : Int) + 1));have hXs : Ext (· = w.heap.size + 1) w12 (w12.setCell ⟨w.heap.size + 1, 0, none⟩ (.int .i64 ((K : Int) + (i : Int) + 1))) := Ext.setCell (S := (· = w.heap.size + 1)) (p := ⟨w.heap.size + 1, 0, none⟩) rfl _;have HS := zB (zC hset (zC hXs (zC y7 (zC y9 (zC y10 (zC p1 (zC p2 (zC p3 (zC p4 p5)))))))));clear hset hXs y7 y8 y9 y10 p1 p2 p3 p4 p5
        go_wp2_with fail
        refine ⟨⟨i + 1, by simp, by omega, q8, HS.out.2.2.2.2.2.1.trans HE.out.1, HS.out.2.2.2.2.2.2.1.trans HE.out.2.1, λ j hj => ?_, ?_, ?_, ?_, ?_, ?_, ?_, ?_, ?_⟩, ?_⟩
        . rcases HS.out.2.2.2.2.2.2.2.1 j hj with h | h
          . exact HE.out.2.2.1 j h
          . have := HE.out.2.2.2.2.1; exact .inr (by omega)
        . exact (HE.out.2.2.2.1.trans HS.out.2.2.2.2.2.2.2.2.1 λ k hk h => (HE.out.2.2.1 k h).elim id λ h => by omega).trans HS.out.2.1 λ k hk h => by omega
        . have h5 := HS.out.2.2.2.2.2.2.2.2.2.ext HS.out.2.1 λ k hk h => by
           rcases HS.out.2.2.2.2.2.2.2.1 k hk with h1 | h1
           . exact hfree k (by omega) (by omega) h1
           . have := HE.out.2.2.2.2.1; omega
          rw [HE.out.2.2.2.2.2.2.2.2.2.2];exact h5
        . have h1 := HE.out.2.2.2.2.1;have h2 := HS.out.2.2.2.2.2.2.2.2.1.size;have h3 := HS.out.2.1.size;omega
        . exact (HS.out.2.1.block _ (zI HS.out.2.2.1) (by omega)).trans HS.out.2.2.1
        . rw [HS.out.1, show min (i + 1) css.length = i + 1 by rw [Hnb.out]; omega];simp;omega
        . rw [show i + 1 - css.length = 0 by rw [Hnb.out]; omega];exact (HS.out.2.1.block _ (zI HS.out.2.2.2.1) (by omega)).trans HS.out.2.2.2.1
        . exact (HS.out.2.1.block _ (zI HS.out.2.2.2.2.1) (by omega)).trans HS.out.2.2.2.2.1
        . have hm1 := HE.out.2.2.2.2.2.2.2.2.2.1;have hl1 := hm1.lt;have hm2 := hm1.keep (HS.out.2.2.2.2.2.2.2.2.1.block _ hl1 (hfree _ (by omega) (by omega)));exact hm2.keep (HS.out.2.1.block _ hm2.lt (by omega))
        . show R - ((i : Int) + 1).toNat < R - (i : Int).toNat;omega
      . obtain ⟨hq, hqd⟩ : ∃ h, i - nb = h := ⟨_, rfl⟩;have hqv : hq < hv := by have := hRn.out; omega
        have htk : css.take i = css := List.take_of_length_le (by rw [Hnb.out]; omega);have hrec : (wS ps css hv)[K + i]? = some (yO (wI (allP ps css)) hq) := by
         unfold wS;rw [List.getElem?_append_right (by rw [wP, xA, HK.out]; omega), wP, xA, HK.out, Nat.add_sub_cancel_left, List.getElem?_append_right (by rw [List.length_map, Hnb.out]; omega), List.length_map, Hnb.out, hqd, List.getElem?_map];simp [hqv]
        rw [htk] at e5;have hcapA := HT.out.2.2.2.2.2.1 css.length (Nat.le_refl _);rw [List.take_length] at hcapA;have hhp := HT.out.2.2.2.2.2.2;have hplp := tO (wI (allP ps css)) hq (by have := wJ (zU (allP ps css)); omega) (by rw [xA]; omega);obtain ⟨a', cap', ev, hel⟩ := HRS.out;obtain ⟨g', o', u, ea, ku, hsu, hgu, hbu⟩ := hel (K + i) _ hrec;injection ev with ev1 _ ev3;rw [<- ev1] at ea;injection ea with ea;injection ea with ea1 ea2;subst ea1 ea2;have ku : wr.cell? ⟨ga, oa + K + i, none⟩ = some u := by rw [Nat.add_assoc]; exact e4.cell_some ku hgu
        have hsu := xG hsu e4 λ j hj => (hbu j hj).2;obtain ⟨gu, ou, lu, cu, rfl, hlu, hcu⟩ : ∃ g o n c, u = .slice (some ⟨g, o, none⟩) n c /\ 0 < n /\ ∀ j y, (u8s (yO (wI (allP ps css)) hq))[j]? = some y -> wr.cell? ⟨g, o + j, none⟩ = some y := by
         rcases hsu with ⟨g, o, c, e, -, h2⟩ | ⟨-, e⟩
         . exact ⟨g, o, _, c, e, by rw [zH]; omega, h2⟩
         . exfalso
           have := congrArg List.length e;rw [zH] at this;have hp : 0 < (yO (wI (allP ps css)) hq).length := by omega
           simp only [List.length_nil] at this;omega
        clear hel ev1 ev3 hbu hgu;have hpb0 : ∃ l, yO (wI (allP ps css)) hq = 2 :: l := ⟨_, by rw [mQ]; simp only [vQ, List.cons_append]; rfl⟩;have hcl0 : wr.cell? ⟨gu, ou, none⟩ = some (.int .u8 2) := by
         obtain ⟨l, hl⟩ := hpb0;have := hcu 0 (.int .u8 2) (by rw [hl]; rfl)
         rwa [Nat.add_zero] at this
        have hlk : Sem.run Tryz.prog (Instr.lookup 155 (.map (some (w.heap.size + 1 + 1 + 1 + 1))) (.int .u8 2) false) wr = .ok (.func (.func 97) #[] #[.pointer (some ⟨w.heap.size, 0, none⟩), .pointer (some ⟨w.heap.size + 1 + 1, 0, none⟩)]) wr := by
         rw [HF.out.2];exact e11.look 2 (by decide)
        have hne : ∀ w', Sem.run Tryz.prog (binOp .neq 154 (.func (.func 97) #[] #[.pointer (some ⟨w.heap.size, 0, none⟩), .pointer (some ⟨w.heap.size + 1 + 1, 0, none⟩)]) .nilFunc) w' = .ok (.bool true) w' := λ _ => rfl;have hfree : ∀ k, w.heap.size <= k -> k < w.heap.size + 5 -> ¬ q7.all k := λ k hk hk2 e => by
         rcases e3 k e with h | h
         . exact hnq k hk h
         . omega
        have him : min i nb = nb := by omega
        rw [him] at e8;rw [hqd] at e9;have cBt : wr.cell? ⟨w.heap.size, 0, none⟩ = some (.pointer (some ⟨q7.t, 0, none⟩)) := by rw [e1]; simp [World.cell?, e7]
        have HBK := zB (partK_any d l q7 _ hq (.slice (some ⟨gu, ou, none⟩) lu cu) w.heap.size (w.heap.size + 1 + 1) wr e5 rfl (show zU (allP ps css) <= 1000000000 by omega) (show hq < yF (zU (allP ps css)) by omega) hsu e9 cBt);have HE := zB (zC e1 (zC e2 (zC e3 (zC e4 (zC e6 (zC e7 (zC e8 (zC e5 (zC e10 e11)))))))));have hlu' : (0 : Int) < (lu : Int) := by omega
        clear e1 e2 e3 e4 e5 e6 e7 e8 e9 e10 e11 hsu hcu hcapA hhp hrec him cBt htk hplp hpb0
        go_wp2_with fail
        refine (xZ _).mono ?_;rintro e w11 ⟨⟨t11, rfl⟩, rfl⟩
        go_wp2_with fail
        refine HBK.out.mono ?_;rintro e w12 ⟨⟨t12, rfl⟩, p4, p5⟩;have z9 : w12.cell? ⟨w.heap.size + 1 + 1, 0, none⟩ = some (.int .i64 ((hq : Int) + 1)) := by simp [World.cell?, p5]
        have hqz : ((hq : Int) + 1 == 0) = false := by rw [beq_eq_false_iff_ne]; omega
        have HP := zB (zC p4 p5);clear p4 p5
        go_wp2_with fail
        have hk8 : ∀ k o, k ≠ w.heap.size + 1 + 1 -> wr.heap[k]? = some o -> w12.heap[k]? = some o := λ k o h1 ho => (HP.out.1.block k (zI ho) h1).trans ho;have htk2 : css.take (i + 1) = css := List.take_of_length_le (by rw [Hnb.out]; omega);refine ⟨⟨i + 1, by simp, by omega, q7, HE.out.1, HE.out.2.1, HE.out.2.2.1, ?_, ?_, ?_, ?_, ?_, ?_, ?_, ?_⟩, ?_⟩
        . exact HE.out.2.2.2.1.trans HP.out.1 λ k hk h => by omega
        . rw [htk2];exact HE.out.2.2.2.2.2.2.2.1.ext HP.out.1 λ k hk h => hfree k (by omega) (by omega) hk
        . exact Nat.le_trans HE.out.2.2.2.2.1 HP.out.1.size
        . exact hk8 _ _ (by omega) HE.out.2.2.2.2.2.1
        . rw [show min (i + 1) css.length = nb by rw [Hnb.out]; omega];exact hk8 _ _ (by omega) HE.out.2.2.2.2.2.2.1
        . rw [show i + 1 - css.length = hq + 1 by rw [Hnb.out]; omega];exact HP.out.2
        . exact hk8 _ _ (by omega) HE.out.2.2.2.2.2.2.2.2.1
        . exact HE.out.2.2.2.2.2.2.2.2.2.keep (HP.out.1.block _ HE.out.2.2.2.2.2.2.2.2.2.lt (by omega))
        . show R - ((i : Int) + 1).toNat < R - (i : Int).toNat;omega
    . obtain rfl : i = R := by omega
      have hiR' : ¬ (i : Int) < (i : Int) := by omega
      have htk : css.take i = css := List.take_of_length_le (by rw [Hnb.out]; have := hRn.out; omega);obtain ⟨q7, e1, e2, e3, e4, e5, e6, e7, e8, e9, e10, e11⟩ := hI;rw [Hnb.out] at e8 e9;rw [htk] at e5;have him : min i nb = nb := by have := hRn.out; omega
      have hih : i - nb = hv := by have := hRn.out; omega
      rw [him] at e8;rw [hih] at e9;have x8 : wr.cell? ⟨w.heap.size + 1, 0, none⟩ = some (.int .i64 ((K + nb : Nat) : Int)) := by simp [World.cell?, e8]
      have x9 : wr.cell? ⟨w.heap.size + 1 + 1, 0, none⟩ = some (.int .i64 hv) := by simp [World.cell?, e9]
      have HE := zB (zC e1 (zC e2 (zC e3 (zC e4 (zC e5 (zC e6 (zC e8 (zC e9 e10))))))));clear e1 e2 e3 e4 e5 e6 e7 e8 e9 e10 e11 him hih htk
      go_wp2_with fail
      refine vY 3 [1] (λ _ => none) (λ w' => w'.cell? ⟨w.heap.size + 1 + 1, 0, none⟩ = some (.int .i64 hv)) (λ _ w' => w'.heap[w.heap.size + 1]? = some (.cells #[.int .i64 ((K + nb : Nat) : Int)] 3 (0, 0)) /\ Ext (· = w.heap.size + 1) wr w') fol (by kernel_rfl) (λ b1 _ hb w' h => zG (zF hb h) x9) (λ W2 hW2 hh => ?_);clear hh;simp only [fT];have r8 := zV hW2 x8
      iterate 2 ((first | (refine mO _ (by first | exact .inl rfl | exact .inr rfl) (by first | exact .inl rfl | exact .inr rfl) rfl ?_) | (refine sI ?_ rfl rfl (λ w1 hb1 hf1 => ?_) ?_; rotate_left; (go_simp; (try simp (disch := omega) only [zE, toNatUp, iteOmega]); (try go_simp); rfl)) | (refine jP ?_ rfl rfl (λ w1 hcb1 => ?_) ?_; rotate_left; ((try dsimp only at hcb1); go_simp; (try simp (disch := omega) only [zE, toNatUp, iteOmega]); (try go_simp); rfl))); simp only [zD])
      have g8 := zK hW2 HE.out.2.2.2.2.2.2.1;have gf8 : W2.frozen? ⟨w.heap.size + 1, 0, none⟩ = false := by simp [World.frozen?, g8]
      have gc8 : W2.cell? ⟨w.heap.size + 1, 0, none⟩ = some (.int .i64 ((K + nb : Nat) : Int)) := by simp [World.cell?, g8]
      refine jA _ rfl rfl ?_ ?_
      . have hset := yB (j := 0) g8 (.int .i64 ((K + nb : Nat) : Int));have hXs : Ext (· = w.heap.size + 1) W2 (W2.setCell ⟨w.heap.size + 1, 0, none⟩ (.int .i64 ((K + nb : Nat) : Int))) := Ext.setCell (S := (· = w.heap.size + 1)) (p := ⟨w.heap.size + 1, 0, none⟩) rfl _;have hc9 := hXs.cell_some (zG hW2 x9) (by simp);have HS := zB (zC hset (zC ((Ext.of_below (S := (· = w.heap.size + 1)) hW2).trans hXs λ _ _ h => h) hc9));clear hset hXs hc9
        (unfold yE; go_simp; simp only [zN])
        have hcast : ((K : Int) + (nb : Int)) = ((K + nb : Nat) : Int) := by simp
        rw [hcast];exact ⟨HS.out.2.2, HS.out.1, HS.out.2.1⟩
      rintro v9 w9 hcb ⟨h1, h2⟩;simp only [zD];refine rl_nil ?_;have j9 := (h2.block _ (zI HE.out.2.2.2.2.2.2.2.1) (by omega)).trans HE.out.2.2.2.2.2.2.2.1;have j10 := (h2.block _ (zI HE.out.2.2.2.2.2.2.2.2) (by omega)).trans HE.out.2.2.2.2.2.2.2.2;have m9 : w9.cell? ⟨w.heap.size + 1 + 1, 0, none⟩ = some (.int .i64 hv) := by simp [World.cell?, j9]
      have m10 : w9.cell? ⟨w.heap.size + 1 + 1 + 1, 0, none⟩ = some (.int .i64 0) := by simp [World.cell?, j10]
      have n9 : w9.frozen? ⟨w.heap.size + 1 + 1, 0, none⟩ = false := by simp [World.frozen?, j9]
      have n10 : w9.frozen? ⟨w.heap.size + 1 + 1 + 1, 0, none⟩ = false := by simp [World.frozen?, j10]
      have hX2 : Ext (· = w.heap.size + 1 + 1) w9 (w9.setCell ⟨w.heap.size + 1 + 1, 0, none⟩ (.int .i64 hv)) := Ext.setCell (S := (· = w.heap.size + 1 + 1)) (p := ⟨w.heap.size + 1 + 1, 0, none⟩) rfl _;have hX3 : Ext (· = w.heap.size + 1 + 1 + 1) (w9.setCell ⟨w.heap.size + 1 + 1, 0, none⟩ (.int .i64 hv)) ((w9.setCell ⟨w.heap.size + 1 + 1, 0, none⟩ (.int .i64 hv)).setCell ⟨w.heap.size + 1 + 1 + 1, 0, none⟩ (.int .i64 0)) := Ext.setCell (S := (· = w.heap.size + 1 + 1 + 1)) (p := ⟨w.heap.size + 1 + 1 + 1, 0, none⟩) rfl _;have s9 := yB (j := 0) j9 (.int .i64 hv);have s10 := yB (j := 0) ((hX2.block _ (zI j10) (by omega)).trans j10) (.int .i64 0);have s9' := (hX3.block _ (zI s9) (by omega)).trans s9;have s8' := (hX3.block _ (Nat.lt_of_lt_of_le (zI h1) hX2.size) (by omega)).trans ((hX2.block _ (zI h1) (by omega)).trans h1);have HS := zB (zC s8' (zC s9' (zC s10 (zC h2 (zC hX2 hX3)))));clear j9 j10 hX2 hX3 s9 s10 s9' s8' h1 h2 r8 g8 gf8 gc8 x8 x9 hcb
      go_wp2_with fail
      generalize w9.setCell ⟨w.heap.size + 1 + 1, 0, none⟩ (.int .i64 hv) = w10 at HS ⊢;generalize w10.setCell ⟨w.heap.size + 1 + 1 + 1, 0, none⟩ (.int .i64 0) = w11 at HS ⊢;clear m9 m10 n9 n10;have v8 : w11.cell? ⟨w.heap.size + 1, 0, none⟩ = some (.int .i64 ((K + nb : Nat) : Int)) := by have := HS.out.1; simp [World.cell?, this]
      have v9 : w11.cell? ⟨w.heap.size + 1 + 1, 0, none⟩ = some (.int .i64 hv) := by have := HS.out.2.1; simp [World.cell?, this]
      have v10 : w11.cell? ⟨w.heap.size + 1 + 1 + 1, 0, none⟩ = some (.int .i64 0) := by have := HS.out.2.2.1; simp [World.cell?, this]
      have hXe : Ext (λ k => w.heap.size <= k /\ k < w.heap.size + 5) wr w11 := ((HS.out.2.2.2.1.mono (S' := λ k => w.heap.size <= k /\ k < w.heap.size + 5) λ k hk e => by omega).trans HS.out.2.2.2.2.1 λ k hk e => by omega).trans HS.out.2.2.2.2.2 λ k hk e => by omega
      have hXt := HE.out.2.2.2.1.trans hXe λ k hk e => by omega
      have hTt := HE.out.2.2.2.2.1.ext hXe λ k hk e => by
       rcases HE.out.2.2.1 k hk with h | h
       . exact hnq k e.1 h
       . omega
      have HFin := zB (show vX w d l q { T with ps := allP ps css, live := zU (allP ps css) } (zS (allP ps css)) w11 from ⟨q7, HE.out.1, HE.out.2.1, λ j hj => (HE.out.2.2.1 j hj).imp id λ e => by omega, hXt, hTt⟩);clear hXe hXt hTt;refine leaves_cons (f := 93) (args := #[.pointer (some ⟨w.heap.size + 1, 0, none⟩), .pointer (some ⟨w.heap.size + 1 + 1, 0, none⟩), .pointer (some ⟨w.heap.size + 1 + 1 + 1, 0, none⟩)]) (by simp) (by simp [go_sem]) ?_;refine (catch_idle _ _ _ _).mono ?_;rintro e u' w'' ⟨rfl, rfl, rfl⟩;simp [Leaves, settle, results, Tryz.results51, go_sem, v8, v9, v10];exact ⟨by rw [HK.out, Hnb.out], HFin.out⟩
theorem below_of_ext {w w' : World} {g : Nat} (hX : Ext (· = g) w w') (h : w'.heap[g]? = w.heap[g]?) : Below w.heap.size w w' := by
 refine ⟨hX.os, hX.tape, hX.output, hX.size, λ k hk => ?_⟩;by_cases e : k = g
 . rw [e]; exact h
 . exact hX.block k hk e
theorem falls_still (d first size : Nat) (k : LBk) (L : LogS) (w : World) (h : tH w d first size k L) (hf : L.fallen = false) :
 Calls Tryz.prog 87 #[.pointer (some ⟨k.l, 0, none⟩), .bool false] w λ e w' => e = .returned (.int .i64 0) /\ Below w.heap.size w w' := by
 refine (pE d first size k L false w h).mono ?_;rintro e w' ⟨rfl, hL, hX⟩;refine ⟨by rw [hf]; rfl, below_of_ext hX ?_⟩;have e2 : L.fall false = L := by unfold LogS.fall; rw [Bool.or_false]
 rw [e2] at hL;exact hL.cells.trans h.cells.symm
theorem jR (b : Bks) (x : Dsk) (N first size : Nat) (k : LBk) (L : LogS) (w : World) (h : LSys w b x N first size k L) (hf : L.fallen = false) (ho : x.off = false) :
 Calls Tryz.prog 84 #[.pointer (some ⟨k.l, 0, none⟩)] w λ e w' => e = .returned (.int .i64 0) /\ Below w.heap.size w w' := by
 obtain ⟨c0, -⟩ := h.log.cs;have hd := kK b x w h.sys.dsk.head;rw [ho] at hd;have HD := zB hd;have HF := zB (falls_still b.d first size k L w h.log hf);clear h hd hf ho;go_enter Tryz.func84, Tryz.ntmps84
 go_wp2_with fail
 refine HD.out.mono ?_;rintro e w' ⟨rfl, rfl⟩
 go_wp2_with fail
 refine HF.out.mono ?_;rintro e w2 ⟨rfl, hB⟩
 go_wp2_with fail
 go_ret
 exact ⟨rfl, hB⟩
theorem lread_still (b : Bks) (x : Dsk) (N first size : Nat) (k : LBk) (L : LogS) (n : Nat) (hn : n <= 9223372036854775807) (w : World) (h : LSys w b x N first size k L) (hr : L.starts.Pairwise (· < ·)) (hs : L.starts.length <= 65536) (hfl : L.fallen = false) (hoff : x.off = false) :
 Calls Tryz.prog 92 #[.pointer (some ⟨k.l, 0, none⟩), .int .u64 n] w λ e w' => LReadPost (lreadR x first size L n) w.heap.size e w' /\ Below w.heap.size w w' := by
 have HR := zB (jR b x N first size k L w h hfl hoff);have HS0 := zB h;have Hf0 := zB (zC hfl hoff);clear h hfl hoff;go_enter Tryz.func92, Tryz.ntmps92
 go_wp2_with fail
 refine HR.out.mono ?_;rintro e w1 ⟨rfl, hB1⟩;have hS1 := HS0.out.below hB1
 . have hcs := hS1.log.cs;obtain ⟨y0, y1, y2, -, y4, -, -, -, y8, -⟩ := hcs;obtain ⟨sa, sc, hks, -⟩ := zP hS1.log.starts;rw [hks] at y8;have HBS := zB (nN k.s L.starts hr n w1 (Src.of_owns hS1.log.starts) (by omega));rw [hks] at HBS;have hf : (L.fallen || x.off) = false := by rw [Hf0.out.1, Hf0.out.2]; rfl
   have hrr : lreadR x first size L n = if n ∈ L.starts then (match xL x first size n 0 L.head.epoch with
    | .ok d => .ok d.1
    | .error c => .error c) else .error 4 := by unfold lreadR; rw [if_neg (by rw [hf]; decide)]; rfl
   have Hrr := zB hrr;have HS1 := zB (zC hS1 hB1);clear hf hS1 hB1 hrr hks
   go_wp2_with fail
   refine HBS.out.mono ?_;rintro e w2 ⟨rfl, hB2⟩;have HS2 := zB (HS1.out.1.below hB2);have y0 := zG hB2 y0;have y1 := zG hB2 y1;have y2 := zG hB2 y2;have y4 : w2.cell? ⟨k.l, 4, none⟩ = some (.int .u64 (L.head.epoch : Int)) := zG hB2 y4;have HB2 := zB hB2;by_cases hin : n ∈ L.starts
   . rw [decide_eq_true hin];have Hr2 := zB (Hrr.out.trans (if_pos hin));clear hin hB2 y8;have HRe := zB λ w' (hw : Below w2.heap.size w2 w') => record_any b x first size n 0 L.head.epoch hn HS2.out.big HS2.out.fit w' ((HS2.out.below hw).sys.dsk) HS2.out.sys.ok.ok ((HS2.out.below hw).sys.pkg);unfold vH at HRe;generalize hRc : xL x first size n 0 L.head.epoch = rc at HRe Hr2;clear hRc
     go_wp2_with fail
     cases rc with
     | error c =>
      refine zY (λ i => if i = 10 then some (λ v _ => c ≠ 0 /\ v = .tuple #[.slice none 0 0, .int .u64 0, .int .i64 c]) else none) fol (by kernel_rfl) (λ W hW hh => ?_);clear hh;have q0 := zV hW y0;have q1 := zV hW y1;have q2 := zV hW y2;have q4 := zV hW y4
      repeat ((first | refine zL _ (by first | exact .inl rfl | exact .inr rfl) rfl rfl ?_ | (refine zJ ?_ rfl rfl (λ w1 hb1 hf1 => ?_) ?_; rotate_left; (go_simp; (try simp (disch := omega) only [zE, toNatUp, iteOmega]); (try go_simp); rfl)) | refine zM rfl ?_); simp only [zD])
      refine zW _ rfl (λ _ _ _ h _ => h) rfl (λ w1 hb1 hf1 => ?_) ?_
      . (unfold yE; go_simp; simp only [zN])
        refine (HRe.out _ (zF hW hb1)).mono ?_;rintro e w' ⟨hpost, hbb⟩;obtain ⟨hc, rfl⟩ : c ≠ 0 /\ e = _ := hpost;exact ⟨_, rfl, hbb, hc, rfl⟩
      rintro v10 W4 hB10 ⟨hc, rfl⟩;simp only [zD]
      repeat ((first | refine zL _ (by first | exact .inl rfl | exact .inr rfl) rfl rfl ?_ | (refine zJ ?_ rfl rfl (λ w1 hb1 hf1 => ?_) ?_; rotate_left; (go_simp; (try simp (disch := omega) only [zE, toNatUp, iteOmega]); (try go_simp); rfl)) | refine zM rfl ?_); simp only [zD])
      refine zZ ?_;clear q0 q1 q2 q4;have hB4 := zF HB2.out (zF hW hB10)
      go_wp2_with fail
      go_ret2
      rw [Hr2.out];exact ⟨⟨hc, rfl⟩, HS1.out.2.trans (hB4.mono HS1.out.2.size)⟩
     | ok d =>
      refine zY (λ i => if i = 10 then some (λ v w' => ∃ g o l c, v = .tuple #[.slice (some ⟨g, o, none⟩) l c, .int .u64 d.2, .int .i64 0] /\ Win w' w2.heap.size (.slice (some ⟨g, o, none⟩) l c) (u8s d.1)) else none) fol (by kernel_rfl) (λ W hW hh => ?_);clear hh;have q0 := zV hW y0;have q1 := zV hW y1;have q2 := zV hW y2;have q4 := zV hW y4
      repeat ((first | refine zL _ (by first | exact .inl rfl | exact .inr rfl) rfl rfl ?_ | (refine zJ ?_ rfl rfl (λ w1 hb1 hf1 => ?_) ?_; rotate_left; (go_simp; (try simp (disch := omega) only [zE, toNatUp, iteOmega]); (try go_simp); rfl)) | refine zM rfl ?_); simp only [zD])
      refine zW _ rfl (by exact λ _ _ _ ⟨g, o, l, c, h1, h2⟩ hb => ⟨g, o, l, c, h1, h2.below hb⟩) rfl (λ w1 hb1 hf1 => ?_) ?_
      . (unfold yE; go_simp; simp only [zN])
        have hsz := (zF hW hb1).size;refine (HRe.out _ (zF hW hb1)).mono ?_;rintro e w' ⟨⟨u, rfl, hw⟩, hbb⟩;obtain ⟨g, o, l, c, rfl⟩ := hw.shape;exact ⟨_, rfl, hbb, g, o, l, c, rfl, hw.base hsz⟩
      rintro v10 W4 hB10 ⟨g, o, l, c, rfl, hw⟩;simp only [zD]
      repeat ((first | refine zL _ (by first | exact .inl rfl | exact .inr rfl) rfl rfl ?_ | (refine zJ ?_ rfl rfl (λ w1 hb1 hf1 => ?_) ?_; rotate_left; (go_simp; (try simp (disch := omega) only [zE, toNatUp, iteOmega]); (try go_simp); rfl)) | refine zM rfl ?_); simp only [zD])
      refine zZ ?_;clear q0 q1 q2 q4;have hB4 := zF HB2.out (zF hW hB10);have hws : w.heap.size <= w2.heap.size := Nat.le_trans HS1.out.2.size HB2.out.size
      go_wp2_with fail
      go_ret2
      rw [Hr2.out];exact ⟨⟨_, rfl, hw.base hws⟩, HS1.out.2.trans (hB4.mono HS1.out.2.size)⟩
   . rw [decide_eq_false hin];have Hr2 := zB (Hrr.out.trans (if_neg hin));clear hin y0 y1 y2 y4 y8 hB2
     go_wp2_with fail
     go_ret2
     rw [Hr2.out];exact ⟨⟨by decide, rfl⟩, HS1.out.2.trans (HB2.out.mono HS1.out.2.size)⟩
end Go.Proofs.YtbjofbhhnmehgaaGreatDoor.TT
namespace Go.RG
open Go.RowKit
def SeqO {α : Type} (F : Fence) (n : Nat) (P : Program) (g : Nat) (lb : Array Value) (encs : α -> Array Value) (Kp : World -> World -> Prop) (S Sp : List α -> Prop) (Ok : List α -> α -> Prop) (w : World) : Prop :=
 ∀ (l : Nat) (J Jx : List α -> World -> Prop) (W : World), Below w.heap.size w W -> OwnFrom W.heap.size J -> OwnFrom W.heap.size Jx ->
  (∀ pre x W1, J pre W1 -> Ok pre x -> YieldAt F (n - 1) P l (encs x) W1 λ e W' =>
   (e = .returned (.bool true) /\ J (pre ++ [x]) W' /\ Kp W1 W' /\ KeepsFrom W.heap.size W1 W') \/ (e = .returned (.bool false) /\ Jx (pre ++ [x]) W' /\ KeepsFrom W.heap.size W1 W')) ->
  J [] W ->
  CallsIn F n P g (#[.func (.yield l) #[] #[]] ++ lb) W λ e W' => (∃ v, e = .returned v) /\ ((∃ xs, S xs /\ J xs W') \/ (∃ pre, Sp pre /\ Jx pre W'))
theorem KeepsFrom.up {B B' : Nat} {W W' : World} (h : KeepsFrom B W W') (hB : B <= B') : KeepsFrom B' W W' := ⟨h.size, λ k o hk => h.same k o (Nat.le_trans hB hk)⟩
section
variable {F : Fence} {n : Nat} {P : Program}
end
end Go.RG
namespace Go.RG
open Go.RowKit
def SeqX {α : Type} (F : Fence) (n : Nat) (P : Program) (g : Nat) (lb : Array Value) (encs : α -> Array Value) (Kp : α -> World -> World -> Prop) (S Sp : List α -> Prop) (Ok : List α -> α -> World -> Prop) (w : World) : Prop :=
 ∀ (l : Nat) (J Jx : List α -> World -> Prop) (W : World), Below w.heap.size w W -> OwnFrom W.heap.size J -> OwnFrom W.heap.size Jx ->
  (∀ pre x W1, J pre W1 -> Ok pre x W1 -> YieldAt F (n - 1) P l (encs x) W1 λ e W' =>
   (e = .returned (.bool true) /\ J (pre ++ [x]) W' /\ Kp x W1 W' /\ KeepsFrom W.heap.size W1 W') \/ (e = .returned (.bool false) /\ Jx (pre ++ [x]) W' /\ KeepsFrom W.heap.size W1 W')) ->
  J [] W ->
  CallsIn F n P g (#[.func (.yield l) #[] #[]] ++ lb) W λ e W' => (∃ v, e = .returned v) /\ ((∃ xs, S xs /\ J xs W') \/ (∃ pre, Sp pre /\ Jx pre W'))
section
variable {F : Fence} {n : Nat} {P : Program}
theorem jK {α : Type} {g : Operand} {ps : Array Tmp} {assign body : Code} {Q : Exit -> Act -> World -> Prop} {a : Act} {w : World}
 (hro : F.round = none) (h1 : 1 <= n) {gf : Nat} {lb : Array Value} (hg : a.eval g = .func (.func gf) #[] lb) (hFg : F.fn gf) (eg : ∀ args w, (callFunc gf args).run P w = .ok (.enter gf args) w)
 {encs : α -> Array Value} {Kp : α -> World -> World -> Prop} {S Sp : List α -> Prop} {Ok : List α -> α -> World -> Prop} {w0 : World} (hseq : SeqX F (n - 1) P gf lb encs Kp S Sp Ok w0)
 (hKt : ∀ {x : α} {A B C : World}, Kp x A B -> Kp x B C -> Kp x A C) (hKb : ∀ (x : α) (W : World) (l : Nat) (o o' : Obj), w.heap.size <= l -> W.heap[l]? = some o -> o.isCells = false -> o.isWalk = false -> Kp x W (W.putObj l o')) (hb0 : Below w0.heap.size w0 w) (hps : ∀ x, (encs x).size = ps.size)
 (I : List α -> World -> Prop) (Ix : Code -> List α -> World -> Prop) (hI : OwnFrom w.heap.size I) (hIx : ∀ c, OwnFrom w.heap.size (Ix c)) (h0 : I [] w) (Ax : List α -> α -> Act -> World -> Prop) (hAx : ∀ pre x a', OwnFrom w.heap.size (λ (_ : Unit) W => Ax pre x a' W))
 (hassign : ∀ (l : Nat) (pre : List α) (x : α) (W : World) (K : Act -> World -> Prop), I pre W -> Ok pre x W -> (∀ a' W', KeepsFrom w.heap.size W W' -> Kp x W W' -> I pre W' -> Ax pre x a' W' -> K a' W') ->
  assign.wpIn (F.inRound l) (n - 1 - 1) P (Exit.then K (λ _ _ _ => False)) { tmps := (ps.zip (encs x)).foldl (λ t (p, v) => t.setIfInBounds p v) a.tmps, defers := [] } W)
 (hbody : ∀ (l : Nat) (pre : List α) (x : α) (a' : Act) (W : World), w.heap.size <= l -> (∃ r, W.heap[l]? = some (.loop r)) -> I pre W -> Ax pre x a' W -> body.wpIn (F.inRound l) (n - 1 - 1) P (ownPostG w.heap.size (Kp x) I Ix (pre ++ [x]) W) a' W)
 (hdone : ∀ (D : Nat) (xs : List α) (W : World), w.heap.size <= D -> S xs -> I xs W -> W.heap[D]? = some (.deferred (some [])) -> Q .normal { a with defers := { target := .collected D, args := #[] } :: a.defers } W)
 (hstop : ∀ (D : Nat) (c : Code) (pre : List α) (W : World), w.heap.size <= D -> Sp pre -> Ix c pre W -> W.heap[D]? = some (.deferred (some [])) -> c.wpIn F n P Q { a with defers := { target := .collected D, args := #[] } :: a.defers } W) :
 (Code.rangeFunc g ps assign body).wpIn F n P Q a w := by
 refine wpIn_rangeFunc ?_;intro fn hfn;rw [hro]
 -- the loop's record lies at L, the block for the rounds' deferred calls at D
 obtain ⟨D, hD⟩ : ∃ D, D = w.heap.size := ⟨_, rfl⟩;obtain ⟨rc, hrc⟩ : ∃ rc : LoopState -> Option Code -> Loop, rc = λ st pe => { state := st, pending := pe, fn, tmps := a.tmps, params := ps, assign, body, defers := D } := ⟨_, rfl⟩;obtain ⟨V, hV⟩ : ∃ V, (w.alloc (.deferred (some []))).alloc (.loop (rc .ready none)) = V := ⟨_, rfl⟩;have vL : V.heap[D + 1]? = some (.loop (rc .ready none)) := by
  rw [<- hV, hD];have := World.alloc_heap_new (w.alloc (.deferred (some []))) (.loop (rc .ready none))
  rwa [World.size_alloc] at this
 have vD : V.heap[D]? = some (.deferred (some [])) := by
  rw [<- hV, hD];exact (Below.heap_alloc _ _ _ (by simp)).trans (World.alloc_heap_new w _)
 have vI : I [] V := by rw [<- hV]; exact hI.alloc _ (hI.alloc _ h0)
 have vB : Below w0.heap.size w0 V := by
  rw [<- hV];exact hb0.trans ((((Below.refl _ w).alloc (Nat.le_refl _) _).alloc (by simp) _).mono hb0.size)
 have vz : D + 1 < V.heap.size := (Array.getElem?_eq_some_iff.1 vL).1;refine ⟨D + 1, [{ target := .collected D, args := #[] }], V, { target := .fn (.func gf) lb, args := #[.func (.yield (D + 1)) #[] #[]] }, V, gf, #[.func (.yield (D + 1)) #[] #[]] ++ lb, V, ?_, ?_, ?_, ?_, λ _ => h1, ?_⟩
 . rw [<- hV, hrc, hD];exact run_enterLoop_outer _ _ _ _ _
 . simp only [resolve, hg];simp [go_sem]
 . intro f' hf';simp [Target.leads] at hf';subst hf';exact hFg
 . simp [invoke, go_sem, eg]
 . -- a block that lies where it lay: the record, the deferred calls' block
   have stay : ∀ {A B : World} {row : Option Nat} {k : Nat} {o : Obj}, A.heap[k]? = some o -> k < V.heap.size -> A.grownBy B row -> (∀ r, row = some r -> V.heap.size <= r /\ ∃ o : Obj, A.heap[r]? = some o /\ o.isCells = false) -> B.heap[k]? = some o :=
    λ hk hlt hg hr => (hg.block _ (Array.getElem?_eq_some_iff.1 hk).1 (λ e => by have := (hr _ e.symm).1; omega)).trans hk
   have up : ∀ {A : World} {row : Option Nat}, (∀ r, row = some r -> V.heap.size <= r /\ ∃ o : Obj, A.heap[r]? = some o /\ o.isCells = false) -> ∀ r, row = some r -> w.heap.size <= r /\ ∃ o : Obj, A.heap[r]? = some o /\ o.isCells = false :=
    λ hr r e => ⟨by have := (hr r e).1; omega, (hr r e).2⟩
   refine (hseq (D + 1) (λ pre W => I pre W /\ W.heap[D + 1]? = some (.loop (rc .ready none)) /\ W.heap[D]? = some (.deferred (some [])))
    (λ pre W => ∃ c, Ix c pre W /\ W.heap[D + 1]? = some (.loop (rc .done (some c))) /\ W.heap[D]? = some (.deferred (some []))) V vB
    (λ s A B row hs hg' hr => ⟨hI s A B row hs.1 hg' (up hr), stay hs.2.1 vz hg' hr, stay hs.2.2 (by omega) hg' hr⟩)
    (λ s A B row ⟨c, hc, hl, hk⟩ hg' hr => ⟨c, hIx c s A B row hc hg' (up hr), stay hl vz hg' hr, stay hk (by omega) hg' hr⟩) ?_ ⟨vI, vL, vD⟩).mono ?_
   . -- a round
     rintro pre x W ⟨hi, hl, hk⟩ hlen;have hy := run_yield (P := P) (args := encs x) hl (by rw [hrc]; exact hps x);rw [hrc] at hy;refine ⟨fn, _, assign, body, hy, roundIn_of_wpIn hfn (hassign _ pre x W _ hi hlen ?_)⟩;clear hy;intro a' A hkf hkp hia hax;have lA := hkf.same _ _ (by omega) hl rfl;have dA := hkf.same _ _ (by omega) hk rfl;have zA : D + 1 < A.heap.size := (Array.getElem?_eq_some_iff.1 lA).1;refine ⟨_, run_beginRound lA (by rw [hrc]), ?_⟩;obtain ⟨C, hC⟩ : ∃ C, A.putObj (D + 1) (.loop { rc .ready none with state := .busy }) = C := ⟨_, rfl⟩;have lC : C.heap[D + 1]? = some (.loop { rc .ready none with state := .busy }) := by rw [<- hC]; exact World.putObj_heap_same zA
     have dC : C.heap[D]? = some (.deferred (some [])) := by rw [<- hC]; exact (World.putObj_heap_other (by omega)).trans dA
     have kC : Kp x A C := by rw [<- hC]; exact hKb _ _ _ _ _ (by omega) lA rfl rfl
     have iC : I pre C := by rw [<- hC]; exact hI.putObj _ hia (by omega) lA rfl
     have xC : Ax pre x a' C := by rw [<- hC]; exact (hAx pre x a').putObj (s := ()) _ hax (by omega) lA rfl
     rw [hC];refine wpIn_mono (hbody _ pre x a' C (by omega) ⟨_, lC⟩ iC xC) ?_;have fin : ∀ (jump : Option Code) (E : World), KeepsFrom w.heap.size C E ->
      ∃ T, (Instr.endRound (D + 1) jump).run P E = .ok (.bool jump.isNone) T /\ T = E.putObj (D + 1) (.loop (rc (if jump.isNone then .ready else .done) jump)) /\ E.heap[D + 1]? = some (.loop { rc .ready none with state := .busy }) /\
       T.heap[D + 1]? = some (.loop (rc (if jump.isNone then .ready else .done) jump)) /\ T.heap[D]? = some (.deferred (some [])) := λ jump E hE => by
      have lE := hE.same _ _ (by omega) lC rfl;have dE := hE.same _ _ (by omega) dC rfl;have r := run_endRound (P := P) jump lE;rw [hrc] at r lE ⊢;exact ⟨_, r, rfl, lE, World.putObj_heap_same (Array.getElem?_eq_some_iff.1 lE).1, (World.putObj_heap_other (by omega)).trans dE⟩
     have kf : ∀ {E T : World} {o : Obj}, KeepsFrom w.heap.size C E -> T = E.putObj (D + 1) o -> KeepsFrom V.heap.size W T := λ hE hT => by
      subst hT;have hA : KeepsFrom V.heap.size W A := KeepsFrom.up hkf (by omega);have hC' : KeepsFrom V.heap.size A C := by rw [<- hC]; exact KeepsFrom.of_grownBy (grownBy_putObj' _ _ _) λ j e => by cases e; omega
      exact ((hA.trans hC').trans (KeepsFrom.up hE (by omega))).trans (KeepsFrom.of_grownBy (grownBy_putObj' _ _ _) λ j e => by cases e; omega)
     rintro e a3 E hp
     cases e with
     | normal =>
      obtain ⟨hE, hkE, hiE⟩ := hp;obtain ⟨T, hr, rfl, lE, lT, dT⟩ := fin none E hE;exact ⟨_, _, hr, .inl ⟨rfl, ⟨hI.putObj _ hiE (by omega) lE rfl, lT, dT⟩, hKt hkp (hKt (hKt kC hkE) (hKb _ _ _ _ _ (by omega) lE rfl rfl)), kf hE rfl⟩⟩
     | ret =>
      obtain ⟨T, hr, rfl, lE, lT, dT⟩ := fin (some .ret) E hp.1;exact ⟨_, _, hr, .inr ⟨rfl, ⟨.ret, (hIx _).putObj _ hp.2 (by omega) lE rfl, lT, dT⟩, kf hp.1 rfl⟩⟩
     | exit id =>
      obtain ⟨T, hr, rfl, lE, lT, dT⟩ := fin (some (.exit id)) E hp.1;exact ⟨_, _, hr, .inr ⟨rfl, ⟨.exit id, (hIx _).putObj _ hp.2 (by omega) lE rfl, lT, dT⟩, kf hp.1 rfl⟩⟩
     | goto t =>
      obtain ⟨T, hr, rfl, lE, lT, dT⟩ := fin (some (.goto t)) E hp.1;exact ⟨_, _, hr, .inr ⟨rfl, ⟨.goto t, (hIx _).putObj _ hp.2 (by omega) lE rfl, lT, dT⟩, kf hp.1 rfl⟩⟩
     | panic ch => exact hp.elim
     | outgrown => exact hp.elim
   . -- pI the iterator
     rintro e E ⟨⟨v, rfl⟩, (⟨xs, hS, hi, hl, hk⟩ | ⟨pre, hSp, c, hi, hl, hk⟩)⟩
     . have r := run_endLoop (P := P) hl (by rw [hrc]; simp);rw [hrc] at r;exact ⟨none, _, r, hdone _ xs _ (by omega) hS (hI.putObj _ hi (by omega) hl rfl) ((World.putObj_heap_other (by omega)).trans hk)⟩
     . have r := run_endLoop (P := P) hl (by rw [hrc]; simp);rw [hrc] at r;exact ⟨some c, _, r, hstop _ c pre _ (by omega) hSp ((hIx c).putObj _ hi (by omega) hl rfl) ((World.putObj_heap_other (by omega)).trans hk)⟩
end
end Go.RG
namespace Go.RG
open Go.RowKit
section
variable {P : Program} {ops : Array Oper} {base : World} {sp : Nat -> Option Spec} {md : Region.Mode} {l0 n0 : Nat}
theorem lB {o : Oper} {a : Act} {w : World} {R : Value -> World -> Prop} {K : Act -> World -> Prop} {Q : Exit -> Act -> World -> Prop}
 (hd : ∀ c, o.op ≠ .defer c) (h : yE P o a w R) (hK : ∀ v w', R v w' -> K (a.put o.dst v) w') : o.wpIn (Fence.wide.inRound l0) n0 P a w K Q := by
 unfold yE at h;unfold Oper.wpIn;refine ⟨λ f _ => trivial, ?_⟩;rw [Oper.semAt_eq _ _ _ hd];generalize (execOp a.eval o).run P w = r at *
 cases r with
 | ok n w' =>
  cases n <;> simp only [zN] at h <;> simp only [Oper.uponIn]
  case value v => exact hK _ _ h
  case skip => exact hK _ _ h
  case enter f args => exact ⟨(λ h => by cases h), CallsIn.inRound l0 (callsIn_wide.2 (h.mono λ e w'' ⟨v, he, hv⟩ => by subst he; exact hK _ _ hv))⟩
 | halt x w' => simp only [zN] at h
def noDeferB (ops : Array Oper) : Bool := ops.toList.all λ o => match o.op with | .defer _ => false | _ => true
theorem noDefer {ops : Array Oper} (h : noDeferB ops = true) : ∀ (i : Nat) (o : Oper), ops[i]? = some o -> ∀ c, o.op ≠ .defer c := by
 intro i o ho c hc;have h := List.all_eq_true.1 h o (by rw [Array.mem_toList_iff]; exact Array.mem_of_getElem? ho);rw [hc] at h
 cases h
end
end Go.RG
namespace Go.RG
open Go.RowKit
section
variable {ρ : Grow} {P : Program} {ops : Array Oper} {base : World} {CB : World -> Prop} {kd : Nat -> Kindx} {l n : Nat} {l0 n0 : Nat}
theorem mA {Q : Exit -> Act -> World -> Prop} : ∀ (ls : List Oper) (k : Nat) (listed : Array Bool) (a : Act) (w : World), (∀ j, ls[j]? = ops[k + j]?) ->
 Region.seqB mdA ops ls.length k listed = true -> wpListIn (Fence.wide.inRound l0) n0 P ops Q ls a w -> wpAnyIn (Fence.wide.inRound l0) n0 P mdA ops Q ls.length listed a w
 | [], _, _, _, _, _, hB, h => ⟨by simpa [Region.seqB] using hB, h⟩
 | o :: ls, k, listed, a, w, hl, hB, h => by
  have h0 : ops[k]? = some o := by simpa using (hl 0).symm
  simp only [List.length_cons, Region.seqB, Bool.and_eq_true, decide_eq_true_eq] at hB;refine ⟨λ h1 => (by rw [hB.1] at h1; cases h1), λ i hi => ?_⟩;rw [hB.1] at hi;have hik : i = k := by simpa using hi
  subst hik;have hw : wpOpIn (Fence.wide.inRound l0) n0 P ops Q i (wpListIn (Fence.wide.inRound l0) n0 P ops Q ls) a w := by unfold wpOpIn; simp only [h0]; exact h
  exact wpOpIn_mono (λ a' w' h' => mA ls (i + 1) _ a' w' (λ j => by have := hl (j + 1); simpa [Nat.add_assoc, Nat.add_comm 1 j] using this) hB.2 h') hw
theorem lD {g : Nat} {L : Array Bool -> Act -> World -> Prop} {Q : Exit -> Act -> World -> Prop} (hnd : ∀ (i : Nat) (o : Oper), ops[i]? = some o -> ∀ c, o.op ≠ .defer c) (sd : Sidesx ops kd l n) (hln : l < n)
 (hsub : ∀ w, ρ.r base w -> CB w) (hL : ∀ listed a w, L listed a w -> wpAnyIn (Fence.wide.inRound l0) n0 P mdA ops Q g listed a w) :
 ∀ (f : Nat) (listed : Array Bool) (Γ : zX) (a : Act) (w : World), HeadInv mdA ops n listed -> Atx ρ P base CB l listed Γ a w ->
  rxAny ρ P ops base CB kd n L f listed Γ a w -> wpAnyIn (Fence.wide.inRound l0) n0 P mdA ops Q (f + g) listed a w
 | 0, listed, Γ, a, w, _, _, h => by rw [Nat.zero_add]; exact hL _ _ _ h
 | f + 1, listed, Γ, a, w, inv, hat, h => by
  rw [show f + 1 + g = (f + g) + 1 by omega];refine ⟨λ h0 => absurd h0 h.1, λ i hi => ?_⟩;obtain ⟨hin, o, ho, hs⟩ := h.2 i hi;have hun := hQ (mem_ready.1 hi).1;have inv' := inv.set hi hin;have hgo := λ Γ' a' w' => lD hnd sd hln hsub hL f (listed.setIfInBounds i true) Γ' a' w' inv';unfold wpOpIn;simp only [ho];unfold xK at hs;have hne : (∀ R, kd i ≠ .late R) -> i ≠ l := λ h e => by
   obtain ⟨R, hR⟩ := sd.late;exact h R (e ▸ hR)
  have hone : i ≠ l -> (kd i).isBig = false -> listed.getD l false = false := λ h1 h2 => by
   rcases sd.ahead i hin h1 with h | h
   . rw [h] at h2; cases h2
   . exact (wU inv _ i h hun).1
  split at hs
  . rename_i hk;have hil : i ≠ l := hne (λ R => by rw [hk]; intro h; cases h);obtain ⟨v, hy, hK⟩ := hs;obtain ⟨h1, h2, h3⟩ := hat.one (hone hil (by rw [hk]; rfl));have hnext := hgo _ _ _ (hat.small (d := o.dst) (v := v) hil) hK;rcases hy with ⟨hw, hr⟩ | ⟨hw, rfl⟩
    . rw [if_pos hw];unfold Oper.wpIn;refine ⟨λ f _ => trivial, ?_⟩;rw [Oper.semAt_eq _ _ _ (hnd i o ho), hr w h1 (λ t _ ht => h2 t ht)];exact hnext
    . rw [if_neg (by simp [hw])];exact ⟨λ f _ => trivial, hnext⟩
  . rename_i S hk;have hil : i ≠ l := hne (λ R => by rw [hk]; intro h; cases h);obtain ⟨⟨hw, hSs, hm⟩, hK⟩ := hs;have hlu := hone hil (by rw [hk]; rfl);obtain ⟨h1, h2, h3⟩ := hat.one hlu;rw [if_pos hw];refine lB (hnd i o ho) (hm w h1 (λ t _ ht => h2 t ht)) λ v w' ⟨hb, hS⟩ => ?_;exact hgo _ _ _ (hat.make hlu hil hsub hb hS hSs) (hK v w' hb hS)
  . rename_i hk;have hil : i ≠ l := hne (λ R => by rw [hk]; intro h; cases h);obtain ⟨v, hy, hK⟩ := hs;have hnext := hgo _ _ _ (hat.small (d := o.dst) (v := v) hil) hK;rcases hy with ⟨hw, hr⟩ | ⟨hw, rfl⟩
    . rw [if_pos hw];unfold Oper.wpIn;refine ⟨λ f _ => trivial, ?_⟩;rw [Oper.semAt_eq _ _ _ (hnd i o ho), hr w hat.big];exact hnext
    . rw [if_neg (by simp [hw])];exact ⟨λ f _ => trivial, hnext⟩
  . rename_i R hk;have hil : i = l := by
     by_cases e : i = l
     . exact e
     . exact absurd hk (sd.others i hin e R)
    subst hil;obtain ⟨hw, R1, hm, hK⟩ := hs;rw [if_pos hw];refine lB (hnd i o ho) hm λ v w' ⟨hb, hS⟩ => ?_;refine hgo _ _ _ (Atx.late (Γ := Γ) (a := a) ?_ hb) (hK v w' hb hS);rw [inv.size];exact (Array.getElem?_eq_some_iff.1 ho).1
end
section
variable {P : Program} {id : Nat} {Q : Exit -> Act -> World -> Prop} {a : Act} {w : World} {ls : List Oper} {l0 n0 : Nat}
theorem kS (ρ : Grow) (n : Nat) (big : List Nat) (mk : Nat -> Option ((Nat -> Value) -> Spec)) (CB : World -> Prop) (R : Spec) (hm : P.follows .mixedOrders = true) (hB : (noDeferB ls.toArray && (lateB ls.toArray big n && aftB ls.toArray)) = true)
 (hsub : ∀ b, b.heap = w.heap -> Below w.heap.size w b -> ∀ w', ρ.r b w' -> CB w')
 (h : ∀ b, Below w.heap.size w b -> b.heap = w.heap -> oL ρ P ls.toArray b CB (sN big mk n R) (λ a' w' => wpListIn (Fence.wide.inRound l0) n0 P ls.toArray Q (ls.drop n) a' w') (ls.take n) 0 zX.empty a b) :
 (Code.region id ls.toArray true).wpIn (Fence.wide.inRound l0) n0 P Q a w := by
 obtain ⟨hdf, hB⟩ := Bool.and_eq_true_iff.1 hB;obtain ⟨hB, haft⟩ := Bool.and_eq_true_iff.1 hB;have aft := aftB_spec haft;simp only [lateB, Bool.and_eq_true, decide_eq_true_eq] at hB;obtain ⟨⟨⟨hB1, hpos⟩, hlast⟩, hbig⟩ := hB;simp only [Region.lexTailB, Bool.and_eq_true, decide_eq_true_eq] at hB1;obtain ⟨⟨⟨⟨hsel, hn⟩, hs⟩, hc⟩, hlex⟩ := hB1;have htl : (ls.take n).length = n := by simp at hn; simp; omega
 have hdl : (ls.drop n).length = ls.toArray.size - n := by simp
 have inv0 : HeadInv .any ls.toArray n (Array.replicate ls.toArray.size false) :=
  ⟨by simp, λ j oj _ hl => (by rw [getD_replicate_false] at hl; cases hl), λ t _ ht => getD_in (by simpa using ht) (getD_replicate_false _ _)⟩
 have sd : Sidesx ls.toArray (sN big mk n R) (n - 1) n := by
  refine ⟨Region.noSelect_spec hsel, λ i hin listed inv hun j hj => ?_, λ i hin hil => ?_, ⟨R, by simp [sN]⟩, λ i hin hil R' => ?_⟩
  . rcases Nat.lt_or_ge j n with h | h
    . exact h
    . exact absurd hj (tail_waits hs hc hn inv _ i rfl hin hun j h)
  . have := List.all_eq_true.1 hbig i (List.mem_range.2 (by omega));simp only [Bool.or_eq_true] at this;rcases this with h | h
    . left;unfold sN;rw [if_neg hil, if_pos h];rfl
    . exact .inr h
  . unfold sN;rw [if_neg hil]
    split
    . intro h; cases h
    . split <;> (intro h; cases h)
 have hw0 : Below w.heap.size w { w with drawn := w.drawn + 1 } := (Below.refl _ w).drew;have H := rx_lex (ρ := ρ) aft (g := ls.toArray.size - n) (Lq := λ a' w' => wpListIn (Fence.wide.inRound l0) n0 P ls.toArray Q (ls.drop n) a' w') sd (by omega)
  (λ listed' a' w' => Region.seqB .any ls.toArray (ls.toArray.size - n) n listed' = true /\ wpListIn (Fence.wide.inRound l0) n0 P ls.toArray Q (ls.drop n) a' w')
  (λ w' h' => hsub { w with drawn := w.drawn + 1 } rfl hw0 w' h') (λ listed a w hL => seqB_ready hL.1) (λ _ _ _ h1 h2 => ⟨h1, h2⟩)
  (ls.take n) 0 _ zX.empty a { w with drawn := w.drawn + 1 } (λ j hj => by
   have hj' : j < n := by rw [htl] at hj; exact hj
   simp [hj']) (by simpa using htl) inv0 (by rw [htl]; exact hlex) hlast rfl
  (λ _ => ⟨hsub { w with drawn := w.drawn + 1 } rfl hw0 _ (ρ.refl _), λ _ => ⟨ρ.refl _, zX.empty_ok _ _, (zX.empty_stab ρ)⟩⟩)
  (h { w with drawn := w.drawn + 1 } hw0 rfl)
 refine wpIn_region_any hm ?_;have := lD (ρ := ρ) (Q := Q) (g := ls.toArray.size - n) (l0 := l0) (n0 := n0) (noDefer hdf) sd (by omega) (λ w' h' => hsub { w with drawn := w.drawn + 1 } rfl hw0 w' h') (λ listed a' w' hL => by
  have := mA (Q := Q) (l0 := l0) (n0 := n0) (ls.drop n) n listed a' w' (λ j => by simp [List.getElem?_drop]) (by rw [hdl]; exact hL.1) hL.2
  rwa [hdl] at this) _ _ _ _ _ inv0 ⟨hsub { w with drawn := w.drawn + 1 } rfl hw0 _ (ρ.refl _), λ _ => ⟨ρ.refl _, zX.empty_ok _ _, (zX.empty_stab ρ)⟩⟩ H
 rw [htl, show n + (ls.toArray.size - n) = ls.toArray.size by simp at hn; simp; omega] at this;exact this
end
end Go.RG
namespace Go.Hp
open Go.RowKit Go.RG
structure GuardX (inv : World -> Prop) (Pr : World -> Nat -> Prop) : Prop where
 fresh : ∀ W W1, inv W -> Below W.heap.size W W1 -> inv W1 /\ (∀ k, Pr W k -> Pr W1 k) /\ ∀ k o, W.heap.size <= k -> W1.heap[k]? = some o -> o.isCells = true -> Pr W1 k
 lt : ∀ W k, Pr W k -> k < W.heap.size
 grown : ∀ W W' row, inv W -> W.grownBy W' row -> (∀ r, row = some r -> ∃ o : Obj, W.heap[r]? = some o /\ o.isCells = false) -> inv W' /\ ∀ k, Pr W k -> Pr W' k /\ W'.heap[k]? = W.heap[k]?
structure pJ (inv : World -> Prop) (Pr : World -> Nat -> Prop) (X : Nat -> Prop) (W W' : World) : Prop where
 safe : inv W -> inv W'
 size : W.heap.size <= W'.heap.size
 keep : inv W -> ∀ k, Pr W k -> ¬ X k -> Pr W' k /\ W'.heap[k]? = W.heap[k]?
section
variable {inv : World -> Prop} {Pr : World -> Nat -> Prop} {X : Nat -> Prop}
theorem pJ.refl (W : World) : pJ inv Pr X W W := ⟨id, Nat.le_refl _, λ _ _ h _ => ⟨h, rfl⟩⟩
theorem pJ.trans {A B C : World} (h : pJ inv Pr X A B) (k : pJ inv Pr X B C) : pJ inv Pr X A C :=
 ⟨λ h0 => k.safe (h.safe h0), Nat.le_trans h.size k.size, λ h0 i hi hx => let ⟨h1, h2⟩ := h.keep h0 i hi hx; let ⟨h3, h4⟩ := k.keep (h.safe h0) i h1 hx; ⟨h3, h4.trans h2⟩⟩
theorem pJ.grown (hG : GuardX inv Pr) {A B : World} {row : Option Nat} (hg : A.grownBy B row) (hr : ∀ r, row = some r -> ∃ o : Obj, A.heap[r]? = some o /\ o.isCells = false) : pJ inv Pr X A B :=
 ⟨λ h0 => (hG.grown A B row h0 hg hr).1, hg.size, λ h0 k hk _ => (hG.grown A B row h0 hg hr).2 k hk⟩
theorem pJ.putObj (hG : GuardX inv Pr) (W : World) (l : Nat) (o o' : Obj) (h : W.heap[l]? = some o) (ho : o.isCells = false) : pJ inv Pr X W (W.putObj l o') :=
 pJ.grown hG (grownBy_putObj' W l o') λ r e => by cases e; exact ⟨o, h, ho⟩
structure nI (inv : World -> Prop) (Pr : World -> Nat -> Prop) (A : Nat -> Prop) (w3 wr : World) : Prop where
 lo : inv wr
 pr : ∀ k, A k -> Pr wr k
 lt : ∀ k, A k -> k < wr.heap.size
 eq : ∀ k, A k -> wr.heap[k]? = w3.heap[k]?
variable {A A' : Nat -> Prop} {w3 wr W : World}
theorem nI.below (hG : GuardX inv Pr) (h : nI inv Pr A w3 wr) (hb : Below wr.heap.size wr W) : nI inv Pr A w3 W :=
 ⟨(hG.fresh wr W h.lo hb).1, λ k hk => (hG.fresh wr W h.lo hb).2.1 k (h.pr k hk), λ k hk => Nat.lt_of_lt_of_le (h.lt k hk) hb.size, λ k hk => (hb.block k (h.lt k hk)).trans (h.eq k hk)⟩
theorem nI.mono (h : nI inv Pr A w3 wr) (hA : ∀ k, A' k -> A k) : nI inv Pr A' w3 wr := ⟨h.lo, λ k hk => h.pr k (hA k hk), λ k hk => h.lt k (hA k hk), λ k hk => h.eq k (hA k hk)⟩
theorem nI.keep (h : nI inv Pr A w3 wr) (hb : pJ inv Pr X wr W) (hX : ∀ k, A k -> ¬ X k) : nI inv Pr A w3 W :=
 ⟨hb.safe h.lo, λ k hk => (hb.keep h.lo k (h.pr k hk) (hX k hk)).1, λ k hk => Nat.lt_of_lt_of_le (h.lt k hk) hb.size, λ k hk => (hb.keep h.lo k (h.pr k hk) (hX k hk)).2.trans (h.eq k hk)⟩
theorem nI.cell (h : nI inv Pr A w3 wr) {b o : Nat} {v : Value} (hb : A b) (hc : w3.cell? ⟨b, o, none⟩ = some v) : wr.cell? ⟨b, o, none⟩ = some v := by
 rw [World.cell?_of_block (w := w3) (h.eq b hb)]; exact hc
theorem qT {β : Type} {B : Nat} {J : β -> World -> Prop} (hJ : OwnFrom B J) {s : β} {W1 W2 : World} (h : J s W1) (hb : Below W1.heap.size W1 W2) : J s W2 :=
 hJ s W1 W2 none h ⟨hb.os, hb.tape, hb.output, hb.size, λ k hk _ => hb.block k hk⟩ (λ r e => by cases e)
end
end Go.Hp
namespace Go.Proofs.YtbjofbhhnmehgaaGreatDoor.TT
open Go.RowKit Go.RG Go.Hp Go.Proofs.YtbjofbhhnmehgaaGreatDoor
attribute [local go_sem] Oper.semAt_some
theorem und_entries : Tryz.prog.underlying 143 = some (.slice 148) := by kernel_rfl
theorem info_entry : (Tryz.prog.info? 148).map (λ i => (i.zero, i.size, i.bytes)) = some (some (.agg #[.int .u64 0, .slice none 0 0]), 2, 32) := by kernel_rfl
abbrev Ent2 := Nat × List Int
def entC : List Ent2 -> List Value -> List Value
 | e :: es, u :: us => .int .u64 e.1 :: u :: entC es us
 | _, _ => []
theorem entC_snoc : ∀ {es : List Ent2} {us : List Value} (_ : us.length = es.length) (e : Ent2) (u : Value), entC (es ++ [e]) (us ++ [u]) = entC es us ++ [.int .u64 e.1, u]
 | [], [], _, _, _ => rfl
 | _ :: es, _ :: us, h, e, u => by
  have := entC_snoc (es := es) (us := us) (by simpa using h) e u;simp only [List.cons_append, entC, this]
theorem entC_get : ∀ {es : List Ent2} {us : List Value} {i : Nat} {e : Ent2} {u : Value}, es[i]? = some e -> us[i]? = some u -> (entC es us)[i * 2]? = some (.int .u64 e.1) /\ (entC es us)[i * 2 + 1]? = some u
 | _ :: es, _ :: us, 0, e, u, h, k => by
  simp at h k;subst h k;exact ⟨rfl, rfl⟩
 | _ :: es, _ :: us, i + 1, e, u, h, k => by
  have := entC_get (es := es) (us := us) (i := i) (e := e) (u := u) (by simpa using h) (by simpa using k);rw [show (i + 1) * 2 = i * 2 + 1 + 1 by omega];simpa only [entC, List.getElem?_cons_succ] using this
 | [], _, i, e, u, h, k => by simp at h
 | _ :: es, [], i, e, u, h, k => by simp at k
def wR (w : World) (j : Nat) : Prop := ∃ o, w.heap[j]? = some o /\ o.isCells = true
theorem wR.lt {w : World} {j : Nat} (h : wR w j) : j < w.heap.size := by obtain ⟨o, h, -⟩ := h; exact zI h
theorem wR.below {w w' : World} {j : Nat} (h : wR w j) (hb : Below w.heap.size w w') : wR w' j := by obtain ⟨o, h1, h2⟩ := h; exact ⟨o, zK hb h1, h2⟩
theorem wR.ext {w w' : World} {j : Nat} {S : Nat -> Prop} (h : wR w j) (hX : Ext S w w') (hS : ¬ S j) : wR w' j := by
 obtain ⟨o, h1, h2⟩ := h;exact ⟨o, (hX.block j (zI h1) hS).trans h1, h2⟩
theorem sD {w : World} {B ty sz : Nat} {v : Value} {n : Nat} {xs : List Value} (h : w.ownsRow B ty sz v n xs) {k : Nat} (hk : v.ownBlock = some k) : wR w k := by
 rcases h.2 with ⟨rfl, -⟩ | ⟨g, cap, cur, rfl, -, hg, -⟩
 . cases hk
 . obtain rfl := Option.some.inj hk;exact ⟨_, hg, rfl⟩
structure mH (w : World) (B : Nat) (v : Value) (es : List Ent2) (us : List Value) : Prop where
 len : us.length = es.length
 row : w.ownsRow B 148 2 v es.length (entC es us)
 recs : ∀ (i : Nat) (e : Ent2) (u : Value), es[i]? = some e -> us[i]? = some u -> Src w u (u8s e.2) /\ ∀ j, u.ownBlock = some j -> B <= j /\ wR w j /\ v.ownBlock ≠ some j
 one : ∀ u ∈ us, u.oneCell' = true
theorem mH.below {w w' : World} {B : Nat} {v : Value} {es : List Ent2} {us : List Value} (h : mH w B v es us) (hb : Below w.heap.size w w') : mH w' B v es us :=
 ⟨h.len, yA h.row hb, λ i e u h1 h2 => ⟨(h.recs i e u h1 h2).1.below hb, λ j hj => let ⟨a, b, c⟩ := (h.recs i e u h1 h2).2 j hj; ⟨a, b.below hb, c⟩⟩, h.one⟩
theorem mH.nil (w : World) (B : Nat) : mH w B (.slice none 0 0) [] [] := ⟨rfl, World.ownsRow_nil _ _ _ _, λ i e u h => by simp at h, λ u h => by cases h⟩
theorem mH.app {w : World} {B : Nat} {v : Value} {es : List Ent2} {us : List Value} (h : mH w B v es us) (hn : es.length <= 1048576) (e : Ent2) (u : Value) (hu : Src w u (u8s e.2)) (hf : ∀ j, u.ownBlock = some j -> B <= j /\ wR w j /\ v.ownBlock ≠ some j) (hB : B <= w.heap.size) (g c : Nat)
 (hg : w.heap[g]? = some (.cells #[.int .u64 e.1, u] 148 (0, 0))) (ty : TypeId) :
 ∃ v' w', (Builtin.append_ #[143, 143] ty #[v, .slice (some ⟨g, 0, none⟩) 1 c]).run Tryz.prog w = .ok v' w' /\ mH w' B v' (es ++ [e]) (us ++ [u]) /\ Ext (λ j => v.ownBlock = some j) w w' /\ ∃ a cap, v' = .slice a (es.length + 1) cap := by
 have h1 : u.oneCell' = true := by obtain ⟨a, c, rfl, -⟩ := hu.shape; rfl
 obtain ⟨i0, hi, hz0, hz1, hz2⟩ := info_parts info_entry;obtain ⟨v', w', r1, r2, r3, r4⟩ := sG (P := Tryz.prog) w B 143 ty 148 i0 (.agg #[.int .u64 0, .slice none 0 0]) 2 32 und_entries hi hz0 hz1 hz2 rfl (by decide) v es.length _ h.row ⟨g, 0, none⟩ 1 c [.int .u64 e.1, u] rfl (λ j x hx => by
  rw [Addr.add_lit, Nat.zero_add];exact yV hg j x (by simpa using hx)) (λ x hx => by
   simp only [List.mem_cons, List.mem_nil_iff, or_false] at hx;rcases hx with rfl | rfl
   . rfl
   . exact h1) (by unfold maxLen; omega) (by omega) hB
 have hX : Ext (λ j => v.ownBlock = some j) w w' := r3.ext.mono λ k _ ⟨_, _, h, _⟩ => h;obtain ⟨a, cap, hsh, -⟩ := zP r2;refine ⟨v', w', r1, ⟨by simp [h.len], by rw [List.length_append, entC_snoc h.len]; exact r2, λ i e' u' he hu' => ?_, λ x hx => ?_⟩, hX, a, cap, hsh⟩
 . have hgo : ∀ u', Src w u' (u8s e'.2) -> (∀ j, u'.ownBlock = some j -> B <= j /\ wR w j /\ v.ownBlock ≠ some j) -> Src w' u' (u8s e'.2) /\ ∀ j, u'.ownBlock = some j -> B <= j /\ wR w' j /\ v'.ownBlock ≠ some j := λ u' hs hb =>
    ⟨xG hs hX λ j hj e => (hb j hj).2.2 e, λ j hj => let ⟨a, b, c⟩ := hb j hj; ⟨a, b.ext hX c, λ e => (r4 j e).elim c λ e => by have := b.lt; omega⟩⟩
   rcases Nat.lt_or_ge i es.length with hl | hl
   . rw [List.getElem?_append_left hl] at he;rw [List.getElem?_append_left (by rw [h.len]; exact hl)] at hu';exact hgo u' (h.recs i e' u' he hu').1 (h.recs i e' u' he hu').2
   . have : i = es.length := by
      have := (List.getElem?_eq_some_iff.1 he).1;simp at this;omega
     subst this;rw [List.getElem?_append_right (Nat.le_refl _), Nat.sub_self] at he;rw [List.getElem?_append_right (by rw [h.len]; omega), h.len, Nat.sub_self] at hu';simp at he hu';subst he hu';exact hgo u hu hf
 . rcases List.mem_append.1 hx with hx | hx
   . exact h.one x hx
   . rw [List.mem_singleton.1 hx]; exact h1
def HasRecs (x : Dsk) (first size : Nat) (L : LogS) (es : List Ent2) : Prop := es.map Prod.fst = L.starts /\ ∀ e ∈ es, ∃ ep, xL x first size e.1 0 L.head.epoch = .ok (e.2, ep)
theorem Win.blk {w : World} {B : Nat} {v : Value} {xs : List Value} (h : Win w B v xs) : ∀ j, v.ownBlock = some j -> B <= j /\ wR w j := by
 obtain ⟨g, o, c, L, rfl, h1, h2, -⟩ := h;intro j hj;injection hj with hj;subst hj;exact ⟨h1, _, h2, rfl⟩
def RecOk (Pr : World -> Nat -> Prop) (B : Nat) (es : List Ent2) (pre : List (Nat × Value)) (x : Nat × Value) (W : World) : Prop := ∃ e, es[pre.length]? = some e /\ x.1 = e.1 /\ Src W x.2 (u8s e.2) /\ ∀ j, x.2.ownBlock = some j -> B <= j /\ wR W j /\ Pr W j
def RecAll (es : List Ent2) (xs : List (Nat × Value)) : Prop := xs.map Prod.fst = es.map Prod.fst
theorem records_seq (m : Nat) (b : Bks) (x : Dsk) (N first size : Nat) (k : LBk) (L : LogS) (es : List Ent2) (w : World) (h : LSys w b x N first size k L) (hr : L.starts.Pairwise (· < ·)) (hs : L.starts.length <= 65536) (hfl : L.fallen = false) (hoff : x.off = false)
 (hlim : ∀ n ∈ L.starts, n <= 9223372036854775807) (hes : HasRecs x first size L es) (Bl Bn : Nat) (hbl : w.cell? ⟨Bl, 0, none⟩ = some (.pointer (some ⟨k.l, 0, none⟩))) (hbn : w.cell? ⟨Bn, 0, none⟩ = some (.int .u64 0))
 (inv : World -> Prop) (Pr : World -> Nat -> Prop) (hG : GuardX inv Pr) (hn0 : inv w) :
 SeqX Fence.wide m Tryz.prog 90 #[.pointer (some ⟨Bl, 0, none⟩), .pointer (some ⟨Bn, 0, none⟩)] (λ x : Nat × Value => #[.int .u64 x.1, x.2]) (λ _ => pJ inv Pr (λ _ => False)) (RecAll es) (λ _ => True) (RecOk Pr w.heap.size es) w := by
 intro l J Jx W hW hJ hJx hY hJ0;have hx := zG hW hbl;have hn := zG hW hbn;have hS := h.below hW;have hlen : L.starts.length = es.length := by rw [<- hes.1, List.length_map]
 have hRdy := zB (jR b x N first size k L W hS hfl hoff);have hpos : posU L.starts 0 = 0 := by
  unfold posU;rw [List.countP_eq_zero];intro n _;simp
 have HPos := zB hpos;have H := zB (zC hS (zC hr (zC hs (zC hfl (zC hoff (zC hlim hes))))));have HY := zB hY;have HJ0 := zB hJ0;have hwW := hW.size;clear hS h hbl hbn hY hJ0 hpos hr hs hfl hoff hlim hes;refine callsIn_wide.2 ?_;show Calls Tryz.prog 90 #[.func (.yield l) #[] #[], .pointer (some ⟨Bl, 0, none⟩), .pointer (some ⟨Bn, 0, none⟩)] W _;go_enter Tryz.func90, Tryz.ntmps90
 go_wp2_with fail
 refine hRdy.out.mono ?_;rintro e w1 ⟨rfl, hB1⟩;have hS1 := H.out.1.below hB1;have hcs := hS1.log.cs;obtain ⟨-, -, -, -, -, -, -, -, y8, -⟩ := hcs;have hst := hS1.log.starts;obtain ⟨n, hnn⟩ : ∃ n, es.length = n := ⟨_, rfl⟩;rw [hlen, hnn] at hst;obtain ⟨sa, sc, hks, -⟩ := zP hst;have hn6 : n <= 65536 := by have := H.out.2.2.1; omega
 rw [hks] at y8 hst;have Hst := zB hst;have HBS := zB λ W' (hW' : Below w1.heap.size w1 W') => nN (.slice sa n sc) L.starts H.out.2.1 0 W' (Src.of_owns (yA Hst.out hW')) (by have := H.out.2.2.1; omega);have y1 := zG hB1 hx;have y2 := zG hB1 hn;have Hn := zB hnn;clear hst hks hx hn hRdy hS1 hlen hnn
 go_wp2_with fail
 refine zY (λ i => if i = 5 then some (λ v _ => v = .tuple #[.int .i64 0, .bool (decide (0 ∈ L.starts))]) else none) fol (by kernel_rfl) (λ W2 hW2 hh => ?_);clear hh;have q1 := zV hW2 y1;have q2 := zV hW2 y2;have q8 := zV hW2 y8
 repeat ((first | refine zL _ (by first | exact .inl rfl | exact .inr rfl) rfl rfl ?_ | (refine zJ ?_ rfl rfl (λ w1 hb1 hf1 => ?_) ?_; rotate_left; (go_simp; (try simp (disch := omega) only [zE, toNatUp, iteOmega]); (try go_simp); rfl)) | refine zM rfl ?_); simp only [zD])
 refine zW _ rfl (λ _ _ _ h _ => h) rfl (λ w1 hb1 hf1 => ?_) ?_
 . have hb1' := hb1
   (unfold yE; go_simp; simp only [zN])
   refine (HBS.out _ (zF hW2 hb1')).mono ?_;rintro e w' ⟨rfl, hB⟩;rw [HPos.out];exact ⟨_, rfl, hB, rfl⟩
 rintro v3 W3 hB3 rfl;simp only [zD]
 repeat ((first | refine zL _ (by first | exact .inl rfl | exact .inr rfl) rfl rfl ?_ | (refine zJ ?_ rfl rfl (λ w1 hb1 hf1 => ?_) ?_; rotate_left; (go_simp; (try simp (disch := omega) only [zE, toNatUp, iteOmega]); (try go_simp); rfl)) | refine zM rfl ?_); simp only [zD])
 refine zZ ?_;have hBW := zF hB1 (zF hW2 hB3);have y1 := zG (zF hW2 hB3) y1;have y8 := zG (zF hW2 hB3) y8;have Hst3 := zB (yA Hst.out (zF hW2 hB3));have HS3 := zB (H.out.1.below hBW);have HBW := zB hBW;clear q1 q2 q8 hW2 hB1 hB3 HBS Hst hBW y2
 go_wp2_with fail
 go_loopw [4, 32] (λ va vi wr => ∃ (i : Nat) (us : List Value), vi = .int .i64 i /\ i <= n /\ mH wr W3.heap.size va (es.take i) us /\ Below W3.heap.size W3 wr) (λ _ vi _ => n - (intOf vi).toNat)
 case atStart => exact ⟨0, [], rfl, Nat.zero_le _, mH.nil _ _, Below.refl _ _⟩
 case round =>
  obtain ⟨i, us, rfl, hi, hE, hBr⟩ := hrel;by_cases hin : i < n
  . have hin' : (i : Int) < (n : Int) := by omega
    obtain ⟨e0, he0⟩ : ∃ e, es[i]? = some e := ⟨_, List.getElem?_eq_getElem (by rw [Hn.out]; exact hin)⟩;obtain ⟨ep, hep⟩ := H.out.2.2.2.2.2.2.2 e0 (List.mem_of_getElem? he0);have hst0 : L.starts[i]? = some e0.1 := by rw [<- H.out.2.2.2.2.2.2.1, List.getElem?_map, he0]; rfl
    have hin0 := List.mem_of_getElem? hst0;have hel0 := H.out.2.2.2.2.2.1 _ hin0;obtain ⟨gs, sc2, hsl, -, -, -, -, hsc, -⟩ := xB Hst3.out (by omega);injection hsl with hsl1 _ hsl3;subst hsl1 hsl3;have hci := hsc i (by omega);rw [iQ hst0] at hci;have hci := zG hBr hci;have y1r := zG hBr y1;have hlr : lreadR x first size L e0.1 = .ok e0.2 := by
     unfold lreadR;rw [if_neg (by rw [H.out.2.2.2.1, H.out.2.2.2.2.1]; decide), if_pos hin0, hep]
    have hrd := lread_still b x N first size k L e0.1 hel0 wr (HS3.out.below hBr) H.out.2.1 H.out.2.2.1 H.out.2.2.2.1 H.out.2.2.2.2.1;rw [hlr] at hrd;have HRD := zB hrd;obtain ⟨na, nc, rfl, -⟩ := zP hE.row;have hll : (es.take i).length = i := by rw [List.length_take, Hn.out]; omega
    have HE := zB hE;rw [hll];have Hll := zB hll;have He0 := zB he0;clear hrd hlr hep hin0 hst0 hE hsc hll he0
    go_wp2_with fail
    refine HRD.out.mono ?_;rintro e w5 ⟨⟨u, rfl, hwin⟩, hB5⟩;obtain ⟨ug, uo, ul, uc, rfl⟩ := hwin.shape;have hb6 := zQ w5 (.cells #[.int .u64 e0.1, .slice (some ⟨ug, uo, none⟩) ul uc] 148);have g6 := World.alloc_heap_new w5 (.cells #[.int .u64 e0.1, .slice (some ⟨ug, uo, none⟩) ul uc] 148);have hwr3 := hBr.size;have hr5 := hB5.size;have hal : ∀ j, (Value.slice na (es.take i).length nc).ownBlock = some j -> j < wr.heap.size := λ j hj => xD HE.out.row hj;obtain ⟨v', w', ra, hE', hX', va', vc', hv'⟩ := ((HE.out.below hB5).below hb6).app (by rw [Hll.out]; omega) e0 (.slice (some ⟨ug, uo, none⟩) ul uc) (hwin.src.below hb6) (λ j hj => by
     obtain ⟨h1, h2⟩ := hwin.blk j hj;exact ⟨by omega, h2.below hb6, λ e => by have := hal j e; omega⟩) (by have := hb6.size; omega) w5.heap.size 1 g6 143
    rw [Hll.out] at hv' ra hal;subst hv';have HR := zB (zC hE' (zC hX' hb6));have Hra := zB ra;have HB5 := zB hB5;clear hE' hX' hb6 g6 ra hwin hB5
    go_wp2_with (at_builtin; refine yW rfl (yM (.tmp 44) (.tmp 48) 143 143 rfl Hra.out) ?_)
    have htk : es.take (i + 1) = es.take i ++ [e0] := by rw [List.take_add_one, He0.out]; rfl
    refine ⟨⟨i + 1, us ++ [.slice (some ⟨ug, uo, none⟩) ul uc], by simp, by omega, by rw [htk]; exact HR.out.1, ?_⟩, ?_⟩
    . refine (((hBr.trans (HB5.out.mono hwr3)).trans (HR.out.2.2.mono (Nat.le_trans hwr3 hr5)))).trans (Ext.to_belowAt HR.out.2.1 (by have := HR.out.2.2.size; omega) λ k hk e => ?_);have := (HE.out.row.lt k (show (Value.slice na (es.take i).length nc).ownBlock = some k from e)).1;omega
    . show n - ((i : Int) + 1).toNat < n - (i : Int).toNat;omega
  . obtain rfl : i = n := by omega
    have hin' : ¬ (i : Int) < (i : Int) := by omega
    have htk : es.take i = es := List.take_of_length_le (by rw [Hn.out]; exact Nat.le_refl _);rw [htk] at hE;have hrow := hE.row;rw [Hn.out] at hrow;obtain ⟨na, nc, rfl, -⟩ := zP hrow;have HE := zB hE;have Hrow := zB hrow;clear hE htk hrow;obtain ⟨xs, hxs⟩ : ∃ xs : List (Nat × Value), (es.map Prod.fst).zip us = xs := ⟨_, rfl⟩;have hxl : xs.length = i := by rw [<- hxs, List.length_zip, List.length_map, HE.out.len, Hn.out, Nat.min_self]
    have hxf : xs.map Prod.fst = es.map Prod.fst := by rw [<- hxs]; exact List.map_fst_zip (by rw [List.length_map, HE.out.len]; exact Nat.le_refl _)
    have hxg : ∀ q, q < i -> ∃ e u, es[q]? = some e /\ us[q]? = some u /\ xs[q]? = some (e.1, u) := λ q hq => by
     have h1 : q < es.length := by rw [Hn.out]; exact hq
     have h2 : q < us.length := by rw [HE.out.len]; exact h1
     refine ⟨es[q], us[q], List.getElem?_eq_getElem h1, List.getElem?_eq_getElem h2, ?_⟩;rw [<- hxs, List.getElem?_zip_eq_some];simp [h1, h2]
    have HX := zB (zC hxl (zC hxf hxg));clear hxs hxl hxf hxg;have hWr := HBW.out.trans (hBr.mono HBW.out.size);have hinvW := (hG.fresh w W hn0 hW).1;have hK0 : nI inv Pr (λ k => (Value.slice na i nc).ownBlock = some k \/ ∃ u ∈ us, u.ownBlock = some k) wr wr := by
     have hAB : ∀ k, ((Value.slice na i nc).ownBlock = some k \/ ∃ u ∈ us, u.ownBlock = some k) -> W.heap.size <= k /\ wR wr k := λ k hk => by
      have hz := HBW.out.size;rcases hk with hk | ⟨u, hu, hk⟩
      . exact ⟨Nat.le_trans hz (Hrow.out.lt k hk).1, sD Hrow.out hk⟩
      . obtain ⟨q, hq⟩ := List.mem_iff_getElem?.1 hu;have hql := (List.getElem?_eq_some_iff.1 hq).1;obtain ⟨e, he⟩ : ∃ e, es[q]? = some e := ⟨_, List.getElem?_eq_getElem (by rw [<- HE.out.len]; exact hql)⟩;obtain ⟨h1, h2, -⟩ := (HE.out.recs q e u he hq).2 k hk;exact ⟨Nat.le_trans hz h1, h2⟩
     refine ⟨(hG.fresh W wr hinvW hWr).1, λ k hk => ?_, λ k hk => (hAB k hk).2.lt, λ _ _ => rfl⟩;obtain ⟨h1, o, h2, h3⟩ := hAB k hk;exact (hG.fresh W wr hinvW hWr).2.2 k o h1 h2 h3
    have hJr : J [] wr := qT hJ HJ0.out hWr;clear y8 y1 Hst3 HS3
    go_wp2_with fail
    generalize wr = wA at *;refine (wpIn_wide (n := m)).1 ?_
    gi_loopw [53] (λ vi wr => ∃ q : Nat, vi = .int .i64 q /\ q <= i /\ J (xs.take q) wr /\ nI inv Pr (λ k => (Value.slice na i nc).ownBlock = some k \/ ∃ u ∈ us, u.ownBlock = some k) wA wr) (λ vi _ => i - (intOf vi).toNat)
    case atStart => exact ⟨0, rfl, Nat.zero_le _, hJr, hK0⟩
    case round =>
     obtain ⟨q, rfl, hq, hJ1, hK1⟩ := hrel;by_cases hqi : q < i
     . have hqi' : (q : Int) < (i : Int) := by omega
       obtain ⟨e1, u1, he1, hu1, hx1⟩ := HX.out.2.2 q hqi;obtain ⟨ga, gc, hsl, -, -, -, -, hrc, -⟩ := xB Hrow.out (by omega);injection hsl with hsl1 _ hsl3;subst hsl1 hsl3;obtain ⟨k1, k2⟩ := entC_get he1 hu1;have c1 := hrc (q * 2) (by omega);have c2 := hrc (q * 2 + 1) (by omega);rw [k1] at c1;rw [k2] at c2;have c1 := hK1.cell (b := ga) (.inl rfl) c1;have c2 := hK1.cell (b := ga) (.inl rfl) c2;obtain ⟨hs1, hf1⟩ := HE.out.recs q e1 u1 he1 hu1;have hum := List.mem_of_getElem? hu1;have huA : ∀ j, u1.ownBlock = some j -> (Value.slice (some ⟨ga, 0, none⟩) i nc).ownBlock = some j \/ ∃ u ∈ us, u.ownBlock = some j := λ j hj => .inr ⟨u1, hum, hj⟩;obtain ⟨ua, uc, rfl, -⟩ := hs1.shape;have hb1 := zQ wr (.cells #[.int .u64 e1.1, .slice ua (u8s e1.2).length uc] 148);have g1 := World.alloc_heap_new wr (.cells #[.int .u64 e1.1, .slice ua (u8s e1.2).length uc] 148);have hK2 := hK1.below hG hb1;have hJ2 := qT hJ hJ1 hb1;have hs2 : Src (wr.alloc (.cells #[.int .u64 e1.1, .slice ua (u8s e1.2).length uc] 148)) (.slice ua (u8s e1.2).length uc) (u8s e1.2) := by
        rcases hs1 with ⟨g, o, c, e, h1, h2⟩ | h
        . refine .inl ⟨g, o, c, e, h1, λ j y hy => hK2.cell (huA g (by rw [e]; rfl)) (h2 j y hy)⟩
        . exact .inr h
       have hok : RecOk Pr w.heap.size es (xs.take q) (e1.1, .slice ua (u8s e1.2).length uc) (wr.alloc (.cells #[.int .u64 e1.1, .slice ua (u8s e1.2).length uc] 148)) := by
        refine ⟨e1, ?_, rfl, hs2, λ j hj => ?_⟩
        . rw [List.length_take, HX.out.1, Nat.min_eq_left hq];exact he1
        . obtain ⟨h1, ⟨o, h2, h3⟩, -⟩ := hf1 j hj;have hz := HBW.out.size;exact ⟨by omega, ⟨o, (hK2.eq j (huA j hj)).trans h2, h3⟩, hK2.pr j (huA j hj)⟩
       obtain ⟨fn, tmps, assign, body, hy, hR⟩ := HY.out _ _ _ hJ2 hok;have htk : xs.take (q + 1) = xs.take q ++ [(e1.1, .slice ua (u8s e1.2).length uc)] := by rw [List.take_add_one, hx1]; rfl
       have HT := zB htk;have HK2 := zB hK2;dsimp only at hy;clear htk hK2 hJ2 hok hs2 hb1 g1 hs1 hf1 hrc k1 k2 he1 hu1 hx1
       gi_wp2_with fail
       refine ⟨λ h => (by cases h), hR.mono ?_⟩;rintro e W5 (⟨rfl, hJ5, hk5, -⟩ | ⟨rfl, hJx5, -⟩)
       . gi_wp2_with fail
         go_roundw
         case rel => exact ⟨q + 1, by simp, by omega, by rw [HT.out]; exact hJ5, HK2.out.keep hk5 (λ _ _ h => h)⟩
         case measure =>
          show i - ((q : Int) + 1).toNat < i - (q : Int).toNat;omega
       . gi_wp2_with fail
         refine bodyPost_ret (results_none rfl _ _ _) rfl ?_;exact ⟨⟨_, rfl⟩, .inr ⟨_, trivial, hJx5⟩⟩
     . obtain rfl : q = i := by omega
       have hqi' : ¬ (q : Int) < (q : Int) := by omega
       rw [List.take_of_length_le (by rw [HX.out.1]; exact Nat.le_refl _)] at hJ1
       gi_wp2_with fail
       go_end0
       exact ⟨⟨_, rfl⟩, .inl ⟨xs, HX.out.2.1, hJ1⟩⟩
end Go.Proofs.YtbjofbhhnmehgaaGreatDoor.TT
namespace Go.Proofs.YtbjofbhhnmehgaaGreatDoor.TT
open Go.RowKit Go.RG Go.Hp Go.Proofs.YtbjofbhhnmehgaaGreatDoor
theorem und_recs : Tryz.prog.underlying 66 = some (.slice 52) := by kernel_rfl
theorem info_bytes : (Tryz.prog.info? 52).map (λ i => (i.zero, i.size, i.bytes)) = some (some (.slice none 0 0), 1, 24) := by kernel_rfl
def AppOne (t e : TypeId) : Prop := ∀ (w : World) (B : Nat) (v : Value) (n : Nat) (xs : List Value) (_ : w.ownsRow B e 1 v n xs) (_ : n <= 1048576) (g c : Nat) (y : Value) (_ : w.cell? ⟨g, 0, none⟩ = some y) (_ : y.oneCell' = true) (_ : B <= w.heap.size) (ty : TypeId), ∃ v' w', (Builtin.append_ #[t, t] ty #[v, .slice (some ⟨g, 0, none⟩) 1 c]).run Tryz.prog w = .ok v' w' /\ w'.ownsRow B e 1 v' (n + 1) (xs ++ [y]) /\ yL (λ k j z => v.ownBlock = some k /\ j = n /\ z = y) w w' /\ (∀ k, v'.ownBlock = some k -> v.ownBlock = some k \/ w.heap.size <= k)
theorem appOne_of {t e : TypeId} {z : Value} {bytes : Nat} (hund : Tryz.prog.underlying t = some (.slice e)) (hinfo : (Tryz.prog.info? e).map (λ i => (i.zero, i.size, i.bytes)) = some (some z, 1, bytes)) (hzs : z.cells.size = 1) (hby : bytes <= 1024) : AppOne t e := by
 intro w B v n xs hown hn g c y hy h1 hB ty;obtain ⟨i0, hi, hz0, hz1, hz2⟩ := info_parts hinfo;obtain ⟨v', w', r1, r2, r3, r4⟩ := sG (P := Tryz.prog) w B t ty e i0 z 1 bytes hund hi hz0 hz1 hz2 hzs (by decide) v n xs hown ⟨g, 0, none⟩ 1 c [y] rfl (λ j u hu => by
  have : j = 0 := by have := (List.getElem?_eq_some_iff.1 hu).1; simp at this; exact this
  subst this;rw [Addr.add_lit, Nat.zero_add];simp at hu;rw [<- hu];exact hy) (λ u hu => by rw [List.mem_singleton.1 hu]; exact h1) (by unfold maxLen; omega) (Nat.le_trans (Nat.mul_le_mul (show n + 1 <= 1048577 by omega) hby) (by decide)) hB
 refine ⟨v', w', r1, r2, r3.mono λ k j u ⟨h2, h3, h4⟩ => ?_, r4⟩;have hj := (List.getElem?_eq_some_iff.1 h4).1;simp only [List.length_singleton] at hj;have : j = n := by omega
 subst this;rw [Nat.mul_one, Nat.sub_self] at h4;simp at h4;exact ⟨h2, rfl, h4.symm⟩
theorem app_u64 : AppOne 101 28 := appOne_of nK info_u64 rfl (by decide)
theorem app_rec : AppOne 66 52 := appOne_of und_recs info_bytes rfl (by decide)
def twoS (v1 v2 : Value) (n : Nat) (a b : Value) (k j : Nat) (y : Value) : Prop := (v1.ownBlock = some k /\ j = n /\ y = a) \/ (v2.ownBlock = some k /\ j = n /\ y = b)
def oneV (B : Nat) (a v : Value) (w : World) : Prop := ∃ g, v = .slice (some ⟨g, 0, none⟩) 1 1 /\ B <= g /\ w.cell? ⟨g, 0, none⟩ = some a
def appV (B base : Nat) (e : TypeId) (v0 : Value) (xs : List Value) (a v : Value) (w : World) : Prop := w.ownsRow base e 1 v (xs.length + 1) (xs ++ [a]) /\ ∀ j, v.ownBlock = some j -> v0.ownBlock = some j \/ B <= j
section
variable {v1 v2 a b : Value} {n B : Nat}
theorem pP {g : Nat} (h1 : v1.ownBlock ≠ some g) (h2 : v2.ownBlock ≠ some g) : ∀ j y, ¬ twoS v1 v2 n a b g j y := by
 rintro j y (⟨h, -⟩ | ⟨h, -⟩)
 . exact h1 h
 . exact h2 h
theorem oneV_stab (hlt1 : ∀ j, v1.ownBlock = some j -> j < B) (hlt2 : ∀ j, v2.ownBlock = some j -> j < B) (c : Value) : Spec.stab (vF (twoS v1 v2 n a b)) (oneV B c) := by
 rintro v w1 w2 ⟨g, rfl, hg, hc⟩ hr;exact ⟨g, rfl, hg, yL.cell (p := ⟨g, 0, none⟩) hr hc (pP (λ e => by have := hlt1 g e; omega) λ e => by have := hlt2 g e; omega)⟩
theorem appV_stab1 (hlt1 : ∀ j, v1.ownBlock = some j -> j < B) (hlt2 : ∀ j, v2.ownBlock = some j -> j < B) (hne : ∀ j, v1.ownBlock = some j -> v2.ownBlock ≠ some j) {base : Nat} {e : TypeId} {xs : List Value} (hn : xs.length = n) : Spec.stab (vF (twoS v1 v2 n a b)) (appV B base e v1 xs a) := by
 rintro v w1 w2 ⟨h1, h2⟩ hr;refine ⟨yL.owns hr h1 λ g j y hg hs => ?_, h2⟩;rcases h2 g hg with h3 | h3
 . rcases hs with ⟨-, rfl, rfl⟩ | ⟨h4, -⟩
   . right;rw [<- hn, List.getElem?_append_right (Nat.le_refl _), Nat.sub_self];rfl
   . exact absurd h4 (hne g h3)
 . exact absurd hs (pP (λ e => by have := hlt1 g e; omega) (λ e => by have := hlt2 g e; omega) j y)
theorem appV_stab2 (hlt1 : ∀ j, v1.ownBlock = some j -> j < B) (hlt2 : ∀ j, v2.ownBlock = some j -> j < B) (hne : ∀ j, v1.ownBlock = some j -> v2.ownBlock ≠ some j) {base : Nat} {e : TypeId} {xs : List Value} (hn : xs.length = n) (u : Value) : Spec.stab (vF (twoS v1 v2 n a b)) (λ v w => appV B base e v2 xs b v w /\ ∀ j, u.ownBlock = some j -> v.ownBlock ≠ some j) := by
 rintro v w1 w2 ⟨⟨h1, h2⟩, h5⟩ hr;refine ⟨⟨yL.owns hr h1 λ g j y hg hs => ?_, h2⟩, h5⟩;rcases h2 g hg with h3 | h3
 . rcases hs with ⟨h4, -⟩ | ⟨-, rfl, rfl⟩
   . exact absurd h3 (hne g h4)
   . right;rw [<- hn, List.getElem?_append_right (Nat.le_refl _), Nat.sub_self];rfl
 . exact absurd hs (pP (λ e => by have := hlt1 g e; omega) (λ e => by have := hlt2 g e; omega) j y)
end
structure pK (B1 B2 : Nat) (W : World) : Prop where
 one : ∃ v t, W.heap[B1]? = some (.cells #[v] t (0, 0)) /\ ∀ j, v.ownBlock = some j -> j < W.heap.size
 two : ∃ v t, W.heap[B2]? = some (.cells #[v] t (0, 0)) /\ ∀ j, v.ownBlock = some j -> j < W.heap.size
def fF (B1 B2 : Nat) (W : World) (k : Nat) : Prop := wR W k /\ k ≠ B1 /\ k ≠ B2 /\ ∀ v, (W.cell? ⟨B1, 0, none⟩ = some v \/ W.cell? ⟨B2, 0, none⟩ = some v) -> v.ownBlock ≠ some k
theorem pD (B1 B2 : Nat) : GuardX (pK B1 B2) (fF B1 B2) := by
 have key : ∀ W W1 : World, pK B1 B2 W -> W.heap.size <= W1.heap.size -> (∀ k, wR W k -> W1.heap[k]? = W.heap[k]?) -> pK B1 B2 W1 /\ (∀ k, fF B1 B2 W k -> fF B1 B2 W1 k) /\ ∀ k, W.heap.size <= k -> wR W1 k -> fF B1 B2 W1 k := by
  rintro W W1 ⟨⟨v1, t1, h1, l1⟩, ⟨v2, t2, h2, l2⟩⟩ hs hk;have k1 := hk B1 ⟨_, h1, rfl⟩;have k2 := hk B2 ⟨_, h2, rfl⟩;have c1 : ∀ v, W1.cell? ⟨B1, 0, none⟩ = some v -> v = v1 := λ v hv => by simp [World.cell?, k1, h1] at hv; exact hv.symm
  have c2 : ∀ v, W1.cell? ⟨B2, 0, none⟩ = some v -> v = v2 := λ v hv => by simp [World.cell?, k2, h2] at hv; exact hv.symm
  have d1 : W.cell? ⟨B1, 0, none⟩ = some v1 := by simp [World.cell?, h1]
  have d2 : W.cell? ⟨B2, 0, none⟩ = some v2 := by simp [World.cell?, h2]
  refine ⟨⟨⟨v1, t1, k1.trans h1, λ j hj => Nat.lt_of_lt_of_le (l1 j hj) hs⟩, ⟨v2, t2, k2.trans h2, λ j hj => Nat.lt_of_lt_of_le (l2 j hj) hs⟩⟩, λ k ⟨p1, p2, p3, p4⟩ => ⟨?_, p2, p3, λ v hv => ?_⟩, λ k hk1 hc => ⟨hc, ?_, ?_, λ v hv e => ?_⟩⟩
  . obtain ⟨o, ho, hc⟩ := p1;exact ⟨o, (hk k ⟨o, ho, hc⟩).trans ho, hc⟩
  . rcases hv with hv | hv
    . rw [c1 v hv]; exact p4 _ (.inl d1)
    . rw [c2 v hv]; exact p4 _ (.inr d2)
  . rintro rfl; have := zI h1; omega
  . rintro rfl; have := zI h2; omega
  . rcases hv with hv | hv
    . rw [c1 v hv] at e; have := l1 _ e; omega
    . rw [c2 v hv] at e; have := l2 _ e; omega
 refine ⟨λ W W1 h0 hb => ?_, λ W k h => h.1.lt, λ W W' row h0 hg hr => ?_⟩
 . obtain ⟨a, b, c⟩ := key W W1 h0 hb.size λ k hk => hb.block k hk.lt;exact ⟨a, b, λ k o hk ho hc => c k hk ⟨o, ho, hc⟩⟩
 . have hkk : ∀ k, wR W k -> W'.heap[k]? = W.heap[k]? := λ k ⟨o, ho, hc⟩ => (hg.block k (zI ho) λ e => by
    obtain ⟨o2, h2, h3⟩ := hr k e.symm;rw [ho] at h2;injection h2 with h2;subst h2;rw [hc] at h3
    cases h3)
   obtain ⟨a, b, c⟩ := key W W' h0 hg.size hkk;exact ⟨a, λ k hk => ⟨b k hk, hkk k hk.1⟩⟩
end Go.Proofs.YtbjofbhhnmehgaaGreatDoor.TT
