
/-
 table: what a table tells; Get.
-/
import Derived.Test.YtbjofbhhnmehgaaGreatDoorCNIz6
import Derived.Lib.ConvBytes
import Derived.Test.YtbjofbhhnmehgaaGreatDoorCNIz1
import Derived.Test.YtbjofbhhnmehgaaGreatDoorCNIz0
set_option linter.unusedSimpArgs false
set_option linter.unusedVariables false
set_option maxHeartbeats 4000000
set_option maxRecDepth 100000
open Go.IntWalk (toNatUp iteOmega)
namespace Go.Proofs.YtbjofbhhnmehgaaGreatDoor.TT
open Go.RowKit Go.RG Go.Hp Go.Proofs.YtbjofbhhnmehgaaGreatDoor
theorem room_any (d l : Nat) (q : TBk) (T : TblS) (w : World) (h : sH w d l q T) (h1 : T.cap <= 1073741824) (h2 : T.live <= 1073741824) :
 Calls Tryz.prog 17 #[.pointer (some ⟨q.t, 0, none⟩)] w λ e w' => e = .returned (.int .i64 ((T.cap : Int) - (T.live : Int))) /\ Below w.heap.size w w' := by
 obtain ⟨-, -, c2, -, -, c5, -⟩ := h.cs;have e1 := IntWalk.i64_in ((T.cap : Int) - (T.live : Int)) (by omega);clear h;go_enter Tryz.func17, Tryz.ntmps17
 go_wp2_with fail
 refine zY (λ _ => none) fol (by kernel_rfl) (λ W hW hh => ?_);clear hh;have r2 := zV hW c2;have r5 := zV hW c5
 repeat ((first | refine lxM ?_ | refine lxF ?_ | refine zM rfl ?_); simp only [zD])
 refine zZ ?_;clear r2 r5
 go_wp2_with fail
 go_ret
 exact ⟨rfl, hW⟩
theorem live_any (d l : Nat) (q : TBk) (T : TblS) (w : World) (h : sH w d l q T) :
 Calls Tryz.prog 26 #[.pointer (some ⟨q.t, 0, none⟩)] w λ e w' => e = .returned (.int .i64 T.live) /\ w = w' := by
 obtain ⟨-, -, -, -, -, c5, -⟩ := h.cs;clear h;go_enter Tryz.func26, Tryz.ntmps26
 go_wp2_with fail
 go_ret
 exact ⟨rfl, rfl⟩
theorem tJ (d l : Nat) (q : TBk) (T : TblS) (w : World) (h : sH w d l q T) :
 Calls Tryz.prog 34 #[.pointer (some ⟨q.t, 0, none⟩)] w λ e w' => e = .returned (.int .i64 T.pending) /\ w = w' := by
 obtain ⟨-, -, -, -, -, -, c6, -⟩ := h.cs;clear h;go_enter Tryz.func34, Tryz.ntmps34
 go_wp2_with fail
 go_ret
 exact ⟨rfl, rfl⟩
theorem len_any (d l : Nat) (q : TBk) (T : TblS) (w : World) (h : sH w d l q T) :
 Calls Tryz.prog 33 #[.pointer (some ⟨q.t, 0, none⟩)] w λ e w' => e = .returned (.int .i64 T.ps.length) /\ w = w' := by
 obtain ⟨-, -, -, -, c4, -⟩ := h.cs;obtain ⟨a, c, hs, -⟩ := zP h.keys;rw [hs, xM] at c4;clear h hs;go_enter Tryz.func33, Tryz.ntmps33
 go_wp2_with fail
 go_ret
 exact ⟨rfl, rfl⟩
theorem tepoch_any (d first size : Nat) (k : LBk) (L : LogS) (q : TBk) (T : TblS) (w : World) (h : sH w d k.l q T) (hl : tH w d first size k L) :
 Calls Tryz.prog 35 #[.pointer (some ⟨q.t, 0, none⟩)] w λ e w' => e = .returned (.int .u64 L.head.epoch) /\ w = w' := by
 obtain ⟨-, c1, -⟩ := h.cs;have HE := zB (epoch_any d first size k L w hl);clear h hl;go_enter Tryz.func35, Tryz.ntmps35
 go_wp2_with fail
 refine HE.out.mono ?_;rintro e w' ⟨rfl, rfl⟩
 go_wp2_with fail
 go_ret
 exact ⟨rfl, rfl⟩
theorem tget_any (d l : Nat) (q : TBk) (T : TblS) (v : Value) (key : List Int) (w : World) (h : sH w d l q T) (hv : Src w v (u8s key)) (hkb : zO key) (hkl : key.length <= 549755813888) :
 Calls Tryz.prog 31 #[.pointer (some ⟨q.t, 0, none⟩), v] w λ e w' => ∃ u, e = .returned (.tuple #[u, .bool (decide (key ∈ zS T.ps))]) /\ w'.ownsRow w.heap.size 5 1 u (valP T.ps key).length (u8s (valP T.ps key)) /\ Below w.heap.size w w' := by
 obtain ⟨-, -, -, c3, -⟩ := h.cs;obtain ⟨a, c, rfl, hc⟩ := hv.shape;rw [zH] at hv hc ⊢;have HV := zB hv;have HT := zB h;clear h hv;go_enter Tryz.func31, Tryz.ntmps31
 go_wp2_with fail
 refine zY (λ _ => none) fol (by kernel_rfl) (λ W hW hh => ?_);clear hh;have r3 := zV hW c3;have hcv : ∀ w2, Below W.heap.size W w2 -> Sem.run Tryz.prog (convert 52 9 (.slice a key.length c)) w2 = .ok (.string (strOfNums key)) w2 := λ w2 h2 => sQ ((HV.out.below hW).below h2);have hlk : ∀ w2, Below W.heap.size W w2 -> Sem.run Tryz.prog (Instr.lookup 72 (.map (some q.m)) (.string (strOfNums key)) true) w2 = .ok (.tuple #[q.V key, .bool (decide (key ∈ zS T.ps))]) w2 := λ w2 h2 => ((HT.out.below hW).below h2).map.look_ok key hkb hkl
 repeat ((first | refine lxM ?_ | refine lxF ?_ | refine zM rfl ?_); simp only [zD])
 refine zZ ?_;clear r3 hcv hlk;have HT1 := zB (HT.out.below hW);have hval := HT1.out.val key;have hvl := HT1.out.val_len key;obtain ⟨va, vc, hsh, -⟩ := hval.shape;rw [hsh] at hval ⊢;rw [zH] at hval ⊢;have Hval := zB hval;have hs1 := hW.size;have hown0 : W.ownsRow w.heap.size 5 1 (.slice none 0 0) 0 [] := World.ownsRow_nil _ _ _ _;clear hval hsh
 go_wp2_with (at_builtin; go_loud (refine xN rfl _ _ rfl w.heap.size 0 _ _ [] (u8s (valP T.ps key)) rfl hown0 rfl Hval.out (yU _) (by rw [zH]; omega) hs1 ?_; intro v2 w2 hown2 hg2; have Hg2 := zB hg2; have Hown2 := zB hown2; clear hown2 hg2))
 go_ret2
 have := Hown2.out;rw [zH, Nat.zero_add, List.nil_append] at this;exact ⟨_, rfl, this, hW.trans Hg2.out⟩
def lenB (bs : List Int) : List Int := sdnv bs.length ++ bs
theorem qM (bs : List Int) : u8s (lenB bs) = wW (u8s bs) := by simp [lenB, wW, xI, zH]
def oD (p : Pr) : List Int := lenB p.1 ++ lenB p.2
theorem oV (p : Pr) : (oD p).length = yY p.1 p.2 := by
 unfold oD yY;rw [<- qM, <- qM, zH, zH, List.length_append]
def wI (ps : List Pr) : List Int := ps.flatMap oD
theorem jL (a b : List Pr) : wI (a ++ b) = wI a ++ wI b := by simp [wI]
theorem xA : ∀ (ps : List Pr), (wI ps).length = zU ps
 | [] => rfl
 | p :: ps => by rw [show wI (p :: ps) = oD p ++ wI ps from rfl, List.length_append, xA ps, oV, rI]
theorem textB_succ {ps : List Pr} {i : Nat} {p : Pr} (h : ps[i]? = some p) : wI (ps.take (i + 1)) = wI (ps.take i) ++ oD p := by
 rw [List.take_add_one, h, jL];simp [wI]
theorem make_room (n : Nat) (hn : n <= 1099511627776) (w : World) : ∃ cs : Array Value, Sem.run Tryz.prog (Instr.makeSlice 52 (.int .i64 0) (.int .i64 n)) w = .ok (.slice (some ⟨w.heap.size, 0, none⟩) 0 n) (w.alloc (.cells cs 5)) /\ cs.size = n := by
 obtain ⟨i0, hi, hz0, hz1, hz2⟩ := info_parts tR;have := run_make (P := Tryz.prog) w 52 5 i0 (.int .u8 0) xW hi hz0 .i64 .i64 0 (n : Int) (by omega) (by omega) (by rw [hz2]; omega) (by omega);refine ⟨_, this, ?_⟩;rw [hz1];simp [madeCells]
theorem conv_back (s : List Int) (w : World) (hb : zO s) (hl : s.length <= 549755813888) : ∃ u W, Sem.run Tryz.prog (convert 9 52 (.string (strOfNums s))) w = .ok u W /\ Src W u (u8s s) /\ (∀ j, u.ownBlock = some j -> w.heap.size <= j) /\ Below w.heap.size w W := by
 refine ⟨_, _, Lib.run_convert_string_bytes w 9 52 5 (strOfNums s) vZ xW (by kernel_rfl), ?_, λ j hj => ?_, ⟨rfl, rfl, rfl, by rw [Lib.bytesWorld_size]; omega, λ k hk => Lib.bytesWorld_at_old _ _ _ _ hk⟩⟩
 . refine .inl ⟨w.heap.size, 0, _, by rw [strOfNums_size, zH], ?_, λ j u hu => ?_⟩
   . have := grownCap_ge w (strOfNums s).size 0 5;rw [strOfNums_size] at this;rw [zH];simpa [strOfNums_size] using this
   . have hj := (List.getElem?_eq_some_iff.1 hu).1;rw [zH] at hj;rw [Nat.zero_add, Lib.bytesWorld_cell w 5 (strOfNums s) j (by rw [strOfNums_size]; exact hj), <- hu];have h1 := hb _ (List.getElem_mem hj);simp [u8s, strOfNums_data, List.getD, hj];omega
 . exact Nat.le_of_eq (Option.some.inj hj)
theorem text_any (d l : Nat) (q : TBk) (T : TblS) (w : World) (h : sH w d l q T) (hlive : T.live = zU T.ps) (hsum : zU T.ps <= 1073741824) :
 Calls Tryz.prog 98 #[.pointer (some ⟨q.t, 0, none⟩)] w λ e w' => ∃ u, e = .returned u /\ w'.ownsRow w.heap.size 5 1 u (wI T.ps).length (u8s (wI T.ps)) /\ Below w.heap.size w w' := by
 have HT := zB h;obtain ⟨-, -, -, c3, c4, c5, -⟩ := h.cs;obtain ⟨a, c, hs, -⟩ := zP h.keys;obtain ⟨n, hn⟩ : ∃ n, T.ps.length = n := ⟨_, rfl⟩;have hl2 := uY T.ps;rw [hn] at hl2;rw [hs, xM, hn] at c4;obtain ⟨cs, hmk, hcs⟩ := make_room T.live (by omega) w;have hb0 := zQ w (.cells cs 5);have g0 := World.alloc_heap_new w (.cells cs 5);have hcell : ∀ (i : Nat) (p : Pr), T.ps[i]? = some p -> ∃ g o, a = some ⟨g, o, none⟩ /\ ∀ W, Below w.heap.size w W -> W.cell? ⟨g, o + i, none⟩ = some (.string (strOfNums p.1)) := λ i p hp => by
  have hk : (strs (zS T.ps))[i]? = some (.string (strOfNums p.1)) := pR (by simp [zS, hp]);rcases Src.of_owns h.keys with ⟨g, o, c', e1, -, h⟩ | ⟨e1, e2⟩
  . rw [hs] at e1;injection e1 with e1 _ _;exact ⟨g, o, e1, λ W hW => zG hW (h i _ hk)⟩
  . rw [e2] at hk; cases hk
 have Hc := zB hcell;have HL := zB hlive;have HN := zB hn;have hown0 : (w.alloc (.cells cs 5)).ownsRow w.heap.size 5 1 (.slice (some ⟨w.heap.size, 0, none⟩) 0 T.live) 0 [] := ⟨rfl, .inr ⟨w.heap.size, T.live, cs, rfl, Nat.le_refl _, g0, Nat.zero_le _, by unfold maxLen; omega, by rw [hcs]; simp, by simp⟩⟩;have Hown0 := zB hown0;have c4' := zG hb0 c4;have Hmk := zB hmk;generalize hw0 : w.alloc (.cells cs 5) = w0 at *;have hn5 : n <= 536870912 := by omega
 clear hcell hlive hn g0 h hown0 hs hl2 hcs hmk;go_enter Tryz.func98, Tryz.ntmps98
 go_wp2_with (simp only [Hmk.out])
 go_loopw [3, 16] (λ vb vi wr => ∃ i : Nat, vi = .int .i64 i /\ i <= n /\ wr.ownsRow w.heap.size 5 1 vb (wI (T.ps.take i)).length (u8s (wI (T.ps.take i))) /\ Below w.heap.size w wr) (λ _ vi _ => n - (intOf vi).toNat)
 case atStart => exact ⟨0, rfl, Nat.zero_le _, Hown0.out, hb0⟩
 case round =>
  obtain ⟨i, rfl, hi, hown, hB⟩ := hrel;by_cases hin : i < n
  . have hin' : (i : Int) < (n : Int) := by omega
    obtain ⟨p, hpi⟩ : ∃ p, T.ps[i]? = some p := ⟨_, List.getElem?_eq_getElem (by rw [HN.out]; exact hin)⟩;obtain ⟨g, o, rfl, hk⟩ := Hc.out i p hpi
    replace hk := hk wr hB
    have HTr := zB (HT.out.below hB);obtain ⟨hkb, hvb, hl1, hl2⟩ := HT.out.good p (List.mem_of_getElem? hpi);have hval : valP T.ps p.1 = p.2 := by
     obtain ⟨v, -, hm, hv⟩ := rA HT.out.rise (tP (List.mem_of_getElem? hpi));rw [hv];exact rA.snd_of_nodup (wO HT.out.rise) hm (List.mem_of_getElem? hpi)
    have c3r := HTr.out.cs.2.2.2.1;have hle : (wI (T.ps.take i)).length + yY p.1 p.2 <= 1073741824 := by
     have h1 := liveN_take i hpi;rw [xA];omega
    have Hown := zB hown;have Hpi := zB hpi;clear hown hpi;obtain ⟨ua, uc, rfl, -⟩ := zP Hown.out;have hbs := hB.size
    go_wp2_with fail
    refine zR 11 (λ j => if j = 2 then some (λ v w' => Src w' v (u8s p.1)) else if j = 3 then some (λ v w' => w'.ownsRow wr.heap.size 5 1 v (wW (u8s p.1)).length (wW (u8s p.1))) else if j = 10 then some (λ v w' => w'.ownsRow wr.heap.size 5 1 v (u8s (oD p)).length (u8s (oD p))) else none) fol (by kernel_rfl) (λ W hW hh => ?_);clear hh;simp only [fT];have r3 := zV hW c3r;have hlk : ∀ w2, Below W.heap.size W w2 -> Sem.run Tryz.prog (Instr.lookup 72 (.map (some q.m)) (.string (strOfNums p.1)) false) w2 = .ok (q.V p.1) w2 := λ w2 h2 => ((HTr.out.below hW).below h2).map.look p.1 hkb (by omega);have hsz := hW.size
    repeat ((first | refine lxM ?_ | refine lxF ?_ | refine zM rfl ?_); simp only [zD])
    refine zW _ rfl (by exact λ _ _ _ h hb => h.below hb) rfl (λ w1 hb1 hf1 => ?_) ?_
    . have hb1' := hb1;obtain ⟨u, W2, hcv, hs2, -, hb2'⟩ := conv_back p.1 w1 hkb (by omega)
      (unfold yE; go_simp; simp only [zN])
      exact ⟨hb2', hs2⟩
    rintro v2 W2 hB2 hs2;simp only [zD];refine zW _ rfl (by exact λ _ _ _ h hb => yA h hb) rfl (λ w1 hb1 hf1 => ?_) ?_
    . have hb1' := hb1;have f2 : Src w1 v2 (u8s p.1) := hf1 22 (by decide) (by simp);clear hf1
      (unfold yE; go_simp; simp only [zN])
      refine (wC (.slice none 0 0) v2 [] (u8s p.1) _ (.inr ⟨rfl, rfl⟩) f2 (λ u h => by cases h) (yU _) (by decide) (by rw [zH]; omega)).mono ?_;rintro e w' ⟨u, rfl, hown, hB⟩;rw [List.nil_append] at hown;exact ⟨u, rfl, hB, yC hown λ j hj => Nat.le_trans (Nat.le_trans hsz hb1'.size) (hown.lt j hj).1⟩
    rintro v3 W3 hB3 hs3;simp only [zD];have hW3 := zF hW (zF hB2 hB3);have hsz3 := hW3.size
    repeat ((first | refine lxM ?_ | refine lxF ?_ | refine zM rfl ?_); simp only [zD])
    refine zW _ rfl (by exact λ _ _ _ h hb => yA h hb) rfl (λ w1 hb1 hf1 => ?_) ?_
    . have hb1' := hb1;have f3 : w1.ownsRow wr.heap.size 5 1 v3 (wW (u8s p.1)).length (wW (u8s p.1)) := hf1 23 (by decide) (by simp);clear hf1
      (unfold yE; go_simp; simp only [zN])
      have hv3 := Src.of_owns f3;have hval3 := ((HTr.out.below hW).below hb1').val p.1;rw [hval] at hval3;refine (wC v3 (q.V p.1) (wW (u8s p.1)) (u8s p.2) _ hv3 hval3 (mS (yU _)) (yU _) (by rw [<- qM, zH]; unfold lenB; rw [List.length_append]; have := xU p.1.length (by omega); omega) (by rw [zH]; omega)).mono ?_;rintro e w' ⟨u, rfl, hown, hB⟩;have e1 : wW (u8s p.1) ++ wW (u8s p.2) = u8s (oD p) := by unfold oD; rw [xI, qM, qM]
      rw [e1] at hown;exact ⟨u, rfl, hB, yC hown λ j hj => Nat.le_trans (Nat.le_trans hsz hb1'.size) (hown.lt j hj).1⟩
    rintro v10 W10 hB10 hs10;simp only [zD];refine zZ ?_;have hW10 := zF hW3 hB10;have HOW := zB (yA Hown.out hW10);have HSV := zB (Src.of_owns hs10);have hs10' : w.heap.size <= W10.heap.size := Nat.le_trans hbs hW10.size;have HB := zB (zF hB hW10);have hlu : (u8s (oD p)).length = yY p.1 p.2 := by rw [zH, oV]
    obtain ⟨pa, pc, rfl, -⟩ := zP hs10;clear hs10 hs3 hs2 r3 hlk
    go_wp2_with (at_builtin; go_loud (refine xN rfl _ _ rfl w.heap.size _ _ _ _ (u8s (oD p)) rfl HOW.out rfl HSV.out (yU _) (by omega) hs10' ?_; intro v2 w2 hown2 hg2; have Hg2 := zB hg2; have Hown2 := zB hown2; clear hown2 hg2))
    refine ⟨⟨i + 1, by simp, by omega, ?_, HB.out.trans Hg2.out⟩, ?_⟩
    . rw [textB_succ Hpi.out, xI, List.length_append, <- zH (oD p)];exact Hown2.out
    . show n - ((i : Int) + 1).toNat < n - (i : Int).toNat;omega
  . obtain rfl : i = n := by omega
    have hin' : ¬ (i : Int) < (i : Int) := by omega
    go_wp2_with fail
    go_ret
    rw [List.take_of_length_le (by rw [HN.out]; exact Nat.le_refl _)] at hown;exact ⟨_, rfl, hown, hB⟩
def chgB (c : Chg) : List Int := if c.gone then 0 :: lenB c.key else 1 :: (lenB c.key ++ lenB c.value)
def yD (cs : List Chg) (i : Nat) : List Int := (1 :: sdnv cs.length) ++ (cs.take i).flatMap chgB
def recB (cs : List Chg) : List Int := (1 :: sdnv cs.length) ++ cs.flatMap chgB
theorem jB (cs : List Chg) : yD cs cs.length = recB cs := by simp [yD, recB]
theorem pY {cs : List Chg} {i : Nat} {c : Chg} (h : cs[i]? = some c) : yD cs (i + 1) = yD cs i ++ chgB c := by
 unfold yD;rw [List.take_add_one, h];simp
theorem mT {bs : List Int} (h : bs.length <= 4096) : (lenB bs).length <= bs.length + 10 := by
 unfold lenB;have := xU bs.length (by omega);rw [List.length_append];omega
def wE (w : World) (F : Nat -> Prop) (v : Value) (cs : List Chg) : Prop := ∃ a cap, v = .slice a cs.length cap /\ ∀ i c, cs[i]? = some c ->
 ∃ g o va vb, a = some ⟨g, o, none⟩ /\ w.cell? ⟨g, o + i * 3, none⟩ = some va /\ w.cell? ⟨g, o + i * 3 + 1, none⟩ = some vb /\ w.cell? ⟨g, o + i * 3 + 2, none⟩ = some (.bool c.gone) /\ Src w va (u8s c.key) /\ Src w vb (u8s c.value) /\ ¬ F g /\ ∀ j, va.ownBlock = some j \/ vb.ownBlock = some j -> j < w.heap.size /\ ¬ F j
theorem wE.ext {w w' : World} {F S : Nat -> Prop} {v : Value} {cs : List Chg} (h : wE w F v cs) (hX : Ext S w w') (hS : ∀ j, S j -> F j) : wE w' F v cs := by
 obtain ⟨a, cap, rfl, h⟩ := h;refine ⟨a, cap, rfl, λ i c hc => ?_⟩;obtain ⟨g, o, va, vb, rfl, h1, h2, h3, h4, h5, h6, h7⟩ := h i c hc;exact ⟨g, o, va, vb, rfl, hX.cell_some h1 λ e => h6 (hS _ e), hX.cell_some h2 λ e => h6 (hS _ e), hX.cell_some h3 λ e => h6 (hS _ e), xG h4 hX λ j hj e => (h7 j (.inl hj)).2 (hS _ e), xG h5 hX λ j hj e => (h7 j (.inr hj)).2 (hS _ e), h6, λ j hj => ⟨Nat.lt_of_lt_of_le (h7 j hj).1 hX.size, (h7 j hj).2⟩⟩
theorem wE.below {w w' : World} {F : Nat -> Prop} {v : Value} {cs : List Chg} (h : wE w F v cs) (hb : Below w.heap.size w w') : wE w' F v cs :=
 h.ext (S := λ _ => False) (Ext.of_below hb) λ _ e => e.elim
theorem wE.mono {w : World} {F G : Nat -> Prop} {v : Value} {cs : List Chg} (h : wE w F v cs) (hF : ∀ j, G j -> F j \/ w.heap.size <= j) : wE w G v cs := by
 obtain ⟨a, cap, rfl, h⟩ := h;refine ⟨a, cap, rfl, λ i c hc => ?_⟩;obtain ⟨g, o, va, vb, rfl, h1, h2, h3, h4, h5, h6, h7⟩ := h i c hc;have hg := block_lt_of_cell h1;have hno : ∀ j, j < w.heap.size -> ¬ F j -> ¬ G j := λ j hj hf hG => (hF j hG).elim hf λ e => by omega
 exact ⟨g, o, va, vb, rfl, h1, h2, h3, h4, h5, hno g hg h6, λ j hj => ⟨(h7 j hj).1, hno j (h7 j hj).1 (h7 j hj).2⟩⟩
def recS (vb : Value) (n : Nat) (m : Int) (k j : Nat) (y : Value) : Prop := vb.ownBlock = some k /\ j = n /\ y = .int .u8 m
def oneU (B : Nat) (m : Int) (v : Value) (w : World) : Prop := ∃ g, v = .slice (some ⟨g, 0, none⟩) 1 1 /\ B <= g /\ w.cell? ⟨g, 0, none⟩ = some (.int .u8 m)
theorem oneU_stab {w : World} {vb : Value} {n : Nat} {m : Int} (hlt : ∀ j, vb.ownBlock = some j -> j < w.heap.size) : Spec.stab (vF (recS vb n m)) (oneU w.heap.size m) := by
 rintro v w1 w2 ⟨g, rfl, hg, hc⟩ hr;refine ⟨g, rfl, hg, yL.cell (p := ⟨g, 0, none⟩) hr hc ?_⟩;rintro j y ⟨h1, -⟩;have := hlt g h1;omega
def appU (B C : Nat) (vb : Value) (bs : List Int) (m : Int) (v : Value) (w : World) : Prop := w.ownsRow B 5 1 v (bs.length + 1) (u8s (bs ++ [m])) /\ ∀ j, v.ownBlock = some j -> vb.ownBlock = some j \/ C <= j
theorem appU_stab {w : World} {B : Nat} {vb : Value} {bs : List Int} {m : Int} (hlt : ∀ j, vb.ownBlock = some j -> j < w.heap.size) : Spec.stab (vF (recS vb bs.length m)) (appU B w.heap.size vb bs m) := by
 rintro v w1 w2 ⟨h1, h2⟩ hr;refine ⟨yL.owns hr h1 λ g j y hg hs => ?_, h2⟩;obtain ⟨h3, rfl, rfl⟩ := hs;right;rw [xI, List.getElem?_append_right (by rw [zH]; exact Nat.le_refl _), zH, Nat.sub_self];rfl
theorem app_byte (w : World) (B : Nat) (v : Value) (bs : List Int) (hown : w.ownsRow B 5 1 v bs.length (u8s bs)) (hn : bs.length <= 549755813888) (g c : Nat) (m : Int) (hy : w.cell? ⟨g, 0, none⟩ = some (.int .u8 m)) (hB : B <= w.heap.size) (ty : TypeId) :
 ∃ v' w', (Builtin.append_ #[52, 52] ty #[v, .slice (some ⟨g, 0, none⟩) 1 c]).run Tryz.prog w = .ok v' w' /\ w'.ownsRow B 5 1 v' (bs.length + 1) (u8s (bs ++ [m])) /\ yL (recS v bs.length m) w w' /\ (∀ k, v'.ownBlock = some k -> v.ownBlock = some k \/ w.heap.size <= k) := by
 obtain ⟨i0, hi, hz0, hz1, hz2⟩ := info_parts tR;obtain ⟨v', w', r1, r2, r3, r4⟩ := sG (P := Tryz.prog) w B 52 ty 5 i0 (.int .u8 0) 1 1 xW hi hz0 hz1 hz2 rfl (by decide) v bs.length (u8s bs) hown ⟨g, 0, none⟩ 1 c [.int .u8 m] rfl (λ j u hu => by
  have : j = 0 := by
   have := (List.getElem?_eq_some_iff.1 hu).1;simpa using this
  subst this;simp at hu;subst hu;rw [Addr.add_lit];exact hy) (λ u hu => by rw [List.mem_singleton.1 hu]; rfl) (by unfold maxLen; omega) (by omega) hB
 refine ⟨v', w', r1, by rw [xI]; exact r2, r3.mono λ k j z ⟨h1, h2, h3⟩ => ?_, r4⟩;have : j - bs.length * 1 = 0 := by
  have := (List.getElem?_eq_some_iff.1 h3).1;simp at this;omega
 rw [this] at h3;simp at h3;exact ⟨h1, by omega, h3.symm⟩
theorem build_byte (m : Int) (hm : 0 <= m /\ m < 256) (w : World) : (Instr.buildSlice 52 1 #[(0, .int .u8 m)]).run Tryz.prog w = .ok (.slice (some ⟨w.heap.size, 0, none⟩) 1 1) (w.alloc (.cells #[.int .u8 m] 5)) := by
 kernel_rfl
theorem chgB_length {c : Chg} (hk : c.key.length <= 64) (hv : c.gone = true \/ c.value.length <= 1024) : (chgB c).length <= 1200 := by
 have h1 := mT (show c.key.length <= 4096 by omega);unfold chgB
 split
 . simp only [List.length_cons]; omega
 . rename_i hg;have hv' := hv.resolve_left hg;have h2 := mT (show c.value.length <= 4096 by omega);simp only [List.length_cons, List.length_append]; omega
theorem pZ {cs : List Chg} (hg : ∀ c ∈ cs, c.key.length <= 64 /\ (c.gone = true \/ c.value.length <= 1024)) (hn : cs.length <= 1000000) (i : Nat) : (yD cs i).length <= 11 + i * 1200 := by
 induction i with
 | zero =>
  have := xU cs.length (by omega);unfold yD;rw [List.take_zero, List.flatMap_nil, List.append_nil, List.length_cons];omega
 | succ i ih =>
  rcases Nat.lt_or_ge i cs.length with h | h
  . have h1 := hg cs[i] (List.getElem_mem h);rw [pY (List.getElem?_eq_getElem h), List.length_append];have := chgB_length h1.1 h1.2;omega
  . have e : yD cs (i + 1) = yD cs i := by unfold yD; rw [List.take_of_length_le h, List.take_of_length_le (Nat.le_succ_of_le h)]
    rw [e];exact Nat.le_trans ih (Nat.add_le_add_left (Nat.mul_le_mul_right 1200 (Nat.le_succ i)) 11)
theorem trecord_any (v : Value) (cs : List Chg) (F : Nat -> Prop) (w : World) (h : wE w F v cs) (hn : cs.length <= 80) (hg : ∀ c ∈ cs, c.key.length <= 64 /\ (c.gone = true \/ c.value.length <= 1024)) :
 Calls Tryz.prog 59 #[v] w λ e w' => ∃ u, e = .returned u /\ w'.ownsRow w.heap.size 5 1 u (recB cs).length (u8s (recB cs)) /\ Below w.heap.size w w' := by
 obtain ⟨a, cap, rfl, hel⟩ := h;obtain ⟨n, hnn⟩ : ∃ n, cs.length = n := ⟨_, rfl⟩;rw [hnn] at hn ⊢;have HN := zB hnn;have HE := zB hel;have hb0 := zQ w (.cells #[.int .u8 1] 5);have g0 := World.alloc_heap_new w (.cells #[.int .u8 1] 5);have hs0 : Src (w.alloc (.cells #[.int .u8 1] 5)) (.slice (some ⟨w.heap.size, 0, none⟩) 1 1) (u8s [1]) := qH (cs := [.int .u8 1]) g0 (Nat.le_refl _);have HA := zB (uZ _ _ n (by omega) _ hs0 (yU _) (by decide));have hsz0 := hb0.size;have hpre : ∀ i, (yD cs i).length <= 11 + i * 1200 := pZ hg (by omega);have Hpre := zB hpre;clear hnn hel g0 hs0 hpre;go_enter Tryz.func59, Tryz.ntmps59
 go_wp2_with fail
 refine HA.out.mono ?_;rintro e w1 ⟨u, rfl, hown, hB⟩;have hB1 := hb0.trans (hB.mono hsz0);have hown : w1.ownsRow w.heap.size 5 1 u (yD cs 0).length (u8s (yD cs 0)) := by
  have e1 : u8s [1] ++ u8s (sdnv n) = u8s (yD cs 0) := by rw [<- xI]; simp [yD, HN.out]
  have e2 : (u8s [1]).length + (sdnv n).length = (yD cs 0).length := by simp [yD, HN.out, zH]; omega
  rw [e1, e2] at hown;exact yC hown λ j hj => Nat.le_trans hsz0 (hown.lt j hj).1
 have Hown := zB hown;clear hown HA
 go_wp2_with fail
 go_loopw [3, 13] (λ vb vi wr => ∃ i : Nat, vi = .int .i64 i /\ i <= n /\ wr.ownsRow w.heap.size 5 1 vb (yD cs i).length (u8s (yD cs i)) /\ Below w.heap.size w wr) (λ _ vi _ => n - (intOf vi).toNat)
 case atStart => exact ⟨0, rfl, Nat.zero_le _, Hown.out, hB1⟩
 case round =>
  obtain ⟨i, rfl, hi, hrow, hB⟩ := hrel;by_cases hin : i < n
  . have hin' : (i : Int) < (n : Int) := by omega
    obtain ⟨c, hci⟩ : ∃ c, cs[i]? = some c := ⟨_, List.getElem?_eq_getElem (by rw [HN.out]; exact hin)⟩;obtain ⟨g, o, va, vb, rfl, k0, k1, k2, hk, hv, -, hfar⟩ := HE.out i c hci;have hfa : ∀ j, va.ownBlock = some j -> j < w.heap.size := λ j hj => (hfar j (.inl hj)).1;have hfb : ∀ j, vb.ownBlock = some j -> j < w.heap.size := λ j hj => (hfar j (.inr hj)).1;clear hfar;obtain ⟨hkl, hvl⟩ := hg c (List.mem_of_getElem? hci);obtain ⟨aa, ca, rfl, -⟩ := hk.shape;obtain ⟨ab, cb, rfl, -⟩ := hv.shape;have k0 := zG hB k0;have k1 := zG hB k1;have k2 := zG hB k2;have HK := zB (hk.below hB);have HV := zB (hv.below hB);have Hown := zB hrow;have Hci := zB hci;have hp := Hpre.out i;obtain ⟨ua, uc, rfl, -⟩ := zP Hown.out;have hbs := hB.size;clear hrow hk hv hci
    cases hg : c.gone with
    | true =>
     go_wp2_with fail
     have hownlt0 : ∀ j, (Value.slice ua (yD cs i).length uc).ownBlock = some j -> w.heap.size <= j /\ j < wr.heap.size := λ j hj => Hown.out.lt j hj;have hbx := zQ wr (.cells #[Value.slice aa (u8s c.key).length ca, Value.slice ab (u8s c.value).length cb, Value.bool true] 78);have gx := World.alloc_heap_new wr (.cells #[Value.slice aa (u8s c.key).length ca, Value.slice ab (u8s c.value).length cb, Value.bool true] 78);have kk0 := yV gx 0 _ rfl;have kk1 := yV gx 1 _ rfl;have HownR := zB (yA Hown.out hbx);have hownlt : ∀ j, (Value.slice ua (yD cs i).length uc).ownBlock = some j -> j < (wr.alloc (Obj.cells #[Value.slice aa (u8s c.key).length ca, Value.slice ab (u8s c.value).length cb, Value.bool true] 78)).heap.size := λ j hj => Nat.lt_of_lt_of_le (hownlt0 j hj).2 hbx.size;have hnb : ∀ j y, ¬ recS (Value.slice ua (yD cs i).length uc) (yD cs i).length 0 wr.heap.size j y := λ j y hs => by have := (hownlt0 _ hs.1).2; omega
     clear gx;generalize hWR : wr.alloc (Obj.cells #[Value.slice aa (u8s c.key).length ca, Value.slice ab (u8s c.value).length cb, Value.bool true] 78) = WR at *;refine xJ (vF (recS (.slice ua (yD cs i).length uc) (yD cs i).length 0)) 6 [] (λ j => if j = 1 then some (λ _ => oneU WR.heap.size 0) else if j = 2 then some (λ _ => appU w.heap.size WR.heap.size (.slice ua (yD cs i).length uc) (yD cs i) 0) else if j = 5 then some (λ _ v w' => w'.ownsRow WR.heap.size 5 1 v (u8s (yD cs i ++ 0 :: lenB c.key)).length (u8s (yD cs i ++ 0 :: lenB c.key))) else none) (λ _ => True) (λ _ _ => True) fol (by kernel_rfl) (λ _ _ _ _ _ => trivial) (λ W hW hh => ?_);have hsW : W.heap.size = WR.heap.size := by rw [hh]
     have hsWw := Nat.le_trans (Nat.le_trans hbs hbx.size) hW.size;clear hh;have q0 := uJ (S := recS (.slice ua (yD cs i).length uc) (yD cs i).length 0) (zG hW kk0) hnb;have q1 := uJ (S := recS (.slice ua (yD cs i).length uc) (yD cs i).length 0) (zG hW kk1) hnb;have hOW : ∀ w1, (vF (recS (.slice ua (yD cs i).length uc) (yD cs i).length 0)).r W w1 -> w1.ownsRow w.heap.size 5 1 (.slice ua (yD cs i).length uc) (yD cs i).length (u8s (yD cs i)) := λ w1 hr => yL.owns hr (yA HownR.out hW) λ g j y hg hs => by
      obtain ⟨-, rfl, -⟩ := hs;left; omega
     have HOW := zB hOW;clear hOW;simp only [fT]
     repeat ((first | refine rxM ?_ | refine rxF ?_ | (refine vA (by first | exact .inl rfl | exact .inr rfl) rfl ?_)); simp only [zD])
     refine xV _ rfl (oneU_stab hownlt) rfl (λ w1 hr1 hf1 => ?_) (λ v1 W1 hr1 hS1 => ?_)
     . exact xT (xO 52 1 (.const (.int .u8 0)) rfl (build_byte 0 (by decide) w1)) ⟨yL.of_below (zQ _ _), _, rfl, by rw [<- hsW]; exact hr1.size, yV (World.alloc_heap_new _ _) 0 _ rfl⟩
     obtain ⟨g1, rfl, hg1, hc1⟩ := hS1;simp only [zD];refine xV _ rfl (appU_stab hownlt) rfl (λ w1 hr1 hf1 => ?_) (λ v2 W2 hr2 hS2 => ?_)
     . have h7 : oneU WR.heap.size 0 (.slice (some ⟨g1, 0, none⟩) 1 1) w1 := hf1 20 (.inl (by decide)) (by simp);obtain ⟨g7, e7, -, hc7⟩ := h7;injection e7 with e7;injection e7 with e7;injection e7 with e7;subst e7;obtain ⟨v', w', r1, r2, r3, r4⟩ := app_byte w1 w.heap.size (.slice ua (yD cs i).length uc) (yD cs i) (HOW.out w1 hr1) (by omega) g1 1 0 hc7 (Nat.le_trans hsWw hr1.size) 52;refine xT (yM (.tmp 19) (.tmp 20) 52 52 rfl r1) ⟨r3, r2, λ j hj => (r4 j hj).imp id λ h => by have := hr1.size; omega⟩
     obtain ⟨sa, sc, rfl, -⟩ := zP hS2.1;simp only [zD]
     repeat ((first | refine rxM ?_ | refine rxF ?_ | (refine vA (by first | exact .inl rfl | exact .inr rfl) rfl ?_)); simp only [zD])
     have hnoS : ∀ {va : Value} {xs : List Value}, Src W va xs -> (∀ j, va.ownBlock = some j -> j < w.heap.size) -> ∀ w1, (vF (recS (.slice ua (yD cs i).length uc) (yD cs i).length 0)).r W w1 -> Src w1 va xs := λ h h2 w1 hr => xG h (yL.ext hr) λ j hj ⟨_, _, e, _⟩ => by
      have := h2 j hj;have := (hownlt0 j e).1;omega
     have hBel : ∀ w1, (vF (recS (.slice ua (yD cs i).length uc) (yD cs i).length 0)).r W w1 -> Below w.heap.size w w1 := λ w1 hr => ((hB.trans (hbx.mono hbs)).trans (hW.mono (Nat.le_trans hbs hbx.size))).trans (Ext.to_belowAt (yL.ext hr) hsWw λ j hj ⟨_, _, e, _⟩ => by
      have := (hownlt0 j e).1;omega)
     have hr12 := (vF _).trans hr1 hr2;have hkW2 := hnoS ((HK.out.below hbx).below hW) hfa _ hr12;have hB2 := hBel _ hr12;refine sZ (λ v w' => w'.ownsRow W2.heap.size 5 1 v (u8s (yD cs i ++ 0 :: lenB c.key)).length (u8s (yD cs i ++ 0 :: lenB c.key)) /\ Below W2.heap.size W2 w') (λ _ _ => True) rfl rfl ?_ (λ v5 W5 _ hR5 => ?_)
     . have hs2 := Src.of_owns hS2.1;have hk2 := zB hkW2;clear q0 q1
       (unfold yE; go_simp; simp only [zN])
       refine (wC _ _ (u8s (yD cs i ++ [0])) (u8s c.key) W2 hs2 hk2.out (yU _) (yU _) (by rw [zH, List.length_append, List.length_singleton]; omega) (by rw [zH]; omega)).mono ?_;rintro e w' ⟨u, rfl, hown, hB⟩;rw [<- qM, <- xI, List.append_assoc, List.singleton_append] at hown;exact ⟨u, rfl, hown, hB⟩
     simp only [zD];refine oJ ?_;clear q0 q1;obtain ⟨fa, fc, rfl, -⟩ := zP hR5.1
     go_wp2_with fail
     refine ⟨⟨i + 1, by simp, by omega, ?_, hB2.trans (hR5.2.mono hB2.size)⟩, ?_⟩
     . have e1 : yD cs (i + 1) = yD cs i ++ 0 :: lenB c.key := by rw [pY Hci.out]; unfold chgB; rw [if_pos hg]
       rw [e1, <- zH];exact yC hR5.1 λ j hj => Nat.le_trans hB2.size (hR5.1.lt j hj).1
     . show n - ((i : Int) + 1).toNat < n - (i : Int).toNat;omega
    | false =>
     have hvl := hvl.resolve_left (by rw [hg]; decide)
     go_wp2_with fail
     have hownlt0 : ∀ j, (Value.slice ua (yD cs i).length uc).ownBlock = some j -> w.heap.size <= j /\ j < wr.heap.size := λ j hj => Hown.out.lt j hj;have hbx := zQ wr (.cells #[Value.slice aa (u8s c.key).length ca, Value.slice ab (u8s c.value).length cb, Value.bool false] 78);have gx := World.alloc_heap_new wr (.cells #[Value.slice aa (u8s c.key).length ca, Value.slice ab (u8s c.value).length cb, Value.bool false] 78);have kk0 := yV gx 0 _ rfl;have kk1 := yV gx 1 _ rfl;have HownR := zB (yA Hown.out hbx);have hownlt : ∀ j, (Value.slice ua (yD cs i).length uc).ownBlock = some j -> j < (wr.alloc (Obj.cells #[Value.slice aa (u8s c.key).length ca, Value.slice ab (u8s c.value).length cb, Value.bool false] 78)).heap.size := λ j hj => Nat.lt_of_lt_of_le (hownlt0 j hj).2 hbx.size;have hnb : ∀ j y, ¬ recS (Value.slice ua (yD cs i).length uc) (yD cs i).length 1 wr.heap.size j y := λ j y hs => by have := (hownlt0 _ hs.1).2; omega
     clear gx;generalize hWR : wr.alloc (Obj.cells #[Value.slice aa (u8s c.key).length ca, Value.slice ab (u8s c.value).length cb, Value.bool false] 78) = WR at *;refine xJ (vF (recS (.slice ua (yD cs i).length uc) (yD cs i).length 1)) 9 [] (λ j => if j = 1 then some (λ _ => oneU WR.heap.size 1) else if j = 2 then some (λ _ => appU w.heap.size WR.heap.size (.slice ua (yD cs i).length uc) (yD cs i) 1) else if j = 5 then some (λ _ v w' => w'.ownsRow WR.heap.size 5 1 v (u8s (yD cs i ++ 1 :: lenB c.key)).length (u8s (yD cs i ++ 1 :: lenB c.key))) else none) (λ _ => True) (λ _ _ => True) fol (by kernel_rfl) (λ _ _ _ _ _ => trivial) (λ W hW hh => ?_);have hsW : W.heap.size = WR.heap.size := by rw [hh]
     have hsWw := Nat.le_trans (Nat.le_trans hbs hbx.size) hW.size;clear hh;have q0 := uJ (S := recS (.slice ua (yD cs i).length uc) (yD cs i).length 1) (zG hW kk0) hnb;have q1 := uJ (S := recS (.slice ua (yD cs i).length uc) (yD cs i).length 1) (zG hW kk1) hnb;have hOW : ∀ w1, (vF (recS (.slice ua (yD cs i).length uc) (yD cs i).length 1)).r W w1 -> w1.ownsRow w.heap.size 5 1 (.slice ua (yD cs i).length uc) (yD cs i).length (u8s (yD cs i)) := λ w1 hr => yL.owns hr (yA HownR.out hW) λ g j y hg hs => by
      obtain ⟨-, rfl, -⟩ := hs;left; omega
     have HOW := zB hOW;clear hOW;simp only [fT]
     repeat ((first | refine rxM ?_ | refine rxF ?_ | (refine vA (by first | exact .inl rfl | exact .inr rfl) rfl ?_)); simp only [zD])
     refine xV _ rfl (oneU_stab hownlt) rfl (λ w1 hr1 hf1 => ?_) (λ v1 W1 hr1 hS1 => ?_)
     . exact xT (xO 52 1 (.const (.int .u8 1)) rfl (build_byte 1 (by decide) w1)) ⟨yL.of_below (zQ _ _), _, rfl, by rw [<- hsW]; exact hr1.size, yV (World.alloc_heap_new _ _) 0 _ rfl⟩
     obtain ⟨g1, rfl, hg1, hc1⟩ := hS1;simp only [zD];refine xV _ rfl (appU_stab hownlt) rfl (λ w1 hr1 hf1 => ?_) (λ v2 W2 hr2 hS2 => ?_)
     . have h7 : oneU WR.heap.size 1 (.slice (some ⟨g1, 0, none⟩) 1 1) w1 := hf1 26 (.inl (by decide)) (by simp);obtain ⟨g7, e7, -, hc7⟩ := h7;injection e7 with e7;injection e7 with e7;injection e7 with e7;subst e7;obtain ⟨v', w', r1, r2, r3, r4⟩ := app_byte w1 w.heap.size (.slice ua (yD cs i).length uc) (yD cs i) (HOW.out w1 hr1) (by omega) g1 1 1 hc7 (Nat.le_trans hsWw hr1.size) 52;refine xT (yM (.tmp 25) (.tmp 26) 52 52 rfl r1) ⟨r3, r2, λ j hj => (r4 j hj).imp id λ h => by have := hr1.size; omega⟩
     obtain ⟨sa, sc, rfl, -⟩ := zP hS2.1;simp only [zD]
     repeat ((first | refine rxM ?_ | refine rxF ?_ | (refine vA (by first | exact .inl rfl | exact .inr rfl) rfl ?_)); simp only [zD])
     have hnoS : ∀ {va : Value} {xs : List Value}, Src W va xs -> (∀ j, va.ownBlock = some j -> j < w.heap.size) -> ∀ w1, (vF (recS (.slice ua (yD cs i).length uc) (yD cs i).length 1)).r W w1 -> Src w1 va xs := λ h h2 w1 hr => xG h (yL.ext hr) λ j hj ⟨_, _, e, _⟩ => by
      have := h2 j hj;have := (hownlt0 j e).1;omega
     have hBel : ∀ w1, (vF (recS (.slice ua (yD cs i).length uc) (yD cs i).length 1)).r W w1 -> Below w.heap.size w w1 := λ w1 hr => ((hB.trans (hbx.mono hbs)).trans (hW.mono (Nat.le_trans hbs hbx.size))).trans (Ext.to_belowAt (yL.ext hr) hsWw λ j hj ⟨_, _, e, _⟩ => by
      have := (hownlt0 j e).1;omega)
     have hkl1 := mT (show c.key.length <= 4096 by omega);refine xV _ rfl (λ v w1 w2 h hr => yL.owns hr h λ g j y hg hs => by have := hownlt g hs.1; have := (h.lt g hg).1; omega) rfl (λ w1 hr3 hf1 => ?_) (λ v5 W5 hr5 hS5 => ?_)
     . have f2 : appU w.heap.size WR.heap.size (.slice ua (yD cs i).length uc) (yD cs i) 1 (.slice sa ((yD cs i).length + 1) sc) w1 := hf1 27 (.inl (by decide)) (by simp);have hs2 := Src.of_owns f2.1;have hk2 := zB (hnoS ((HK.out.below hbx).below hW) hfa _ hr3);have hsz3 := hr3.size;clear q0 q1 hf1 f2
       (unfold yE; go_simp; simp only [zN])
       refine (wC _ _ (u8s (yD cs i ++ [1])) (u8s c.key) w1 hs2 hk2.out (yU _) (yU _) (by rw [zH, List.length_append, List.length_singleton]; omega) (by rw [zH]; omega)).mono ?_;rintro e w' ⟨u, rfl, hown, hB⟩;rw [<- qM, <- xI, List.append_assoc, List.singleton_append] at hown;exact ⟨u, rfl, yL.of_below hB, yC hown λ j hj => Nat.le_trans (by omega) (hown.lt j hj).1⟩
     obtain ⟨ta, tc, rfl, -⟩ := zP hS5;simp only [zD]
     repeat ((first | refine rxM ?_ | refine rxF ?_ | (refine vA (by first | exact .inl rfl | exact .inr rfl) rfl ?_)); simp only [zD])
     have hr15 := (vF _).trans ((vF _).trans hr1 hr2) hr5;have hvW5 := hnoS ((HV.out.below hbx).below hW) hfb _ hr15;have hB5 := hBel _ hr15;refine sZ (λ v w' => w'.ownsRow W5.heap.size 5 1 v (u8s (yD cs i ++ 1 :: (lenB c.key ++ lenB c.value))).length (u8s (yD cs i ++ 1 :: (lenB c.key ++ lenB c.value))) /\ Below W5.heap.size W5 w') (λ _ _ => True) rfl rfl ?_ (λ v8 W8 _ hR8 => ?_)
     . have hs5 := Src.of_owns hS5;have hv5 := zB hvW5;clear q0 q1
       (unfold yE; go_simp; simp only [zN])
       refine (wC _ _ (u8s (yD cs i ++ 1 :: lenB c.key)) (u8s c.value) W5 hs5 hv5.out (yU _) (yU _) (by rw [zH, List.length_append, List.length_cons]; omega) (by rw [zH]; omega)).mono ?_;rintro e w' ⟨u, rfl, hown, hB⟩;rw [<- qM, <- xI, List.append_assoc, List.cons_append] at hown;exact ⟨u, rfl, hown, hB⟩
     simp only [zD];refine oJ ?_;clear q0 q1;obtain ⟨fa, fc, rfl, -⟩ := zP hR8.1
     go_wp2_with fail
     refine ⟨⟨i + 1, by simp, by omega, ?_, hB5.trans (hR8.2.mono hB5.size)⟩, ?_⟩
     . have e1 : yD cs (i + 1) = yD cs i ++ 1 :: (lenB c.key ++ lenB c.value) := by rw [pY Hci.out]; unfold chgB; rw [if_neg (by rw [hg]; decide)]
       rw [e1, <- zH];exact yC hR8.1 λ j hj => Nat.le_trans hB5.size (hR8.1.lt j hj).1
     . show n - ((i : Int) + 1).toNat < n - (i : Int).toNat;omega
  . obtain rfl : i = n := by omega
    have hin' : ¬ (i : Int) < (i : Int) := by omega
    go_wp2_with fail
    go_ret
    rw [<- HN.out, jB] at hrow;exact ⟨_, rfl, hrow, hB⟩
theorem und_imap : Tryz.prog.underlying 160 = some (.map 9 3) := by kernel_rfl
theorem zero_int (w : World) : (zeroValue 3).run Tryz.prog w = .ok (.int .i64 0) w := by kernel_rfl
structure IMap (w : World) (bm : Nat) (ks : List (List Int)) (V : List Int -> Int) : Prop where
 some' : ∃ D, w.ownsMap Tryz.prog 9 asIs bm ks.length D /\ Maps.size D = ks.length /\ ks.Nodup /\
  (∀ k, zO k -> D.atKey (keyL k) (.held (.int .i64 0)) = .held (.int .i64 (V k)) /\ Maps.has D (keyL k) = decide (k ∈ ks)) /\ ∀ k, k ∉ ks -> V k = 0
theorem IMap.keep {w w' : World} {bm : Nat} {ks : List (List Int)} {V : List Int -> Int} (h : IMap w bm ks V) (hb : w'.heap[bm]? = w.heap[bm]?) : IMap w' bm ks V := by
 obtain ⟨D, ⟨es, clock, h1, h2⟩, h3⟩ := h.some';exact ⟨D, ⟨es, clock, hb.trans h1, h2⟩, h3⟩
theorem IMap.lt {w : World} {bm : Nat} {ks : List (List Int)} {V : List Int -> Int} (h : IMap w bm ks V) : bm < w.heap.size := by
 obtain ⟨D, h1, -⟩ := h.some';exact h1.lt
theorem IMap.none' {w : World} {bm : Nat} {ks : List (List Int)} {V : List Int -> Int} (h : IMap w bm ks V) : ∀ k, k ∉ ks -> V k = 0 := by
 obtain ⟨D, -, -, -, -, h1⟩ := h.some';exact h1
theorem IMap.new {w : World} {g : Nat} (h : w.heap[g]? = some (.map #[] 0)) : IMap w g [] (λ _ => 0) := by
 obtain ⟨es, clock, hb, F, hs, hD⟩ := World.ownsMap_made w Tryz.prog 9 asIs;rw [World.alloc_heap_new] at hb;injection hb with hb;injection hb with e1 e2;subst e1 e2;exact ⟨⟨.map [], ⟨#[], 0, h, F, Nat.le_refl _, rfl⟩, rfl, List.nodup_nil, λ i _ => ⟨rfl, by simp [Maps.has]⟩, λ i _ => rfl⟩⟩
theorem IMap.look {w : World} {bm : Nat} {ks : List (List Int)} {V : List Int -> Int} (h : IMap w bm ks V) (k : List Int) (hk : zO k) (hl : k.length <= 549755813888) :
 Sem.run Tryz.prog (Instr.lookup 160 (.map (some bm)) (.string (strOfNums k)) false) w = .ok (.int .i64 (V k)) w := by
 obtain ⟨D, h1, -, -, h2, -⟩ := h.some';obtain ⟨v, ps, hr, hv⟩ := h1.lookup (Maps.string_keyed vZ) und_imap (zero_int w) (show asIs (.int .i64 0) = some (.held (.int .i64 0), []) from rfl) (rS k hl);rw [(h2 k hk).1] at hv;rw [kP hv] at hr;exact hr
theorem IMap.look_ok {w : World} {bm : Nat} {ks : List (List Int)} {V : List Int -> Int} (h : IMap w bm ks V) (k : List Int) (hk : zO k) (hl : k.length <= 549755813888) :
 Sem.run Tryz.prog (Instr.lookup 160 (.map (some bm)) (.string (strOfNums k)) true) w = .ok (.tuple #[.int .i64 (V k), .bool (decide (k ∈ ks))]) w := by
 obtain ⟨D, h1, -, -, h2, -⟩ := h.some';obtain ⟨v, ps, hr, hv⟩ := h1.look_ok (Maps.string_keyed vZ) und_imap (zero_int w) (show asIs (.int .i64 0) = some (.held (.int .i64 0), []) from rfl) (rS k hl);rw [(h2 k hk).1] at hv;rw [kP hv, (h2 k hk).2] at hr;exact hr
def vG (V : List Int -> Int) (i : List Int) (v : Int) (j : List Int) : Int := if j = i then v else V j
theorem IMap.store {w : World} {bm : Nat} {ks : List (List Int)} {V : List Int -> Int} (h : IMap w bm ks V) (hn : ks.length <= 549755813887) (k : List Int) (hk : zO k) (hl : k.length <= 549755813888) (v : Int) :
 ∃ w', (Instr.mapUpdate 160 (.map (some bm)) (.string (strOfNums k)) (.int .i64 v)).run Tryz.prog w = .ok () w' /\ IMap w' bm (uK ks k) (vG V k v) /\ Ext (· = bm) w w' := by
 obtain ⟨D, h1, h2, h3, h4, h5⟩ := h.some';have K := Maps.string_keyed vZ;obtain ⟨w', r1, r2, r3⟩ := h1.update K und_imap (by unfold maxLen; omega) (rS k hl) (show asIs (.int .i64 v) = some (.held (.int .i64 v), []) from rfl);have ht := h1.tidy K;have hsz := Maps.size_put ht (k := keyL k) (.held (.int .i64 v));rw [(h4 k hk).2, h2] at hsz;have hlen : Maps.size (D.put (keyL k) (.held (.int .i64 v))) = (uK ks k).length := by
  rw [hsz];unfold uK;by_cases hm : k ∈ ks
  . simp [hm]
  . simp [hm]
 refine ⟨w', r1, ⟨D.put (keyL k) (.held (.int .i64 v)), by rw [<- hlen]; exact qZ r2, hlen, ?_, λ j hj => ?_, λ j hj => ?_⟩, ⟨r3.os, r3.tape, r3.output, r3.size, λ j hj hne => r3.block j hj λ e => hne (by injection e)⟩⟩
 . unfold uK
   split
   . exact h3
   . rename_i hm; exact List.nodup_cons.2 ⟨hm, h3⟩
 . have hD := h1.isMap;have hkl : WideAt.IsKeyLit (keyL k) := by first | trivial | simp [WideAt.IsKeyLit, keyL]
   by_cases hji : j = k
   . subst hji;exact ⟨by rw [Maps.atKey_put_same hD hkl]; simp [vG], by rw [Maps.has_put_same hD hkl]; simp [wD]⟩
   . have hne : keyL j ≠ keyL k := λ e => hji (keyL_inj hj hk e);refine ⟨?_, ?_⟩
     . rw [Maps.atKey_put_other hne, (h4 j hj).1]; simp [vG, hji]
     . rw [Maps.has_put_other hne, (h4 j hj).2];simp [wD, hji]
 . have := λ e => hj (wD.2 e);have h6 : j ≠ k := λ e => this (.inl e);have h7 : j ∉ ks := λ e => this (.inr e);simp [vG, h6, h5 j h7]
def atP (ps : List Pr) (k : List Int) : Option (List Int) := (ps.find? λ p => decide (p.1 = k)).map Prod.snd
theorem valP_at (ps : List Pr) (k : List Int) : valP ps k = (atP ps k).getD [] := rfl
theorem qQ {ps : List Pr} {k : List Int} : atP ps k = none ↔ k ∉ zS ps := by
 unfold atP;rw [Option.map_eq_none_iff, List.find?_eq_none];constructor
 . intro h hk;obtain ⟨v, hv⟩ := uG hk;exact h _ hv (by simp)
 . intro h p hp e;rw [decide_eq_true_iff] at e;exact h (e ▸ tP hp)
theorem kO {ps : List Pr} {k v : List Int} (hn : (zS ps).Nodup) : atP ps k = some v ↔ (k, v) ∈ ps := by
 constructor
 . intro h;unfold atP at h;obtain ⟨p, h1, h2⟩ := Option.map_eq_some_iff.1 h;have h3 := List.find?_some h1;rw [decide_eq_true_iff] at h3;obtain ⟨a, b⟩ := p;simp only at h2 h3;subst h2 h3;exact List.mem_of_find?_eq_some h1
 . intro h
   cases e : atP ps k with
   | none => exact absurd (tP h) (qQ.1 e)
   | some u =>
    have : (k, u) ∈ ps := by
     unfold atP at e;obtain ⟨p, h1, h2⟩ := Option.map_eq_some_iff.1 e;have h3 := List.find?_some h1;rw [decide_eq_true_iff] at h3;obtain ⟨a, b⟩ := p;simp only at h2 h3;subst h2 h3;exact List.mem_of_find?_eq_some h1
    rw [rA.snd_of_nodup hn this h]
theorem mem_put_self {ps : List Pr} {k v : List Int} : (k, v) ∈ putP ps k v := by
 unfold putP
 split
 . rename_i h;obtain ⟨u, hu⟩ := uG h;exact List.mem_map.2 ⟨(k, u), hu, by simp⟩
 . simp
theorem mem_put_old {ps : List Pr} {k v : List Int} {p : Pr} (h : p ∈ ps) (hne : p.1 ≠ k) : p ∈ putP ps k v := by
 unfold putP
 split
 . exact List.mem_map.2 ⟨p, h, by rw [if_neg hne]⟩
 . rw [<- List.take_append_drop (posK (zS ps) k) ps] at h;rcases List.mem_append.1 h with h | h
   . exact List.mem_append_left _ h
   . exact List.mem_append_right _ (List.mem_cons_of_mem _ h)
theorem atP_put {ps : List Pr} (hr : yQ (zS ps)) (k v j : List Int) : atP (putP ps k v) j = if j = k then some v else atP ps j := by
 have hn := wO (iL (v := v) (k := k) hr)
 split
 . rename_i h;subst h;exact (kO hn).2 mem_put_self
 . rename_i h
   cases e : atP ps j with
   | none =>
    rw [qQ] at e ⊢;intro hj;obtain ⟨u, hu⟩ := uG hj;rcases mem_put hu with e2 | ⟨e2, -⟩
    . injection e2 with e2 _; exact h e2
    . exact e (tP e2)
   | some u => exact (kO hn).2 (mem_put_old ((kO (wO hr)).1 e) h)
theorem mem_del_old {ps : List Pr} {k : List Int} (hr : yQ (zS ps)) {p : Pr} (h : p ∈ ps) (hne : p.1 ≠ k) : p ∈ delP ps k := by
 unfold delP
 split
 . rename_i hk;obtain ⟨v, h1, -, -⟩ := rA hr hk;obtain ⟨hi, h4⟩ := List.getElem?_eq_some_iff.1 h1;rw [<- List.take_append_drop (posK (zS ps) k) ps, List.drop_eq_getElem_cons hi, h4] at h;rcases List.mem_append.1 h with h | h
   . exact List.mem_append_left _ h
   . rcases List.mem_cons.1 h with rfl | h
     . exact absurd rfl hne
     . exact List.mem_append_right _ h
 . exact h
theorem atP_del {ps : List Pr} (hr : yQ (zS ps)) (k j : List Int) : atP (delP ps k) j = if j = k then none else atP ps j := by
 have hn := wO (iM (k := k) hr)
 split
 . rename_i h;subst h;rw [qQ];intro hj;obtain ⟨u, hu⟩ := uG hj;exact (mem_del hr hu).2 rfl
 . rename_i h
   cases e : atP ps j with
   | none =>
    rw [qQ] at e ⊢;intro hj;obtain ⟨u, hu⟩ := uG hj;exact e (tP (mem_del hr hu).1)
   | some u => exact (kO hn).2 (mem_del_old hr ((kO (wO hr)).1 e) h)
theorem rise_chg {ps : List Pr} {c : Chg} (hr : yQ (zS ps)) : yQ (zS (chgP ps c)) := by
 unfold chgP
 split
 . exact iM hr
 . exact iL hr
theorem atP_chg {ps : List Pr} (hr : yQ (zS ps)) (c : Chg) (j : List Int) : atP (chgP ps c) j = if j = c.key then (if c.gone then none else some c.value) else atP ps j := by
 unfold chgP
 split
 . rw [atP_del hr]
 . rw [atP_put hr]
def curN (ps : List Pr) (k : List Int) : Nat := match atP ps k with
 | none => 0
 | some v => yY k v
theorem live_chg {ps : List Pr} (hr : yQ (zS ps)) (c : Chg) : zU (chgP ps c) + curN ps c.key = zU ps + (if c.gone then 0 else yY c.key c.value) := by
 have hcur : ∀ {k}, k ∈ zS ps -> curN ps k = yY k (valP ps k) := λ {k} hk => by
  unfold curN;rw [valP_at]
  cases e : atP ps k with
  | none => exact absurd hk (qQ.1 e)
  | some v => rfl
 have hcur0 : ∀ {k}, k ∉ zS ps -> curN ps k = 0 := λ {k} hk => by
  unfold curN;rw [qQ.2 hk]
 unfold chgP;by_cases hk : c.key ∈ zS ps <;> cases hg : c.gone
 . simp only [Bool.false_eq_true, if_false];rw [hcur hk, live_put hr hk]
 . simp only [if_true];rw [hcur hk, live_del hr hk];rfl
 . simp only [Bool.false_eq_true, if_false];rw [hcur0 hk, live_ins hk];rfl
 . simp only [if_true];rw [hcur0 hk];unfold delP;rw [if_neg hk]
def xH (ps : List Pr) (cs : List Chg) : List Pr := cs.foldl chgP ps
theorem lO {ps : List Pr} (hr : yQ (zS ps)) (cs : List Chg) : yQ (zS (xH ps cs)) := by
 induction cs generalizing ps with
 | nil => exact hr
 | cons c cs ih => exact ih (rise_chg hr)
theorem pH {ps : List Pr} {cs : List Chg} {i : Nat} {c : Chg} (h : cs[i]? = some c) : xH ps (cs.take (i + 1)) = chgP (xH ps (cs.take i)) c := by
 unfold xH;rw [List.take_add_one, h, List.foldl_append];rfl
theorem atP_chgs_old {ps : List Pr} (hr : yQ (zS ps)) {k : List Int} (cs : List Chg) (h : ∀ c ∈ cs, c.key ≠ k) : atP (xH ps cs) k = atP ps k := by
 induction cs generalizing ps with
 | nil => rfl
 | cons c cs ih =>
  have h1 := h c (List.mem_cons_self ..);show atP (xH (chgP ps c) cs) k = _;rw [ih (rise_chg hr) λ d hd => h d (List.mem_cons_of_mem _ hd), atP_chg hr, if_neg (λ e => h1 e.symm)]
def gN (cs : List Chg) : List (List Int) := cs.foldl (λ ks c => uK ks c.key) []
theorem named_succ {cs : List Chg} {i : Nat} {c : Chg} (h : cs[i]? = some c) : gN (cs.take (i + 1)) = uK (gN (cs.take i)) c.key := by
 unfold gN;rw [List.take_add_one, h, List.foldl_append];rfl
theorem named_mem (cs : List Chg) (k : List Int) : k ∈ gN cs ↔ ∃ c ∈ cs, c.key = k := by
 have h : ∀ (cs : List Chg) (ks : List (List Int)), k ∈ cs.foldl (λ ks c => uK ks c.key) ks ↔ k ∈ ks \/ ∃ c ∈ cs, c.key = k := by
  intro cs
  induction cs with
  | nil => simp
  | cons c cs ih =>
   intro ks;rw [List.foldl_cons, ih, wD];constructor
   . rintro ((rfl | h) | ⟨d, h1, h2⟩)
     . exact .inr ⟨c, List.mem_cons_self .., rfl⟩
     . exact .inl h
     . exact .inr ⟨d, List.mem_cons_of_mem _ h1, h2⟩
   . rintro (h | ⟨d, h1, h2⟩)
     . exact .inl (.inr h)
     . rcases List.mem_cons.1 h1 with rfl | h1
       . exact .inl (.inl h2.symm)
       . exact .inr ⟨d, h1, h2⟩
 have h2 := h cs [];unfold gN;rw [h2];constructor
 . rintro (h | h)
   . cases h
   . exact h
 . exact .inr
theorem qS (ks : List (List Int)) (k : List Int) : (uK ks k).length <= ks.length + 1 := by
 unfold uK
 split
 . omega
 . rw [List.length_cons]; omega
theorem named_length (cs : List Chg) : ∀ i, (gN (cs.take i)).length <= i := by
 intro i
 induction i with
 | zero => simp [gN]
 | succ i ih =>
  rcases Nat.lt_or_ge i cs.length with h | h
  . rw [named_succ (List.getElem?_eq_getElem h)];unfold uK
    split
    . omega
    . rw [List.length_cons]; omega
  . have e : cs.take (i + 1) = cs.take i := by rw [List.take_of_length_le h, List.take_of_length_le (Nat.le_succ_of_le h)]
    rw [e];exact Nat.le_succ_of_le ih
theorem sS {ps : List Pr} (hr : yQ (zS ps)) {cs : List Chg} (hg : ∀ c ∈ cs, c.key.length <= 64 /\ (c.gone = true \/ c.value.length <= 1024)) (i : Nat) : zU (xH ps (cs.take i)) <= zU ps + i * 1108 := by
 induction i with
 | zero => simp [xH]
 | succ i ih =>
  rcases Nat.lt_or_ge i cs.length with h | h
  . rw [pH (List.getElem?_eq_getElem h)];have h1 := live_chg (lO hr (cs.take i)) cs[i];have h2 := hg cs[i] (List.getElem_mem h)
    split at h1
    . omega
    . rename_i hg;have h3 := oC h2.1 (h2.2.resolve_left hg);omega
  . have e : cs.take (i + 1) = cs.take i := by rw [List.take_of_length_le h, List.take_of_length_le (Nat.le_succ_of_le h)]
    rw [e];exact Nat.le_trans ih (Nat.add_le_add_left (Nat.mul_le_mul_right 1108 (Nat.le_succ i)) _)
theorem curN_chg {ps : List Pr} (hr : yQ (zS ps)) (c : Chg) (k : List Int) : curN (chgP ps c) k = if k = c.key then (if c.gone then 0 else yY c.key c.value) else curN ps k := by
 unfold curN;rw [atP_chg hr];by_cases h : k = c.key
 . subst h;rw [if_pos rfl, if_pos rfl]
   cases c.gone <;> rfl
 . rw [if_neg h, if_neg h]
theorem behind_any (d l : Nat) (q : TBk) (T : TblS) (v : Value) (cs : List Chg) (F : Nat -> Prop) (w : World) (h : sH w d l q T) (hlive : T.live = zU T.ps) (hsum : zU T.ps <= 1073741824)
 (hb : wE w F v cs) (hn : cs.length <= 80) (hg : ∀ c ∈ cs, c.key.length <= 64 /\ (c.gone = true \/ c.value.length <= 1024)) (hkb : ∀ c ∈ cs, zO c.key) :
 Calls Tryz.prog 60 #[.pointer (some ⟨q.t, 0, none⟩), v] w λ e w' => e = .returned (.int .i64 (zU (xH T.ps cs))) /\ Below w.heap.size w w' := by
 obtain ⟨a, cap, rfl, hel⟩ := hb;obtain ⟨n, hnn⟩ : ∃ n, cs.length = n := ⟨_, rfl⟩;rw [hnn] at hn ⊢;have HN := zB hnn;have HE := zB hel;have HT := zB h;obtain ⟨-, -, -, c3, -, c5, -⟩ := h.cs;have hb0 := zQ w (.map #[] 0);have g0 := World.alloc_heap_new w (.map #[] 0);have HI := zB (show IMap (w.alloc (.map #[] 0)) w.heap.size [] (λ _ => 0) from IMap.new g0);have hmm := @run_makeMap Tryz.prog;have HLV := zB (sS h.rise hg);rw [hlive] at c5;clear hnn hel g0 h;go_enter Tryz.func60, Tryz.ntmps60
 go_wp2_with fail
 clear hmm
 go_loopw [5, 21] (λ vn vi wr => ∃ (i : Nat) (V : List Int -> Int), vi = .int .i64 i /\ i <= n /\ vn = .int .i64 (zU (xH T.ps (cs.take i))) /\ IMap wr w.heap.size (gN (cs.take i)) V /\ (∀ k ∈ gN (cs.take i), V k = curN (xH T.ps (cs.take i)) k) /\ Below w.heap.size w wr) (λ _ vi _ => n - (intOf vi).toNat)
 case atStart => exact ⟨0, λ _ => 0, rfl, Nat.zero_le _, rfl, HI.out, λ k hk => (by cases hk), hb0⟩
 case round =>
  obtain ⟨i, V, rfl, hi, rfl, hI, hV, hB⟩ := hrel;by_cases hin : i < n
  . have hin' : (i : Int) < (n : Int) := by omega
    obtain ⟨c, hci⟩ : ∃ c, cs[i]? = some c := ⟨_, List.getElem?_eq_getElem (by rw [HN.out]; exact hin)⟩;obtain ⟨g, o, va, vb, rfl, k0, k1, k2, hk, hv, -, hfar⟩ := HE.out i c hci;obtain ⟨hkl, hvl⟩ := hg c (List.mem_of_getElem? hci);have hkey := hkb c (List.mem_of_getElem? hci);have hl1 := HLV.out i;have hl2 := HLV.out (i + 1);have hch := live_chg (lO HT.out.rise (cs.take i)) c;have hold : c.key ∉ gN (cs.take i) -> curN (xH T.ps (cs.take i)) c.key = curN T.ps c.key := λ hno => by
     unfold curN;rw [atP_chgs_old HT.out.rise _ λ d hd e => hno ((named_mem _ _).2 ⟨d, hd, e⟩)]
    have hnew := curN_chg (lO HT.out.rise (cs.take i)) c;rw [<- pH hci] at hch hnew;have hnm := named_succ hci;have Hnl := zB (named_length cs i);obtain ⟨psi, hpsi⟩ : ∃ ps, xH T.ps (cs.take i) = ps := ⟨_, rfl⟩;obtain ⟨ps', hps'⟩ : ∃ ps, xH T.ps (cs.take (i + 1)) = ps := ⟨_, rfl⟩;obtain ⟨ksi, hksi⟩ : ∃ ks, gN (cs.take i) = ks := ⟨_, rfl⟩;rw [hpsi] at hch hold hnew hl1 hV ⊢;rw [hps'] at hch hnew hl2;rw [hksi] at hnm hold hI hV Hnl;have HP := zB (zC hps' hnm);have hfa : ∀ j, va.ownBlock = some j -> j < w.heap.size := λ j hj => (hfar j (.inl hj)).1;have hfb : ∀ j, vb.ownBlock = some j -> j < w.heap.size := λ j hj => (hfar j (.inr hj)).1;clear hpsi hps' hksi hnm hfar;obtain ⟨aa, ca, rfl, -⟩ := hk.shape;obtain ⟨ab, cb, rfl, -⟩ := hv.shape;have k0 := zG hB k0;have k1 := zG hB k1;have k2 := zG hB k2;have HV := zB hV;have Hnew := zB hnew;obtain ⟨cur, hcur⟩ : ∃ x, curN psi c.key = x := ⟨_, rfl⟩;rw [hcur] at hch hold;have hbs := hB.size;have hbx := zQ wr (.cells #[Value.slice aa (u8s c.key).length ca, Value.slice ab (u8s c.value).length cb, Value.bool c.gone] 78);have gx := World.alloc_heap_new wr (.cells #[Value.slice aa (u8s c.key).length ca, Value.slice ab (u8s c.value).length cb, Value.bool c.gone] 78);have kk0 := yV gx 0 _ rfl;have kk1 := yV gx 1 _ rfl;have kk2 := yV gx 2 _ rfl;have hBx := hB.trans (hbx.mono hbs);have HK := zB (hk.below hBx);have HVV := zB (hv.below hBx);have HIx := zB (hI.keep (hbx.block _ hI.lt));have HTx := zB (HT.out.below hBx);have hbne : ¬ wr.heap.size = w.heap.size := by have := hI.lt; omega
    have hVc : V c.key = (curN psi c.key : Int) \/ c.key ∉ ksi := by
     by_cases h : c.key ∈ ksi
     . exact .inl (hV _ h)
     . exact .inr h
    have hV0 := hI.none';have c3x := HTx.out.cs.2.2.2.1;have hlk1 := HIx.out.look_ok c.key hkey (by omega);have hlk2 := HTx.out.map.look_ok c.key hkey (by omega);have hcv := sQ HK.out;rw [hcur] at hVc;have Hcur := zB hcur;clear hk hv hI hV hnew hci gx hcur;generalize hWR : wr.alloc (Obj.cells #[Value.slice aa (u8s c.key).length ca, Value.slice ab (u8s c.value).length cb, Value.bool c.gone] 78) = WR at *;have HWR := zB hWR;clear hWR;by_cases hkn : c.key ∈ ksi
    . have hd := decide_eq_true hkn;rw [hd, hVc.resolve_right (λ h => h hkn)] at hlk1;have k0q := kk0;have k1q := kk1;have k2q := kk2;have HIq := HIx;have HKq := HK;have HVq := HVV;have HBq := zB hBx
      cases hd2 : decide (c.key ∈ zS T.ps) with
      | true =>
       rw [hd2] at hlk2;obtain ⟨W1, hr1, hm1, hX1⟩ := HIq.out.store (by have := Hnl.out; omega) c.key hkey (by omega) 0;have k01 : W1.cell? ⟨wr.heap.size, 0, none⟩ = some (.slice aa (u8s c.key).length ca) := hX1.cell_some k0q hbne;have k11 : W1.cell? ⟨wr.heap.size, 1, none⟩ = some (.slice ab (u8s c.value).length cb) := hX1.cell_some k1q hbne;have k21 : W1.cell? ⟨wr.heap.size, 2, none⟩ = some (.bool c.gone) := hX1.cell_some k2q hbne;have HM1 := zB hm1;have HX1 := zB hX1;have HQ1 := zB (HBq.out.trans (Ext.to_belowAt hX1 HBq.out.size λ j hj e => by omega));have hs01 : vG V c.key 0 c.key = 0 := by simp [vG]
       clear hm1 hX1;rcases Bool.eq_false_or_eq_true c.gone with hgo | hgo
       . rw [hgo] at k21 hch;have Hgo := zB hgo;clear hgo;simp only [if_true] at hch;have hl3 := HM1.out.look c.key hkey (by omega);rw [hs01] at hl3;have hfin : (zU psi : Int) - (cur : Int) = (zU ps' : Int) := by omega
         go_wp2_with (simp only [HWR.out])
         refine ⟨⟨i + 1, vG V c.key 0, by simp, by omega, ?_, ?_, ?_, HQ1.out⟩, ?_⟩
         . rw [HP.out.1]
           congr 1 <;> omega
         . rw [HP.out.2]; exact HM1.out
         . rw [HP.out.1, HP.out.2];intro k hk;rw [Hnew.out, Hgo.out];unfold vG;by_cases h : k = c.key
           . rw [if_pos h, if_pos h]; rfl
           . rw [if_neg h, if_neg h];exact HV.out k ((wD.1 hk).resolve_left h)
         . show n - ((i : Int) + 1).toNat < n - (i : Int).toNat;omega
       . rw [hgo] at k21 hch;have Hgo := zB hgo;clear hgo;simp only [Bool.false_eq_true, if_false] at hch;have hvl := hvl.resolve_left (by rw [Hgo.out]; decide);have hp := oC hkl hvl;have HPB := zB (wV (.slice aa (u8s c.key).length ca) (.slice ab (u8s c.value).length cb) c.key c.value W1 (xG HKq.out HX1.out λ j hj e => by have := hfa j hj; omega) (xG HVq.out HX1.out λ j hj e => by have := hfb j hj; omega) (by omega) (by omega))
         go_wp2_with (first | (simp only [HWR.out]) | (go_at_call 104; refine HPB.out.mono ?_; rintro e W2 ⟨rfl, hB2⟩; obtain ⟨W3, hr3, hm3, hX3⟩ := (HM1.out.keep (hB2.block _ HM1.out.lt)).store (by have := Hnl.out; have := qS ksi c.key; omega) c.key hkey (by omega) (yY c.key c.value : Int); have hl3 := hm3.look c.key hkey (by omega); rw [show vG (vG V c.key 0) c.key (yY c.key c.value : Int) c.key = (yY c.key c.value : Int) by simp [vG]] at hl3; have HM3 := zB hm3; have HX3 := zB hX3; have HB2 := zB hB2; clear hm3 hX3 hB2))
         refine ⟨⟨i + 1, vG (vG V c.key 0) c.key (yY c.key c.value : Int), by simp, by omega, ?_, ?_, ?_, ?_⟩, ?_⟩
         . rw [HP.out.1]
           congr 1 <;> omega
         . rw [HP.out.2];have := HM3.out
           rwa [show uK (uK ksi c.key) c.key = uK ksi c.key by rw [uK, if_pos (wD.2 (.inl rfl))]] at this
         . rw [HP.out.1, HP.out.2];intro k hk;rw [Hnew.out, Hgo.out];unfold vG;by_cases h : k = c.key
           . rw [if_pos h, if_pos h]; rfl
           . rw [if_neg h, if_neg h, if_neg h];exact HV.out k ((wD.1 hk).resolve_left h)
         . exact (HQ1.out.trans (HB2.out.mono HQ1.out.size)).trans (Ext.to_belowAt HX3.out (Nat.le_trans HQ1.out.size HB2.out.size) λ j hj e => by omega)
         . show n - ((i : Int) + 1).toNat < n - (i : Int).toNat;omega
      | false =>
       rw [hd2] at hlk2;obtain ⟨W1, hr1, hm1, hX1⟩ := HIq.out.store (by have := Hnl.out; omega) c.key hkey (by omega) 0;have k01 : W1.cell? ⟨wr.heap.size, 0, none⟩ = some (.slice aa (u8s c.key).length ca) := hX1.cell_some k0q hbne;have k11 : W1.cell? ⟨wr.heap.size, 1, none⟩ = some (.slice ab (u8s c.value).length cb) := hX1.cell_some k1q hbne;have k21 : W1.cell? ⟨wr.heap.size, 2, none⟩ = some (.bool c.gone) := hX1.cell_some k2q hbne;have HM1 := zB hm1;have HX1 := zB hX1;have HQ1 := zB (HBq.out.trans (Ext.to_belowAt hX1 HBq.out.size λ j hj e => by omega));have hs01 : vG V c.key 0 c.key = 0 := by simp [vG]
       clear hm1 hX1;rcases Bool.eq_false_or_eq_true c.gone with hgo | hgo
       . rw [hgo] at k21 hch;have Hgo := zB hgo;clear hgo;simp only [if_true] at hch;have hl3 := HM1.out.look c.key hkey (by omega);rw [hs01] at hl3;have hfin : (zU psi : Int) - (cur : Int) = (zU ps' : Int) := by omega
         go_wp2_with (simp only [HWR.out])
         refine ⟨⟨i + 1, vG V c.key 0, by simp, by omega, ?_, ?_, ?_, HQ1.out⟩, ?_⟩
         . rw [HP.out.1]
           congr 1 <;> omega
         . rw [HP.out.2]; exact HM1.out
         . rw [HP.out.1, HP.out.2];intro k hk;rw [Hnew.out, Hgo.out];unfold vG;by_cases h : k = c.key
           . rw [if_pos h, if_pos h]; rfl
           . rw [if_neg h, if_neg h];exact HV.out k ((wD.1 hk).resolve_left h)
         . show n - ((i : Int) + 1).toNat < n - (i : Int).toNat;omega
       . rw [hgo] at k21 hch;have Hgo := zB hgo;clear hgo;simp only [Bool.false_eq_true, if_false] at hch;have hvl := hvl.resolve_left (by rw [Hgo.out]; decide);have hp := oC hkl hvl;have HPB := zB (wV (.slice aa (u8s c.key).length ca) (.slice ab (u8s c.value).length cb) c.key c.value W1 (xG HKq.out HX1.out λ j hj e => by have := hfa j hj; omega) (xG HVq.out HX1.out λ j hj e => by have := hfb j hj; omega) (by omega) (by omega))
         go_wp2_with (first | (simp only [HWR.out]) | (go_at_call 104; refine HPB.out.mono ?_; rintro e W2 ⟨rfl, hB2⟩; obtain ⟨W3, hr3, hm3, hX3⟩ := (HM1.out.keep (hB2.block _ HM1.out.lt)).store (by have := Hnl.out; have := qS ksi c.key; omega) c.key hkey (by omega) (yY c.key c.value : Int); have hl3 := hm3.look c.key hkey (by omega); rw [show vG (vG V c.key 0) c.key (yY c.key c.value : Int) c.key = (yY c.key c.value : Int) by simp [vG]] at hl3; have HM3 := zB hm3; have HX3 := zB hX3; have HB2 := zB hB2; clear hm3 hX3 hB2))
         refine ⟨⟨i + 1, vG (vG V c.key 0) c.key (yY c.key c.value : Int), by simp, by omega, ?_, ?_, ?_, ?_⟩, ?_⟩
         . rw [HP.out.1]
           congr 1 <;> omega
         . rw [HP.out.2];have := HM3.out
           rwa [show uK (uK ksi c.key) c.key = uK ksi c.key by rw [uK, if_pos (wD.2 (.inl rfl))]] at this
         . rw [HP.out.1, HP.out.2];intro k hk;rw [Hnew.out, Hgo.out];unfold vG;by_cases h : k = c.key
           . rw [if_pos h, if_pos h]; rfl
           . rw [if_neg h, if_neg h, if_neg h];exact HV.out k ((wD.1 hk).resolve_left h)
         . exact (HQ1.out.trans (HB2.out.mono HQ1.out.size)).trans (Ext.to_belowAt HX3.out (Nat.le_trans HQ1.out.size HB2.out.size) λ j hj e => by omega)
         . show n - ((i : Int) + 1).toNat < n - (i : Int).toNat;omega
    . have hd := decide_eq_false hkn;have ho := hold hkn;clear hold;by_cases hth : c.key ∈ zS T.ps
      . have hd2 := decide_eq_true hth;have hcu : (yY c.key (valP T.ps c.key)) = cur := by
         rw [ho];unfold curN;rw [valP_at]
         cases e : atP T.ps c.key with
         | none => exact absurd hth (qQ.1 e)
         | some v => rfl
        have hvl2 := HTx.out.val_len c.key;have HPB0 := zB (wV (.slice aa (u8s c.key).length ca) (q.V c.key) c.key (valP T.ps c.key) WR HK.out (HTx.out.val c.key) (by omega) (by omega));rw [hcu] at HPB0;rw [hd] at hlk1;rw [hd2] at hlk2;clear ho hcu
        go_wp2_with (simp only [HWR.out])
        refine HPB0.out.mono ?_;rintro e WQ ⟨rfl, hBQ⟩;have k0q := zG hBQ kk0;have k1q := zG hBQ kk1;have k2q := zG hBQ kk2;have HIq := zB (HIx.out.keep (hBQ.block _ HIx.out.lt));have HKq := zB (HK.out.below hBQ);have HVq := zB (HVV.out.below hBQ);have HBq := zB (hBx.trans (hBQ.mono hBx.size));clear hBQ hlk1 hlk2 kk0 kk1 kk2 HPB0;obtain ⟨W1, hr1, hm1, hX1⟩ := HIq.out.store (by have := Hnl.out; omega) c.key hkey (by omega) 0;have k01 : W1.cell? ⟨wr.heap.size, 0, none⟩ = some (.slice aa (u8s c.key).length ca) := hX1.cell_some k0q hbne;have k11 : W1.cell? ⟨wr.heap.size, 1, none⟩ = some (.slice ab (u8s c.value).length cb) := hX1.cell_some k1q hbne;have k21 : W1.cell? ⟨wr.heap.size, 2, none⟩ = some (.bool c.gone) := hX1.cell_some k2q hbne;have HM1 := zB hm1;have HX1 := zB hX1;have HQ1 := zB (HBq.out.trans (Ext.to_belowAt hX1 HBq.out.size λ j hj e => by omega));have hs01 : vG V c.key 0 c.key = 0 := by simp [vG]
        clear hm1 hX1;rcases Bool.eq_false_or_eq_true c.gone with hgo | hgo
        . rw [hgo] at k21 hch;have Hgo := zB hgo;clear hgo;simp only [if_true] at hch;have hl3 := HM1.out.look c.key hkey (by omega);rw [hs01] at hl3;have hfin : (zU psi : Int) - (cur : Int) = (zU ps' : Int) := by omega
          go_wp2_with (simp only [HWR.out])
          refine ⟨⟨i + 1, vG V c.key 0, by simp, by omega, ?_, ?_, ?_, HQ1.out⟩, ?_⟩
          . rw [HP.out.1]
            congr 1 <;> omega
          . rw [HP.out.2]; exact HM1.out
          . rw [HP.out.1, HP.out.2];intro k hk;rw [Hnew.out, Hgo.out];unfold vG;by_cases h : k = c.key
            . rw [if_pos h, if_pos h]; rfl
            . rw [if_neg h, if_neg h];exact HV.out k ((wD.1 hk).resolve_left h)
          . show n - ((i : Int) + 1).toNat < n - (i : Int).toNat;omega
        . rw [hgo] at k21 hch;have Hgo := zB hgo;clear hgo;simp only [Bool.false_eq_true, if_false] at hch;have hvl := hvl.resolve_left (by rw [Hgo.out]; decide);have hp := oC hkl hvl;have HPB := zB (wV (.slice aa (u8s c.key).length ca) (.slice ab (u8s c.value).length cb) c.key c.value W1 (xG HKq.out HX1.out λ j hj e => by have := hfa j hj; omega) (xG HVq.out HX1.out λ j hj e => by have := hfb j hj; omega) (by omega) (by omega))
          go_wp2_with (first | (simp only [HWR.out]) | (go_at_call 104; refine HPB.out.mono ?_; rintro e W2 ⟨rfl, hB2⟩; obtain ⟨W3, hr3, hm3, hX3⟩ := (HM1.out.keep (hB2.block _ HM1.out.lt)).store (by have := Hnl.out; have := qS ksi c.key; omega) c.key hkey (by omega) (yY c.key c.value : Int); have hl3 := hm3.look c.key hkey (by omega); rw [show vG (vG V c.key 0) c.key (yY c.key c.value : Int) c.key = (yY c.key c.value : Int) by simp [vG]] at hl3; have HM3 := zB hm3; have HX3 := zB hX3; have HB2 := zB hB2; clear hm3 hX3 hB2))
          refine ⟨⟨i + 1, vG (vG V c.key 0) c.key (yY c.key c.value : Int), by simp, by omega, ?_, ?_, ?_, ?_⟩, ?_⟩
          . rw [HP.out.1]
            congr 1 <;> omega
          . rw [HP.out.2];have := HM3.out
            rwa [show uK (uK ksi c.key) c.key = uK ksi c.key by rw [uK, if_pos (wD.2 (.inl rfl))]] at this
          . rw [HP.out.1, HP.out.2];intro k hk;rw [Hnew.out, Hgo.out];unfold vG;by_cases h : k = c.key
            . rw [if_pos h, if_pos h]; rfl
            . rw [if_neg h, if_neg h, if_neg h];exact HV.out k ((wD.1 hk).resolve_left h)
          . exact (HQ1.out.trans (HB2.out.mono HQ1.out.size)).trans (Ext.to_belowAt HX3.out (Nat.le_trans HQ1.out.size HB2.out.size) λ j hj e => by omega)
          . show n - ((i : Int) + 1).toNat < n - (i : Int).toNat;omega
      . have hd2 := decide_eq_false hth;have hcu : (0 : Int) = (cur : Int) := by
         rw [ho];unfold curN;rw [qQ.2 hth];rfl
        rw [hd, hV0 _ hkn, hcu] at hlk1;rw [hd2] at hlk2;have k0q := kk0;have k1q := kk1;have k2q := kk2;have HIq := HIx;have HKq := HK;have HVq := HVV;have HBq := zB hBx;clear hcu ho;obtain ⟨W1, hr1, hm1, hX1⟩ := HIq.out.store (by have := Hnl.out; omega) c.key hkey (by omega) 0;have k01 : W1.cell? ⟨wr.heap.size, 0, none⟩ = some (.slice aa (u8s c.key).length ca) := hX1.cell_some k0q hbne;have k11 : W1.cell? ⟨wr.heap.size, 1, none⟩ = some (.slice ab (u8s c.value).length cb) := hX1.cell_some k1q hbne;have k21 : W1.cell? ⟨wr.heap.size, 2, none⟩ = some (.bool c.gone) := hX1.cell_some k2q hbne;have HM1 := zB hm1;have HX1 := zB hX1;have HQ1 := zB (HBq.out.trans (Ext.to_belowAt hX1 HBq.out.size λ j hj e => by omega));have hs01 : vG V c.key 0 c.key = 0 := by simp [vG]
        clear hm1 hX1;rcases Bool.eq_false_or_eq_true c.gone with hgo | hgo
        . rw [hgo] at k21 hch;have Hgo := zB hgo;clear hgo;simp only [if_true] at hch;have hl3 := HM1.out.look c.key hkey (by omega);rw [hs01] at hl3;have hfin : (zU psi : Int) - (cur : Int) = (zU ps' : Int) := by omega
          go_wp2_with (simp only [HWR.out])
          refine ⟨⟨i + 1, vG V c.key 0, by simp, by omega, ?_, ?_, ?_, HQ1.out⟩, ?_⟩
          . rw [HP.out.1]
            congr 1 <;> omega
          . rw [HP.out.2]; exact HM1.out
          . rw [HP.out.1, HP.out.2];intro k hk;rw [Hnew.out, Hgo.out];unfold vG;by_cases h : k = c.key
            . rw [if_pos h, if_pos h]; rfl
            . rw [if_neg h, if_neg h];exact HV.out k ((wD.1 hk).resolve_left h)
          . show n - ((i : Int) + 1).toNat < n - (i : Int).toNat;omega
        . rw [hgo] at k21 hch;have Hgo := zB hgo;clear hgo;simp only [Bool.false_eq_true, if_false] at hch;have hvl := hvl.resolve_left (by rw [Hgo.out]; decide);have hp := oC hkl hvl;have HPB := zB (wV (.slice aa (u8s c.key).length ca) (.slice ab (u8s c.value).length cb) c.key c.value W1 (xG HKq.out HX1.out λ j hj e => by have := hfa j hj; omega) (xG HVq.out HX1.out λ j hj e => by have := hfb j hj; omega) (by omega) (by omega))
          go_wp2_with (first | (simp only [HWR.out]) | (go_at_call 104; refine HPB.out.mono ?_; rintro e W2 ⟨rfl, hB2⟩; obtain ⟨W3, hr3, hm3, hX3⟩ := (HM1.out.keep (hB2.block _ HM1.out.lt)).store (by have := Hnl.out; have := qS ksi c.key; omega) c.key hkey (by omega) (yY c.key c.value : Int); have hl3 := hm3.look c.key hkey (by omega); rw [show vG (vG V c.key 0) c.key (yY c.key c.value : Int) c.key = (yY c.key c.value : Int) by simp [vG]] at hl3; have HM3 := zB hm3; have HX3 := zB hX3; have HB2 := zB hB2; clear hm3 hX3 hB2))
          refine ⟨⟨i + 1, vG (vG V c.key 0) c.key (yY c.key c.value : Int), by simp, by omega, ?_, ?_, ?_, ?_⟩, ?_⟩
          . rw [HP.out.1]
            congr 1 <;> omega
          . rw [HP.out.2];have := HM3.out
            rwa [show uK (uK ksi c.key) c.key = uK ksi c.key by rw [uK, if_pos (wD.2 (.inl rfl))]] at this
          . rw [HP.out.1, HP.out.2];intro k hk;rw [Hnew.out, Hgo.out];unfold vG;by_cases h : k = c.key
            . rw [if_pos h, if_pos h]; rfl
            . rw [if_neg h, if_neg h, if_neg h];exact HV.out k ((wD.1 hk).resolve_left h)
          . exact (HQ1.out.trans (HB2.out.mono HQ1.out.size)).trans (Ext.to_belowAt HX3.out (Nat.le_trans HQ1.out.size HB2.out.size) λ j hj e => by omega)
          . show n - ((i : Int) + 1).toNat < n - (i : Int).toNat;omega
  . obtain rfl : i = n := by omega
    have hin' : ¬ (i : Int) < (i : Int) := by omega
    go_wp2_with fail
    go_ret
    rw [List.take_of_length_le (by rw [HN.out]; exact Nat.le_refl _)];exact ⟨rfl, hB⟩
structure TSys (w : World) (b : Bks) (x : Dsk) (N first size : Nat) (k : LBk) (L : LogS) (q : TBk) (T : TblS) : Prop where
 lsys : LSys w b x N first size k L
 tbl : sH w b.d k.l q T
 apart : ∀ j, q.all j -> ¬ b.all j /\ ¬ k.all j
 far : ∀ j, q.all j -> 10 <= j
def allB (b : Bks) (k : LBk) (q : TBk) (j : Nat) : Prop := (b.all j \/ k.all j) \/ q.all j
section
variable {w w' w1 w2 : World} {b : Bks} {x x' : Dsk} {N N' first size : Nat} {k : LBk} {L L' : LogS} {q : TBk} {T T' : TblS}
theorem TSys.lt (h : TSys w b x N first size k L q T) : ∀ j, allB b k q j -> j < w.heap.size := λ j hj => hj.elim (h.lsys.lt j) (h.tbl.lt j)
theorem TSys.below (h : TSys w b x N first size k L q T) (hb : Below w.heap.size w w') : TSys w' b x N first size k L q T := ⟨h.lsys.below hb, h.tbl.below hb, h.apart, h.far⟩
theorem TSys.ext {S : Nat -> Prop} (h : TSys w b x N first size k L q T) (hX : Ext S w w') (hS : ∀ j, S j -> 10 <= j /\ ¬ allB b k q j) : TSys w' b x N first size k L q T :=
 ⟨h.lsys.ext hX λ j hj => ⟨(hS j hj).1, λ e => (hS j hj).2 (.inl (.inl e)), λ e => (hS j hj).2 (.inl (.inr e))⟩, h.tbl.ext hX λ j hj e => (hS j e).2 (.inr hj), h.apart, h.far⟩
theorem TSys.mono {M : Nat} (h : TSys w b x N first size k L q T) (hm : N <= M) : TSys w b x M first size k L q T := ⟨h.lsys.mono hm, h.tbl, h.apart, h.far⟩
def xF (w : World) (b : Bks) (k : LBk) (q : TBk) (x' : Dsk) (N' first size : Nat) (L' : LogS) (T' : TblS) (w' : World) : Prop :=
 ∃ (b' : Bks) (k' : LBk) (q' : TBk), b'.d = b.d /\ k'.l = k.l /\ q'.t = q.t /\ (∀ j, allB b' k' q' j -> allB b k q j \/ w.heap.size <= j) /\ Ext (allB b k q) w w' /\ TSys w' b' x' N' first size k' L' q' T'
theorem xF.trans {b1 : Bks} {k1 : LBk} {q1 : TBk} (hd : b1.d = b.d) (hl : k1.l = k.l) (ht : q1.t = q.t) (ha : ∀ j, allB b1 k1 q1 j -> allB b k q j \/ w.heap.size <= j) (hX : Ext (allB b k q) w w1) (h2 : xF w1 b1 k1 q1 x' N' first size L' T' w2) : xF w b k q x' N' first size L' T' w2 := by
 obtain ⟨b2, k2, q2, d2, l2, t2, a2, X2, S2⟩ := h2;refine ⟨b2, k2, q2, d2.trans hd, l2.trans hl, t2.trans ht, λ j hj => ?_, hX.trans X2 λ j hj h => ?_, S2⟩
 . rcases a2 j hj with h | h
   . exact ha j h
   . exact .inr (Nat.le_trans hX.size h)
 . rcases ha j h with h | h
   . exact h
   . omega
theorem xF.of_below (hb : Below w.heap.size w w1) (h2 : xF w1 b k q x' N' first size L' T' w2) : xF w b k q x' N' first size L' T' w2 :=
 .trans rfl rfl rfl (λ j h => .inl h) (Ext.of_below hb) h2
theorem xF.same (h : TSys w b x N first size k L q T) (hb : Below w.heap.size w w') : xF w b k q x N first size L T w' := ⟨b, k, q, rfl, rfl, rfl, λ j h => .inl h, Ext.of_below hb, h.below hb⟩
theorem xF.mono {M : Nat} (h : xF w b k q x' N' first size L' T' w') (hm : N' <= M) : xF w b k q x' M first size L' T' w' := by
 obtain ⟨b2, k2, q2, d2, l2, t2, a2, X2, S2⟩ := h;exact ⟨b2, k2, q2, d2, l2, t2, a2, X2, S2.mono hm⟩
theorem xF.then {x1 x2 : Dsk} {N1 N2 : Nat} {L1 L2 : LogS} {T1 T2 : TblS} (h1 : xF w b k q x1 N1 first size L1 T1 w1) (h2 : ∀ b1 k1 q1, b1.d = b.d -> k1.l = k.l -> q1.t = q.t -> TSys w1 b1 x1 N1 first size k1 L1 q1 T1 -> xF w1 b1 k1 q1 x2 N2 first size L2 T2 w2) : xF w b k q x2 N2 first size L2 T2 w2 := by
 obtain ⟨b1, k1, q1, d1, l1, t1, a1, X1, S1⟩ := h1;exact .trans d1 l1 t1 a1 X1 (h2 b1 k1 q1 d1 l1 t1 S1)
theorem TSys.logged (h : TSys w b x N first size k L q T) (hP : tU w b k x' N' first size L' w') : xF w b k q x' N' first size L' T w' := by
 obtain ⟨b', k', hd, hl, ha, hX, hS⟩ := hP;have hlt := h.tbl.lt;have hno : ∀ j, q.all j -> ¬ (b'.all j \/ k'.all j) := λ j hj e => (ha j e).elim (λ e => e.elim (h.apart j hj).1 (h.apart j hj).2) λ e => by have := hlt j hj; omega
 refine ⟨b', k', q, hd, hl, rfl, λ j hj => ?_, hX.mono λ j _ e => .inl e, hS, ?_, λ j hj => ⟨λ e => hno j hj (.inl e), λ e => hno j hj (.inr e)⟩, h.far⟩
 . rcases hj with hj | hj
   . exact (ha j hj).imp .inl id
   . exact .inl (.inr hj)
 . rw [hd, hl];exact h.tbl.ext hX λ j hj e => e.elim (h.apart j hj).1 (h.apart j hj).2
theorem TSys.tabled (h : TSys w b x N first size k L q T) (hP : vX w b.d k.l q T' (zS T'.ps) w') : xF w b k q x N first size L T' w' := by
 obtain ⟨q', ht, hm, ha, hX, hS⟩ := hP;have hlt := h.lsys.lt;have h10 := h.lsys.sys.pkg.lt;have hno : ∀ j, q'.all j -> ¬ (b.all j \/ k.all j) := λ j hj e => (ha j hj).elim (λ e2 => e.elim (h.apart j e2).1 (h.apart j e2).2) λ e2 => by have := hlt j e; omega
 refine ⟨b, k, q', rfl, rfl, ht, λ j hj => ?_, hX.mono λ j _ e => .inr e, ?_, hS, λ j hj => ⟨λ e => hno j hj (.inl e), λ e => hno j hj (.inr e)⟩, λ j hj => ?_⟩
 . rcases hj with hj | hj
   . exact .inl (.inl hj)
   . exact (ha j hj).imp .inr id
 . exact h.lsys.ext hX λ j hj => ⟨h.far j hj, (h.apart j hj).1, (h.apart j hj).2⟩
 . rcases ha j hj with e | e
   . exact h.far j e
   . omega
theorem TSys.headed (h : TSys w b x N first size k L q T) (j : Nat) (u : Value) (T' : TblS) (hps : T'.ps = T.ps) (hc : (uW b.d k.l q T).setIfInBounds j u = uW b.d k.l q T') : xF w b k q x N first size L T' (w.setCell ⟨q.t, j, none⟩ u) :=
 h.tabled (by rw [hps]; exact h.tbl.head_post j u T' hps hc)
end
def TblS.state (T : TblS) (off : Bool) : TblS := if T.fallen = 0 /\ off = true then { T with fallen := 5 } else T
theorem state_any (b : Bks) (x : Dsk) (N first size : Nat) (k : LBk) (L : LogS) (q : TBk) (T : TblS) (w : World) (h : TSys w b x N first size k L q T) :
 Calls Tryz.prog 58 #[.pointer (some ⟨q.t, 0, none⟩)] w λ e w' => e = .returned (.int .i64 (T.state x.off).fallen) /\ xF w b k q x N first size L (T.state x.off) w' := by
 have HT := zB h;obtain ⟨c0, -, -, -, -, -, -, c7, cf⟩ := h.tbl.cs;have HD := zB (kK b x w h.lsys.sys.dsk.head);clear h;by_cases hf : T.fallen = 0
 . rw [hf] at c7
   cases ho : x.off with
   | true =>
    have hst : T.state true = { T with fallen := 5 } := by unfold TblS.state; rw [if_pos ⟨hf, rfl⟩]
    have Hf := zB hf;rw [hst];rw [ho] at HD;clear hf hst;go_enter Tryz.func58, Tryz.ntmps58
    go_wp2_with fail
    refine HD.out.mono ?_;rintro e w' ⟨rfl, rfl⟩
    go_wp2_with fail
    go_ret
    exact ⟨rfl, HT.out.headed 7 (.int .i64 5) { T with fallen := 5 } rfl rfl⟩
   | false =>
    have hst : T.state false = T := by unfold TblS.state; rw [if_neg (by simp)]
    have Hf := zB hf;rw [hst];rw [ho] at HD;clear hf hst;go_enter Tryz.func58, Tryz.ntmps58
    go_wp2_with fail
    refine HD.out.mono ?_;rintro e w' ⟨rfl, rfl⟩
    go_wp2_with fail
    go_ret
    rw [Hf.out];exact ⟨rfl, xF.same HT.out (Below.refl _ _)⟩
 . have hst : T.state x.off = T := by unfold TblS.state; rw [if_neg (λ h => hf h.1)]
   have hne : (T.fallen == 0) = false := by rw [beq_eq_false_iff_ne]; exact hf
   rw [hst];clear hst;go_enter Tryz.func58, Tryz.ntmps58
   go_wp2_with fail
   go_ret
   exact ⟨rfl, xF.same HT.out (Below.refl _ _)⟩
end Go.Proofs.YtbjofbhhnmehgaaGreatDoor.TT
namespace Go.RG
open Go.RowKit
section
variable (P : Program) (ops : Array Oper) (CB : World -> Prop) (lt : Nat -> Option Spec)
def rP (i : Nat) (o : Oper) (K : Act -> World -> Prop) (a : Act) (w : World) : Prop :=
 match lt i with
 | none => ∃ v, YB P ops CB o a v /\ K (a.put o.dst v) w
 | some R => Region.wanted o (yielded ops a.tmps) = true /\ yE P o a w (λ v w' => CB w' /\ R v w') /\ ∀ v w', CB w' -> R v w' -> K (a.put o.dst v) w'
def rqAny (md : Region.Mode) (n : Nat) (L : Array Bool -> Act -> World -> Prop) : Nat -> Array Bool -> Act -> World -> Prop
 | 0, listed, a, w => L listed a w
 | f + 1, listed, a, w =>
  Region.ready md ops listed ≠ [] /\ ∀ i ∈ Region.ready md ops listed, i < n /\ ∃ o, ops[i]? = some o /\
   rP P ops CB lt i o (rqAny md n L f (listed.setIfInBounds i true)) a w
def kY (Q : Act -> World -> Prop) : List Oper -> Nat -> Act -> World -> Prop
 | [], _, a, w => Q a w
 | o :: rest, k, a, w => rP P ops CB lt k o (kY Q rest (k + 1)) a w
end
section
variable {P : Program} {ops : Array Oper} {CB : World -> Prop} {lt : Nat -> Option Spec} {md : Region.Mode} {n : Nat}
structure QSides (md : Region.Mode) (ops : Array Oper) (lt : Nat -> Option Spec) (n : Nat) : Prop where
 sel : ∀ (j : Nat) (o : Oper) cs b, ops[j]? = some o -> o.op ≠ .select cs b
 head : ∀ i, i < n -> ∀ listed, HeadInv md ops n listed -> listed.getD i true = false -> ∀ j ∈ Region.ready md ops listed, j < n
 one : ∀ i j, i < n -> j < n -> i ≠ j -> (lt i).isSome = true -> (lt j).isSome = true -> ∀ listed, HeadInv md ops n listed -> i ∈ Region.ready md ops listed -> j ∉ Region.ready md ops listed
theorem iZ {g : Nat} {L : Array Bool -> Act -> World -> Prop} {Q : Exit -> Act -> World -> Prop}
 (hL : ∀ listed a w, L listed a w -> wpAny P md ops Q g listed a w) :
 ∀ (f : Nat) (listed : Array Bool) (a : Act) (w : World), HeadInv md ops n listed -> CB w -> rqAny P ops CB lt md n L f listed a w -> wpAny P md ops Q (f + g) listed a w
 | 0, listed, a, w, _, _, h => by rw [Nat.zero_add]; exact hL _ _ _ h
 | f + 1, listed, a, w, inv, hcb, h => by
  rw [show f + 1 + g = (f + g) + 1 by omega];refine ⟨λ h0 => absurd h0 h.1, λ i hi => ?_⟩;obtain ⟨hin, o, ho, hs⟩ := h.2 i hi;have hgo := λ a' w' => iZ hL f (listed.setIfInBounds i true) a' w' (inv.set hi hin);unfold wpOp;simp only [ho];unfold rP at hs
  split at hs
  . obtain ⟨v, hy, hK⟩ := hs;have hnext := hgo _ _ hcb hK;rcases hy with ⟨hw, hr⟩ | ⟨hw, rfl⟩
    . rw [if_pos hw];refine .inl ?_;unfold Oper.wp;rw [hr w hcb];exact hnext
    . rw [if_neg (by simp [hw])];exact hnext
  . obtain ⟨hw, hm, hK⟩ := hs;rw [if_pos hw];exact .inl (tB hm λ v w' ⟨hb, hS⟩ => hgo _ _ hb (hK v w' hb hS))
theorem rq_first {i : Nat} {oi : Oper} {L : Array Bool -> Act -> World -> Prop} (sd : QSides md ops lt n) (hi : ops[i]? = some oi) (hin : i < n)
 (hdone : ∀ listed a w, L listed a w -> ∀ j ∈ Region.ready md ops listed, n <= j) :
 ∀ (f : Nat) (listed : Array Bool) (a : Act) (w : World), HeadInv md ops n listed ->
  (∀ j oj, ops[j]? = some oj -> j ≠ i -> listed.getD j true = false -> (∀ e ∈ oj.after, Region.binds md e = true -> e.on ≠ i) -> oi.apart ops oj = true) ->
  i ∈ Region.ready md ops listed -> CB w ->
  rP P ops CB lt i oi (rqAny P ops CB lt md n L f (listed.setIfInBounds i true)) a w -> rqAny P ops CB lt md n L (f + 1) listed a w := by
 have ex : ∀ (K : Act -> World -> Prop) (a : Act) (w : World), CB w -> rP P ops CB lt i oi K a w -> ∃ a' w', CB w' /\ K a' w' := by
  intro K a w hcb H;unfold rP at H
  split at H
  . obtain ⟨v, _, h⟩ := H; exact ⟨_, _, hcb, h⟩
  . obtain ⟨_, hm, hK⟩ := H;obtain ⟨v, w', hb, hS⟩ := vS hm;exact ⟨_, _, hb, hK v w' hb hS⟩
 intro f
 induction f with
 | zero =>
  intro listed a w inv _ hr hcb H;have hun := (mem_ready.1 hr).1;refine ⟨λ h => (by rw [h] at hr; cases hr), λ j hj => ?_⟩;have hjn : j < n := sd.head i hin listed inv hun j hj;refine ⟨hjn, ?_⟩;by_cases hji : j = i
  . subst hji; exact ⟨oi, hi, H⟩
  . exfalso
    obtain ⟨a', w', _, hL⟩ := ex _ a w hcb H;have := hdone _ _ _ hL j (ready_mono hj hji);omega
 | succ f ih =>
  intro listed a w inv hfree hr hcb H;have hun := (mem_ready.1 hr).1;refine ⟨λ h => (by rw [h] at hr; cases hr), λ j hj => ?_⟩;have hjn : j < n := sd.head i hin listed inv hun j hj;refine ⟨hjn, ?_⟩;by_cases hji : j = i
  . subst hji; exact ⟨oi, hi, H⟩
  obtain ⟨hjun, oj, hoj, hall⟩ := mem_ready.1 hj;refine ⟨oj, hoj, ?_⟩;have hnot : ∀ e ∈ oj.after, Region.binds md e = true -> e.on ≠ i := λ e he hb heq => by
   have h1 := hall e he hb;rw [heq, getD_both hun] at h1
   cases h1
  obtain ⟨ap1, ap2, ap3⟩ := Oper.apart_spec (hfree j oj hoj hji hjun hnot);have hsi := λ cs b => sd.sel i oi cs b hi;have hsj := λ cs b => sd.sel j oj cs b hoj;have hfree' : ∀ k ok, ops[k]? = some ok -> k ≠ i -> (listed.setIfInBounds j true).getD k true = false ->
   (∀ e ∈ ok.after, Region.binds md e = true -> e.on ≠ i) -> oi.apart ops ok = true := λ k ok hk hki hun hno => by
   refine hfree k ok hk hki ?_ hno;by_cases hjk : j = k
   . subst hjk; exact hjun
   . rw [getD_set_ne true hjk] at hun; exact hun
  have inv' := inv.set hj hjn;have IH := λ a' w' => ih (listed.setIfInBounds j true) a' w' inv' hfree' (ready_mono hr (Ne.symm hji));have hjr := ready_mono hj hji;have hcomm : (listed.setIfInBounds j true).setIfInBounds i true = (listed.setIfInBounds i true).setIfInBounds j true := Array.setIfInBounds_comm _ _ hji
  cases hki : lt i with
  | none =>
   unfold rP at H;rw [hki] at H;obtain ⟨v, hy, hK⟩ := H;obtain ⟨oj', hoj', hj1⟩ := (hK.2 j hjr).2;obtain rfl : oj' = oj := Option.some.inj (hoj'.symm.trans hoj);have back : ∀ (u : Value) (w' : World), rqAny P ops CB lt md n L f ((listed.setIfInBounds i true).setIfInBounds j true) ((a.put oi.dst v).put oj'.dst u) w' ->
    rP P ops CB lt i oi (rqAny P ops CB lt md n L f ((listed.setIfInBounds j true).setIfInBounds i true)) (a.put oj'.dst u) w' := by
    intro u w' h;unfold rP;rw [hki];refine ⟨v, (rD hsi ap3).2 hy, ?_⟩;rw [hcomm, <- Act.put_comm a v u ap2]; exact h
   cases hkj : lt j with
   | none =>
    unfold rP at hj1 ⊢;rw [hkj] at hj1 ⊢;obtain ⟨u, hyj, hKj⟩ := hj1;exact ⟨u, (rD hsj ap1).1 hyj, IH _ _ hcb (back u w hKj)⟩
   | some R =>
    unfold rP at hj1 ⊢;rw [hkj] at hj1 ⊢;obtain ⟨hw, hm, hKj⟩ := hj1;exact ⟨by rw [wanted_put oj' a oi.dst v ap1] at hw; exact hw, (kE hsj ap1).1 hm, λ u w' hb hT => IH _ _ hb (back u w' (hKj u w' hb hT))⟩
  | some R =>
   have hkj : lt j = none := by
    cases h : lt j with
    | none => rfl
    | some R' => exact absurd hj (sd.one i j hin hjn (Ne.symm hji) (by rw [hki]; rfl) (by rw [h]; rfl) listed inv hr)
   unfold rP at H;rw [hki] at H;obtain ⟨hw, hm, hK⟩ := H;obtain ⟨v0, w0, hb0, hS0⟩ := vS hm;obtain ⟨oj', hoj', hj1⟩ := ((hK v0 w0 hb0 hS0).2 j hjr).2;obtain rfl : oj' = oj := Option.some.inj (hoj'.symm.trans hoj);unfold rP at hj1 ⊢;rw [hkj] at hj1 ⊢;obtain ⟨u, hyj, -⟩ := hj1;have hyj' := (rD hsj ap1).1 hyj;refine ⟨u, hyj', IH _ _ hcb ?_⟩;unfold rP;rw [hki];refine ⟨by rw [wanted_put oi a oj'.dst u ap3]; exact hw, (kE hsi ap3).2 hm, λ v w' hb hS => ?_⟩;obtain ⟨oj2, hoj2, hj2⟩ := ((hK v w' hb hS).2 j hjr).2;obtain rfl : oj2 = oj' := Option.some.inj (hoj2.symm.trans hoj);unfold rP at hj2;rw [hkj] at hj2;obtain ⟨u', hyu, hKu⟩ := hj2;have e : u' = u := fE hb ((rD hsj ap1).1 hyu) hyj';subst e;rw [hcomm, <- Act.put_comm a v u' ap2];exact hKu
theorem rq_lex {g : Nat} {Lq : Act -> World -> Prop} (sd : QSides md ops lt n) (L : Array Bool -> Act -> World -> Prop)
 (hdone : ∀ listed a w, L listed a w -> ∀ j ∈ Region.ready md ops listed, n <= j)
 (hend : ∀ listed a w, Region.seqB md ops g n listed = true -> Lq a w -> L listed a w) :
 ∀ (ls : List Oper) (k : Nat) (listed : Array Bool) (a : Act) (w : World), (∀ j, j < ls.length -> ls[j]? = ops[k + j]?) -> k + ls.length = n -> HeadInv md ops n listed ->
 Region.lexHead md ops g ls.length k listed = true -> CB w -> kY P ops CB lt Lq ls k a w -> rqAny P ops CB lt md n L ls.length listed a w
 | [], k, listed, a, w, _, hk, _, hB, _, h => by
  have : k = n := by simpa using hk
  subst this;exact hend _ _ _ (by simpa [Region.lexHead] using hB) h
 | o :: ls, k, listed, a, w, hl, hk, inv, hB, hcb, h => by
  have h0 : ops[k]? = some o := by simpa using (hl 0 (by simp)).symm
  simp only [List.length_cons, Region.lexHead, Bool.and_eq_true] at hB;obtain ⟨⟨hr, hf⟩, hB'⟩ := hB;have hkn : k < n := by simp only [List.length_cons] at hk; omega
  have hr' : k ∈ Region.ready md ops listed := by simpa using hr
  have hgo := λ a' w' => rq_lex sd L hdone hend ls (k + 1) (listed.setIfInBounds k true) a' w' (λ j hj => by have := hl (j + 1) (by simp; omega); simpa [Nat.add_assoc, Nat.add_comm 1 j] using this)
   (by simp only [List.length_cons] at hk; omega) (inv.set hr' hkn) hB'
  have h' : rP P ops CB lt k o (kY P ops CB lt Lq ls (k + 1)) a w := h;refine rq_first sd h0 hkn hdone ls.length listed a w inv (Region.free_spec h0 hf) hr' hcb ?_;unfold rP at h' ⊢
  split at h'
  . obtain ⟨v, h1, h2⟩ := h';exact ⟨v, h1, hgo _ _ hcb h2⟩
  . exact ⟨h'.1, h'.2.1, λ v w' hb hS => hgo _ _ hb (h'.2.2 v w' hb hS)⟩
end
section
variable {P : Program} {id : Nat} {Q : Exit -> Act -> World -> Prop} {a : Act} {w : World} {ls : List Oper}
def seqLateB (ops : Array Oper) (lates : List Nat) (n : Nat) : Bool :=
 Region.lexTailB .any ops n && lates.all λ i => lates.all λ j => i == j || pI ops .any j ops.size i || pI ops .any i ops.size j
def latesOf (lates : List Nat) (R : Nat -> Spec) (i : Nat) : Option Spec := if lates.contains i then some (R i) else none
theorem fY (n : Nat) (lates : List Nat) (CB : World -> Prop) (R : Nat -> Spec) (hm : P.follows .mixedOrders = true) (hB : seqLateB ls.toArray lates n = true)
 (h : ∀ b, Below w.heap.size w b -> b.heap = w.heap -> CB b /\ kY P ls.toArray CB (latesOf lates R) (λ a' w' => wpList P ls.toArray Q (ls.drop n) a' w') (ls.take n) 0 a b) :
 (Code.region id ls.toArray true).wp P Q a w := by
 simp only [seqLateB, Bool.and_eq_true] at hB;obtain ⟨hB1, hone⟩ := hB;simp only [Region.lexTailB, Bool.and_eq_true, decide_eq_true_eq] at hB1;obtain ⟨⟨⟨⟨hsel, hn⟩, hs⟩, hc⟩, hlex⟩ := hB1;have htl : (ls.take n).length = n := by simp at hn; simp; omega
 have hdl : (ls.drop n).length = ls.toArray.size - n := by simp
 have inv0 : HeadInv .any ls.toArray n (Array.replicate ls.toArray.size false) :=
  ⟨by simp, λ j oj _ hl => (by rw [getD_replicate_false] at hl; cases hl), λ t _ ht => getD_in (by simpa using ht) (getD_replicate_false _ _)⟩
 have sd : QSides .any ls.toArray (latesOf lates R) n := by
  refine ⟨Region.noSelect_spec hsel, λ i hin listed inv hun j hj => ?_, λ i j hin hjn hij hi hj listed inv hr hr2 => ?_⟩
  . rcases Nat.lt_or_ge j n with h | h
    . exact h
    . exact absurd hj (tail_waits hs hc hn inv _ i rfl hin hun j h)
  . have h1 : lates.contains i = true := by
     unfold latesOf at hi
     split at hi
     . assumption
     . cases hi
    have h2 : lates.contains j = true := by
     unfold latesOf at hj
     split at hj
     . assumption
     . cases hj
    have := List.all_eq_true.1 (List.all_eq_true.1 hone i (by simpa using h1)) j (by simpa using h2);simp only [Bool.or_eq_true, beq_iff_eq] at this;rcases this with (h3 | h3) | h3
    . exact hij h3
    . exact (wU inv _ i h3 (hQ (mem_ready.1 hr).1)).2 hr2
    . exact (wU inv _ j h3 (hQ (mem_ready.1 hr2).1)).2 hr
 have hw0 : Below w.heap.size w { w with drawn := w.drawn + 1 } := (Below.refl _ w).drew;obtain ⟨hcb, hlx⟩ := h { w with drawn := w.drawn + 1 } hw0 rfl;have H := rq_lex (md := .any) (g := ls.toArray.size - n) (Lq := λ a' w' => wpList P ls.toArray Q (ls.drop n) a' w') sd
  (λ listed' a' w' => Region.seqB .any ls.toArray (ls.toArray.size - n) n listed' = true /\ wpList P ls.toArray Q (ls.drop n) a' w')
  (λ listed a w hL => seqB_ready hL.1) (λ _ _ _ h1 h2 => ⟨h1, h2⟩)
  (ls.take n) 0 _ a { w with drawn := w.drawn + 1 } (λ j hj => by
   have hj' : j < n := by rw [htl] at hj; exact hj
   simp [hj']) (by simpa using htl) inv0 (by rw [htl]; exact hlex) hcb hlx
 refine wp_region_any hm ?_;have := iZ (Q := Q) (g := ls.toArray.size - n) (CB := CB) (λ listed a' w' hL => by
  have := wpAny_of_seq (md := .any) (Q' := Q) (ls.drop n) n listed a' w' (λ j => by simp [List.getElem?_drop]) (by rw [hdl]; exact hL.1) hL.2
  rwa [hdl] at this) _ _ _ _ inv0 hcb H
 rw [htl, show n + (ls.toArray.size - n) = ls.toArray.size by simp at hn; simp; omega] at this;exact this
variable {ops : Array Oper} {q : Act -> World -> Prop} {o : Oper} {rest : List Oper} {k : Nat} {CB : World -> Prop} {lt : Nat -> Option Spec}
theorem rq_nil (h : q a w) : kY P ops CB lt q [] k a w := h
theorem rq_big (v : Value) (hs : lt k = none) (hw : Region.wanted o (yielded ops a.tmps) = true) (h : ∀ w1, CB w1 -> (execOp a.eval o).run P w1 = .ok (.value v) w1)
 (hn : kY P ops CB lt q rest (k + 1) (a.put o.dst v) w) : kY P ops CB lt q (o :: rest) k a w := by
 show rP _ _ _ _ _ _ _ _ _;unfold rP;rw [hs];exact ⟨v, .inl ⟨hw, h⟩, hn⟩
theorem eE (hs : lt k = none) (hw : Region.wanted o (yielded ops a.tmps) = false)
 (hn : kY P ops CB lt q rest (k + 1) (a.put o.dst undef) w) : kY P ops CB lt q (o :: rest) k a w := by
 show rP _ _ _ _ _ _ _ _ _;unfold rP;rw [hs];exact ⟨undef, .inr ⟨hw, rfl⟩, hn⟩
theorem eF (x : Operand) (ho : o.op = .move x \/ o.op = .assign x) (hs : lt k = none) (hw : Region.wanted o (yielded ops a.tmps) = true)
 (hn : kY P ops CB lt q rest (k + 1) (a.put o.dst (a.eval x)) w) : kY P ops CB lt q (o :: rest) k a w :=
 rq_big (a.eval x) hs hw (λ w1 _ => by rcases ho with h | h <;> simp [execOp, h]) hn
theorem eB (R : Spec) (hs : lt k = some R) (hw : Region.wanted o (yielded ops a.tmps) = true) (h : yE P o a w λ v w' => CB w' /\ R v w')
 (hn : ∀ v w', CB w' -> R v w' -> kY P ops CB lt q rest (k + 1) (a.put o.dst v) w') : kY P ops CB lt q (o :: rest) k a w := by
 show rP _ _ _ _ _ _ _ _ _;unfold rP;rw [hs];exact ⟨hw, h, hn⟩
end
end Go.RG
namespace Go.Proofs.YtbjofbhhnmehgaaGreatDoor.TT
open Go.RowKit Go.RG Go.Hp Go.Proofs.YtbjofbhhnmehgaaGreatDoor
def ckUp (x : Dsk) (first size : Nat) (L : LogS) (bs : List Int) (h : Nat) : Nat -> Dsk × LogS × Int
 | 0 => (x, L, 0)
 | j + 1 =>
  if (ckUp x first size L bs h j).2.2 ≠ 0 then ckUp x first size L bs h j else
  ((yH (ckUp x first size L bs h j).1 first size (ckUp x first size L bs h j).2.1 (yO bs (h + j))).1, (yH (ckUp x first size L bs h j).1 first size (ckUp x first size L bs h j).2.1 (yO bs (h + j))).2.1, (yH (ckUp x first size L bs h j).1 first size (ckUp x first size L bs h j).2.1 (yO bs (h + j))).2.2.2)
theorem ckUp_stuck {x : Dsk} {first size : Nat} {L : LogS} {bs : List Int} {h j : Nat} (hj : (ckUp x first size L bs h j).2.2 ≠ 0) : ∀ m, ckUp x first size L bs h (j + m) = ckUp x first size L bs h j
 | 0 => rfl
 | m + 1 => by
  rw [<- Nat.add_assoc];show (if (ckUp x first size L bs h (j + m)).2.2 ≠ 0 then _ else _) = _;rw [ckUp_stuck hj m, if_pos hj]
def ckAll (x : Dsk) (first size : Nat) (L : LogS) (T : TblS) (h : Nat) : Dsk × LogS × Int := ckUp x first size L (wI T.ps) h (yF (zU T.ps) - h)
def rG (x : Dsk) (first size : Nat) (L : LogS) (T : TblS) (h n : Nat) : Dsk × LogS × TblS × Int :=
 let p := ckAll x first size L T h
 if p.2.2 ≠ 0 then (p.1, p.2.1, T, p.2.2) else
 let f := wL p.1 p.2.1
 if f.2.2 ≠ 0 then (f.1, f.2.1, T, f.2.2) else
 let t := oK f.1 first size f.2.1 n
 (t.1, t.2.1, { T with pending := 0 }, t.2.2)
theorem qO {bs : List Int} (hb : zO bs) (hl : bs.length < 18446744073709551616) : zO (lenB bs) := (qN _ hl).append hb
theorem jU {ps : List Pr} (h : ∀ p ∈ ps, zO p.1 /\ zO p.2 /\ p.1.length <= 64 /\ p.2.length <= 1024) : zO (wI ps) := by
 intro b hb;obtain ⟨p, hp, hb⟩ := List.mem_flatMap.1 hb;obtain ⟨h1, h2, h3, h4⟩ := h p hp;exact ((qO h1 (by omega)).append (qO h2 (by omega))) b hb
theorem ckUp_ok {x : Dsk} {first size : Nat} {L : LogS} {bs : List Int} {h : Nat} (ho : L.ok size) (hs : size <= 65536) (hl : bs.length <= 1073741824) (hh : h <= 1000000) : ∀ j, j <= 1000000 -> (ckUp x first size L bs h j).2.1.ok size
 | 0, _ => ho
 | j + 1, hj => by
  have ih := ckUp_ok (x := x) (first := first) (bs := bs) (h := h) ho hs hl hh j (by omega);unfold ckUp
  split
  . exact ih
  . have := tO bs (h + j) (by omega) hl;exact appendR_ok ih hs (by omega)
theorem xF.log_cell {w w' : World} {b : Bks} {x' : Dsk} {N' first size : Nat} {k : LBk} {L' : LogS} {q : TBk} {T' : TblS} (h : xF w b k q x' N' first size L' T' w') : w'.cell? ⟨q.t, 1, none⟩ = some (.pointer (some ⟨k.l, 0, none⟩)) := by
 obtain ⟨b2, k2, q2, d2, l2, t2, a2, X2, S2⟩ := h;have := S2.tbl.cs.2.1
 rwa [t2, l2] at this
theorem mD (b : Bks) (x : Dsk) (N first size : Nat) (k : LBk) (L : LogS) (q : TBk) (T : TblS) (h n : Nat) (w : World) (hS : TSys w b x N first size k L q T) (hlive : T.live = zU T.ps) (hsum : zU T.ps <= 1073741824)
 (ho : L.ok size) (hN : N <= 1090000000000) (hh : h <= yF (zU T.ps)) (hn : n <= 9223372036854775807) :
 Calls Tryz.prog 52 #[.pointer (some ⟨q.t, 0, none⟩), .int .i64 h, .int .u64 n] w λ e w' => e = .returned (.int .i64 (rG x first size L T h n).2.2.2) /\ xF w b k q (rG x first size L T h n).1 (N + 79 * (yF (zU T.ps)) + 1) first size (rG x first size L T h n).2.1 (rG x first size L T h n).2.2.1 w' := by
 have HS0 := zB hS;have Ho := zB ho;have hle := hS.lsys.le;have HX := zB (text_any b.d k.l q T w hS.tbl hlive hsum);have hpl := wJ (zU T.ps);have hbl := xA T.ps;have hbb := jU hS.tbl.good;have hat : ∀ i, i < yF (zU T.ps) -> i * 8112 <= (wI T.ps).length := λ i hi => by rw [hbl]; exact lZ hi
 have hlt0 := hS.lt;have Hck := zB (show ckAll x first size L T h = ckUp x first size L (wI T.ps) h (yF (zU T.ps) - h) from rfl);have HR := zB (show ∀ p, ckAll x first size L T h = p -> rG x first size L T h n = (if p.2.2 ≠ 0 then (p.1, p.2.1, T, p.2.2) else if (wL p.1 p.2.1).2.2 ≠ 0 then ((wL p.1 p.2.1).1, (wL p.1 p.2.1).2.1, T, (wL p.1 p.2.1).2.2) else ((oK (wL p.1 p.2.1).1 first size (wL p.1 p.2.1).2.1 n).1, (oK (wL p.1 p.2.1).1 first size (wL p.1 p.2.1).2.1 n).2.1, { T with pending := 0 }, (oK (wL p.1 p.2.1).1 first size (wL p.1 p.2.1).2.1 n).2.2)) from λ p hp => by unfold rG; rw [hp]);have HP := zB λ w' => oU (zU T.ps) (by omega) w';obtain ⟨K, hK⟩ : ∃ K, yF (zU T.ps) = K := ⟨_, rfl⟩;rw [hK] at hpl hat Hck HP hh;rw [hK];obtain ⟨bs, hbs⟩ : ∃ bs, wI T.ps = bs := ⟨_, rfl⟩;rw [hbs] at hbl HX hbb hat Hck;have hbs2 : bs.length <= 1073741824 := by omega
 have Hok := zB (ckUp_ok (x := x) (first := first) (bs := bs) (h := h) ho (by omega) hbs2 (by omega));have Hat := zB hat;have Hbl := zB hbl;have Hbb := zB hbb;clear hS ho hat hbl hbb hbs hK;go_enter Tryz.func52, Tryz.ntmps52
 go_wp2_with fail
 refine HX.out.mono ?_;rintro e w1 ⟨tv, rfl, hown, hB1⟩;obtain ⟨ta, tc, rfl, -⟩ := zP hown;have htv : ∀ i, (Value.slice ta bs.length tc).ownBlock = some i -> w.heap.size <= i := λ i hi => (hown.lt i hi).1;have Hown := zB hown;clear hown HX
 go_wp2_with fail
 go_loopw [8] (λ vi wr => ∃ (i : Nat) (b1 : Bks) (k1 : LBk) (q1 : TBk), vi = .int .i64 i /\ h <= i /\ i <= K /\ (ckUp x first size L bs h (i - h)).2.2 = 0 /\ b1.d = b.d /\ k1.l = k.l /\ q1.t = q.t /\ (∀ i, allB b1 k1 q1 i -> allB b k q i \/ w.heap.size <= i) /\ Ext (allB b k q) w wr /\
  TSys wr b1 (ckUp x first size L bs h (i - h)).1 (N + 79 * (i - h)) first size k1 (ckUp x first size L bs h (i - h)).2.1 q1 T /\ wr.ownsRow w.heap.size 5 1 (.slice ta bs.length tc) bs.length (u8s bs) /\ ∀ i, (Value.slice ta bs.length tc).ownBlock = some i -> ¬ allB b1 k1 q1 i)
  (λ vi _ => K - (intOf vi).toNat)
 case atStart =>
  refine ⟨h, b, k, q, rfl, Nat.le_refl _, hh, ?_, rfl, rfl, rfl, λ i hi => .inl hi, Ext.of_below hB1, ?_, Hown.out, λ i hi e => by have := htv i hi; have := hlt0 i e; omega⟩
  . rw [Nat.sub_self]; rfl
  . rw [Nat.sub_self]; exact HS0.out.below hB1
 case round =>
  obtain ⟨i, b1, k1, q1, rfl, hhi, hi, hck, hd1, hl1, ht1, ha1, hX1, hS1, hown1, hno1⟩ := hrel;have c1 := hS1.tbl.cs.2.1;rw [ht1, hl1] at c1;rw [<- Hbl.out] at HP;have hsz1 := hX1.size;by_cases hik : i < K
  . have hik' : (i : Int) < (K : Int) := by omega
    have hst : ckUp x first size L bs h (i + 1 - h) = ((yH (ckUp x first size L bs h (i - h)).1 first size (ckUp x first size L bs h (i - h)).2.1 (yO bs i)).1, (yH (ckUp x first size L bs h (i - h)).1 first size (ckUp x first size L bs h (i - h)).2.1 (yO bs i)).2.1, (yH (ckUp x first size L bs h (i - h)).1 first size (ckUp x first size L bs h (i - h)).2.1 (yO bs i)).2.2.2) := by
     rw [show i + 1 - h = (i - h) + 1 by omega];show (if (ckUp x first size L bs h (i - h)).2.2 ≠ 0 then _ else _) = _;rw [if_neg (by rw [hck]; decide), show h + (i - h) = i by omega]
    have hok := Hok.out (i - h) (by omega);have hstk : (ckUp x first size L bs h (i + 1 - h)).2.2 ≠ 0 -> ckUp x first size L bs h (K - h) = ckUp x first size L bs h (i + 1 - h) := λ hne => by
     have := ckUp_stuck hne (K - h - (i + 1 - h))
     rwa [show i + 1 - h + (K - h - (i + 1 - h)) = K - h by omega] at this
    obtain ⟨y, M, e0, hp⟩ : ∃ y M e, ckUp x first size L bs h (i - h) = (y, M, e) := ⟨_, _, _, rfl⟩;rw [hp] at hst hok hS1 hck;simp only at hst hok hS1 hck;have hpb := tO bs i (by omega) hbs2;have hpbb := oY Hbb.out i (by omega) hbs2;have HPR := zB λ W (hW : Src W (.slice ta bs.length tc) (u8s bs)) => sK (.slice ta bs.length tc) bs i (Hat.out i hik) hbs2 W hW;have htwo := fB (x := y) (first := first) (size := size) (L := M) (rec := yO bs i);obtain ⟨r, hr⟩ : ∃ r, yH y first size M (yO bs i) = r := ⟨_, rfl⟩;rw [hr] at hst htwo;rw [hst] at hstk;have HAP := zB λ (W : World) (b2 : Bks) (k2 : LBk) (u : Value) (hS2 : LSys W b2 y (N + 79 * (i - h)) first size k2 M) (hu : W.ownsRow wr.heap.size 5 1 u (yO bs i).length (u8s (yO bs i))) (hf : ∀ j, u.ownBlock = some j -> ¬ b2.all j /\ ¬ k2.all j) =>
     nX b2 y (N + 79 * (i - h)) first size k2 M u (yO bs i) W hS2 (by omega) hok (Src.of_owns hu) hf hpbb (by omega) (by omega)
    rw [hr] at HAP;have HST := zB (zC hst hstk);have HQ := zB (zC hd1 (zC hl1 (zC ht1 (zC ha1 (zC hX1 (zC hS1 (zC hown1 hno1)))))));have hlt1 := hS1.lt;clear hst hstk hp hck hd1 hl1 ht1 ha1 hX1 hS1 hown1 hno1 hok hpbb hr
    go_wp2_with fail
    refine (HP.out _).mono ?_;rintro e w2 ⟨rfl, rfl⟩
    go_wp2_with fail
    refine fY 12 [6, 7] (λ w' => w'.cell? ⟨q.t, 1, none⟩ = some (.pointer (some ⟨k.l, 0, none⟩)))
     (λ m v w' => if m = 6 then w'.ownsRow wr.heap.size 5 1 v (yO bs i).length (u8s (yO bs i)) /\ Below wr.heap.size wr w' else v = .tuple #[.int .u64 r.2.2.1, .int .i64 r.2.2.2] /\ xF wr b1 k1 q1 r.1 (N + 79 * (i - h) + 79) first size r.2.1 T w' /\ w'.ownsRow w.heap.size 5 1 (.slice ta bs.length tc) bs.length (u8s bs)) fol (by kernel_rfl) (λ W hW hh => ⟨zG hW c1, ?_⟩)
    clear hh;simp only [fT]
    repeat ((first | (refine eF _ (by first | exact .inl rfl | exact .inr rfl) rfl rfl ?_) | (refine rq_big ?_ rfl rfl (λ w1 hcb1 => ?_) ?_; rotate_left; ((try obtain ⟨hcb1, hcb2, hcb3⟩ := hcb1); go_simp; (try simp (disch := omega) only [zE, toNatUp, iteOmega]); (try go_simp); rfl)) | (refine eE rfl rfl ?_)); simp only [zD])
    refine eB _ rfl rfl ?_ ?_
    . (unfold yE; go_simp; simp only [zN])
      refine (HPR.out W (Src.of_owns (yA HQ.out.2.2.2.2.2.2.1 hW))).mono ?_;rintro e w' ⟨u, rfl, hown, hB⟩;exact ⟨u, rfl, zG (zF hW hB) c1, yC hown λ j hj => Nat.le_trans hW.size (hown.lt j hj).1, zF hW hB⟩
    rintro v6 W6 hc6 hR6;obtain ⟨hown6, hB6⟩ : W6.ownsRow wr.heap.size 5 1 v6 (yO bs i).length (u8s (yO bs i)) /\ Below wr.heap.size wr W6 := hR6;obtain ⟨ua, uc, rfl, -⟩ := zP hown6;have hCA := HAP.out W6 b1 k1 _ (HQ.out.2.2.2.2.2.1.lsys.below hB6) hown6 (λ j hj => ⟨λ e => by have := (hown6.lt j hj).1; have := hlt1 j (.inl (.inl e)); omega, λ e => by have := (hown6.lt j hj).1; have := hlt1 j (.inl (.inr e)); omega⟩);rw [HQ.out.2.1] at hCA;have HCA := zB hCA;clear hCA;simp only [zD];refine eB _ rfl rfl ?_ ?_
    . (unfold yE; go_simp; simp only [zN])
      refine HCA.out.mono ?_;rintro e w' ⟨rfl, hP⟩;have hTS := xF.of_below hB6 ((HQ.out.2.2.2.2.2.1.below hB6).logged hP);obtain ⟨b9, k9, -, -, -, hX9, -⟩ := hP;have htv9 : w'.ownsRow w.heap.size 5 1 (.slice ta bs.length tc) bs.length (u8s bs) := xQ (yA HQ.out.2.2.2.2.2.2.1 hB6) hX9 λ j hj e => HQ.out.2.2.2.2.2.2.2 j hj (.inl e);have hcl := hTS.log_cell;rw [HQ.out.2.2.1, HQ.out.2.1] at hcl;exact ⟨_, rfl, hcl, rfl, hTS, htv9⟩
    rintro v7 W7 hc7 hR7;obtain ⟨rfl, hTS, htv7⟩ : v7 = .tuple #[.int .u64 r.2.2.1, .int .i64 r.2.2.2] /\ xF wr b1 k1 q1 r.1 (N + 79 * (i - h) + 79) first size r.2.1 T W7 /\ W7.ownsRow w.heap.size 5 1 (.slice ta bs.length tc) bs.length (u8s bs) := hR7;simp only [zD]
    repeat ((first | (refine eF _ (by first | exact .inl rfl | exact .inr rfl) rfl rfl ?_) | (refine rq_big ?_ rfl rfl (λ w1 hcb1 => ?_) ?_; rotate_left; ((try obtain ⟨hcb1, hcb2, hcb3⟩ := hcb1); go_simp; (try simp (disch := omega) only [zE, toNatUp, iteOmega]); (try go_simp); rfl)) | (refine eE rfl rfl ?_)); simp only [zD])
    refine rq_nil ?_;obtain ⟨b2, k2, q2, hd2, hl2, ht2, ha2, hX2, hS2⟩ := hTS;have HS2 := zB (zC hd2 (zC hl2 (zC ht2 (zC ha2 (zC hX2 hS2)))));clear hd2 hl2 ht2 ha2 hX2 hS2 hc7 HCA hown6 hc6 HAP HPR;obtain ⟨r1, r2, r3, r4⟩ := r;simp only at HS2 HST htwo;have HH := zB HQ.out;have ha3 : ∀ j, allB b2 k2 q2 j -> allB b k q j \/ w.heap.size <= j := λ j hj => by
     rcases HS2.out.2.2.2.1 j hj with e | e
     . exact HH.out.2.2.2.1 j e
     . exact .inr (Nat.le_trans hsz1 e)
    have hX3 : Ext (allB b k q) w W7 := HH.out.2.2.2.2.1.trans HS2.out.2.2.2.2.1 λ j hj e => by
     rcases HH.out.2.2.2.1 j e with e | e
     . exact e
     . omega
    have HF := zB (zC (HS2.out.1.trans HH.out.1) (zC (HS2.out.2.1.trans HH.out.2.1) (zC (HS2.out.2.2.1.trans HH.out.2.2.1) (zC ha3 (zC hX3 HS2.out.2.2.2.2.2)))));clear ha3 hX3;by_cases h0 : r4 = 0
    . subst h0
      go_wp2_with fail
      refine ⟨⟨i + 1, b2, k2, q2, by simp, by omega, by omega, ?_, HF.out.1, HF.out.2.1, HF.out.2.2.1, HF.out.2.2.2.1, HF.out.2.2.2.2.1, ?_, htv7, λ j hj e => ?_⟩, ?_⟩
      . rw [HST.out.1]
      . rw [HST.out.1, show 79 * (i + 1 - h) = 79 * (i - h) + 79 by omega, <- Nat.add_assoc];exact HF.out.2.2.2.2.2
      . rcases HS2.out.2.2.2.1 j e with e2 | e2
        . exact HH.out.2.2.2.2.2.2.2 j hj e2
        . have := xD HH.out.2.2.2.2.2.2.1 hj;omega
      . show K - ((i : Int) + 1).toNat < K - (i : Int).toNat;omega
    . have hne : (r4 == 0) = false := by rw [beq_eq_false_iff_ne]; exact h0
      have hne2 : (r4 != 0) = true := by rw [bne, hne]; rfl
      go_wp2_with fail
      go_ret
      have hfin := HR.out _ (Hck.out.trans (HST.out.2 h0));simp only [ne_eq, h0, not_false_eq_true, if_true] at hfin;rw [hfin];refine ⟨rfl, b2, k2, q2, HF.out.1, HF.out.2.1, HF.out.2.2.1, HF.out.2.2.2.1, HF.out.2.2.2.2.1, HF.out.2.2.2.2.2.mono ?_⟩;have : 79 * (i - h) + 79 <= 79 * K := by omega
      omega
  . obtain rfl : i = K := by omega
    have hik' : ¬ (i : Int) < (i : Int) := by omega
    go_wp2_with fail
    refine (HP.out _).mono ?_;rintro e w2 ⟨rfl, rfl⟩;have hlN := lflushN_le (ckUp x first size L bs h (i - h)).1 (ckUp x first size L bs h (i - h)).2.1 (N + 79 * (i - h));have hokF := jG (x := (ckUp x first size L bs h (i - h)).1) (Hok.out (i - h) (by omega));have hfin := HR.out _ Hck.out;rw [if_neg (by rw [hck]; decide)] at hfin;have HFL := zB (lflush_any b1 (ckUp x first size L bs h (i - h)).1 (N + 79 * (i - h)) first size k1 (ckUp x first size L bs h (i - h)).2.1 wr hS1.lsys);rw [hl1] at HFL;obtain ⟨N2, hN2⟩ : ∃ m, oW (ckUp x first size L bs h (i - h)).1 (ckUp x first size L bs h (i - h)).2.1 (N + 79 * (i - h)) = m := ⟨_, rfl⟩;obtain ⟨f, hf⟩ : ∃ f, wL (ckUp x first size L bs h (i - h)).1 (ckUp x first size L bs h (i - h)).2.1 = f := ⟨_, rfl⟩;rw [hN2, hf] at HFL;rw [hN2] at hlN;rw [hf] at hokF hfin;have HFIN := zB hfin;have HQ := zB (zC hd1 (zC hl1 (zC ht1 (zC ha1 (zC hX1 hS1)))));clear hfin hd1 hl1 ht1 ha1 hX1 hS1 hown1 hno1 hck hN2 hf c1;have c1 := HQ.out.2.2.2.2.2.tbl.cs.2.1;rw [HQ.out.2.2.1, HQ.out.2.1] at c1
    go_wp2_with fail
    refine HFL.out.mono ?_;rintro e w3 ⟨rfl, hP⟩;obtain ⟨b3, k3, q3, hd3, hl3, ht3, ha3, hX3, hS3⟩ := HQ.out.2.2.2.2.2.logged hP;clear hP HFL;have ht3' := ht3.trans HQ.out.2.2.1;have hl3' := hl3.trans HQ.out.2.1;have c13 := hS3.tbl.cs.2.1;have c63 := hS3.tbl.cs.2.2.2.2.2.2.1;have cf3 := hS3.tbl.cs.2.2.2.2.2.2.2.2;rw [ht3', hl3'] at c13;rw [ht3'] at c63 cf3;obtain ⟨f1, f2, f3⟩ := f;simp only at HFIN hS3 hokF;have H3 := zB (zC hd3 (zC hl3 (zC ht3 (zC ha3 (zC hX3 hS3)))));have HT3 := zB (zC ht3' hl3');clear hd3 hl3 ht3 ha3 hX3 hS3 ht3' hl3';by_cases h0 : f3 = 0
    . subst h0;have hS4 := H3.out.2.2.2.2.2.headed 6 (.int .i64 0) { T with pending := 0 } rfl rfl;rw [HT3.out.1] at hS4;obtain ⟨b4, k4, q4, hd4, hl4, ht4, ha4, hX4, hS4⟩ := hS4;have hl4' := hl4.trans HT3.out.2;have HTR := zB (trim_any b4 f1 N2 first size k4 f2 n hn _ hS4.lsys (by omega) hokF);rw [hl4'] at HTR;have H4 := zB (zC hd4 (zC hl4 (zC ht4 (zC ha4 (zC hX4 hS4)))));clear hd4 hl4 ht4 ha4 hX4 hS4 hl4'
      go_wp2_with fail
      refine HTR.out.mono ?_;rintro e w5 ⟨rfl, hP⟩;have hP5 := H4.out.2.2.2.2.2.logged hP;clear hP HTR
      go_wp2_with fail
      go_ret
      have hfin := HFIN.out;simp only [ne_eq, not_true_eq_false, if_false] at hfin;rw [hfin];refine ⟨rfl, ?_⟩;refine .trans HQ.out.1 HQ.out.2.1 HQ.out.2.2.1 HQ.out.2.2.2.1 HQ.out.2.2.2.2.1 ?_;refine .trans H3.out.1 H3.out.2.1 H3.out.2.2.1 H3.out.2.2.2.1 H3.out.2.2.2.2.1 ?_;refine .trans H4.out.1 H4.out.2.1 H4.out.2.2.1 H4.out.2.2.2.1 H4.out.2.2.2.2.1 ?_;exact hP5.mono (by omega)
    . have hne : (f3 == 0) = false := by rw [beq_eq_false_iff_ne]; exact h0
      have hne2 : (f3 != 0) = true := by rw [bne, hne]; rfl
      go_wp2_with fail
      go_ret
      have hfin := HFIN.out;simp only [ne_eq, h0, not_false_eq_true, if_true] at hfin;rw [hfin];refine ⟨rfl, ?_⟩;refine .trans HQ.out.1 HQ.out.2.1 HQ.out.2.2.1 HQ.out.2.2.2.1 HQ.out.2.2.2.2.1 ?_;refine ⟨b3, k3, q3, H3.out.1, H3.out.2.1, H3.out.2.2.1, H3.out.2.2.2.1, H3.out.2.2.2.2.1, H3.out.2.2.2.2.2.mono (by omega)⟩
end Go.Proofs.YtbjofbhhnmehgaaGreatDoor.TT
