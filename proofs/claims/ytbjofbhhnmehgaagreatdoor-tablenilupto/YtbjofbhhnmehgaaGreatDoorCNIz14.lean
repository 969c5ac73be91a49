
/-
 TableNil: no table and no disk: no condition: the statement is closed; its card ties the listed package-level variables to the program's text.
-/
import Derived.Test.YtbjofbhhnmehgaaGreatDoorCNIz13
import Derived.Test.YtbjofbhhnmehgaaGreatDoorRows
import Derived.WalkKit
import Derived.ProofKit
import Derived.OpenShut
import Derived.JoinedCond
import Derived.Test.YtbjofbhhnmehgaaGreatDoorCards
import Derived.Test.YtbjofbhhnmehgaaGreatDoorTie
import Derived.Test.YtbjofbhhnmehgaaGreatDoorCNIz12
import Derived.Deep.DeepHandedRow
import Derived.Test.YtbjofbhhnmehgaaGreatDoorCNIz0
set_option linter.unusedSimpArgs false
set_option linter.unusedVariables false
set_option maxHeartbeats 4000000
set_option maxRecDepth 100000
open Go.IntWalk (toNatUp iteOmega)
namespace Go.Proofs.YtbjofbhhnmehgaaGreatDoor.TT
open Go.RowKit Go.RG Go.Hp Go.Proofs.YtbjofbhhnmehgaaGreatDoor
def comK (T : TblS) (K : tV) (cs : List TChg) (e : Int) (p : Nat) : tV :=
 if badB (wB cs) then K else if e = 0 then (if cs = [] then K else { K with was := if p = 1 /\ 0 < T.pending then [K.now, vV K.now cs] else K.was ++ [vV K.now cs] }) else if e = 5 then { K with dead := true } else K
structure ComOk (T T' : TblS) (e : Int) (off : Bool) (K : tV) (cs : List TChg) : Prop where
 two : e = 0 \/ e = 2 \/ e = 81 \/ e = 5
 ok : e = 0 -> K.dead = false
 none : e = 0 -> cs = [] -> T'.pending = T.pending
 some : e = 0 -> cs ≠ [] -> (T'.pending = T.pending + 1 \/ T'.pending = 1) /\ zU (vV K.now cs) <= K.room
 full : e = 2 -> K.dead = false /\ K.room < zU (vV K.now cs)
 size : e = 81 -> K.dead = false
 down : e = 5 -> off = true
theorem qA.base {w : World} {B B' r : Nat} {v : Value} {cs : List Chg} (h : qA w B r v cs) (hB : B' <= B) : qA w B' r v cs := by
 obtain ⟨cells, h1, h2⟩ := h.row;refine ⟨⟨cells, yC h1 λ j hj => Nat.le_trans hB (h1.lt j hj).1, λ j c hc => ?_⟩, h.ne⟩;obtain ⟨va, vb, k1, k2, k3, k4, k5, k6⟩ := h2 j c hc;exact ⟨va, vb, k1, k2, k3, k4, k5, λ i hi => ⟨Nat.le_trans hB (k6 i hi).1, (k6 i hi).2⟩⟩
theorem fillB_bytes (f : Int) (n : Nat) : zO (iB f n) := λ b hb => by
 obtain ⟨i, -, rfl⟩ := List.mem_map.1 hb;have := Int.emod_nonneg (f + ((i % 7 : Nat) : Int)) (show (256 : Int) ≠ 0 by decide);have := Int.emod_lt_of_pos (f + ((i % 7 : Nat) : Int)) (show (0 : Int) < 256 by decide);omega
theorem tcs_bytes {w : World} {F : Nat -> Prop} {v : Value} {cs : List TChg} (h : qW w F v cs) : ∀ c ∈ wB cs, zO c.key /\ zO c.value := λ c hc => by
 obtain ⟨d, hd, rfl⟩ := List.mem_map.1 hc;obtain ⟨i, hi⟩ := List.mem_iff_getElem?.1 hd;obtain ⟨a, cap, rfl, h⟩ := h;obtain ⟨g, o, ka, va, -, -, -, -, -, -, h6, -⟩ := h i d hi;refine ⟨h6.kb, ?_⟩;show zO d.val;unfold TChg.val
 split
 . exact h6.vb
 . exact fillB_bytes _ _
theorem drop_two {K : tV} {l : Nat} (h : K.was.length = l + 1) {ps : List Pr} : (K.was ++ [ps]).drop l = [K.now, ps] := by
 have h0 : K.was ≠ [] := λ e => by rw [e] at h; cases h
 rw [List.drop_append_of_le_length (by omega)];have hn := tV.now_at h0;rw [h, Nat.add_sub_cancel] at hn;obtain ⟨hl, hx⟩ := List.getElem?_eq_some_iff.1 hn;rw [List.drop_eq_getElem_cons hl, hx, List.drop_eq_nil_of_le (by omega)];rfl
theorem done_ne : ∀ {cs : List TChg} {ps : List Pr}, yQ (zS ps) -> (∀ p ∈ ps, p.1 ≠ []) -> (∀ c ∈ cs, c.key ≠ []) -> ∀ p ∈ vV ps cs, p.1 ≠ []
 | [], ps, _, h, _ => h
 | c :: cs, ps, hr, h, hc => done_ne (ps := chgP ps c.chg) (rise_chg1 hr) (λ p hp => by
  rw [<- iO hr] at hp;rcases kD hp with rfl | hp
  . exact hc c List.mem_cons_self
  . exact h p hp) λ d hd => hc d (List.mem_cons_of_mem _ hd)
theorem commits_bad {b : Bks} {x : Dsk} {N first size : Nat} {k : LBk} {L : LogS} {q : TBk} {T : TblS} {z : KBk} {K : tV} (vc : Value) (cs : List TChg) (M : Nat) (w : World) (h : KSys w b x N first size k L q T z K) (h0 : K.was ≠ []) (hwn : K.was.length <= 549755812)
 (hc : qW w (kAll b k q z) vc cs) (hok : nY K.now M) (hM : M + cs.length <= 1048575) (hcl : cs.length <= 1048575) (hbad : badB (wB cs)) :
 Calls Tryz.prog 18 #[.pointer (some ⟨z.kb, 0, none⟩), vc] w λ e w' => e = .returned (.bool true) /\ tW w b k q z x (N + 100000000) first size L T K w' := by
 obtain ⟨r1, hr1⟩ : ∃ r, x = r := ⟨_, rfl⟩;obtain ⟨r2, hr2⟩ : ∃ r, L = r := ⟨_, rfl⟩;obtain ⟨r3, hr3⟩ : ∃ r, T = r := ⟨_, rfl⟩;obtain ⟨r4, hr4⟩ : ∃ r, (1 : Int) = r := ⟨_, rfl⟩;have hlt := h.lt;have h10 := h.sys.lsys.sys.pkg.lt;have HNO := zB (now_any w h h0 (by omega));obtain ⟨-, c1, -⟩ := h.cs;have HS := zB h;have HC0 := zB h0;have HC := zB (zC hc (zC hok (zC hM hcl)));clear h hc hok h0;go_enter Tryz.func18, Tryz.ntmps18
 go_wp2_with fail
 refine HNO.out.mono ?_;rintro e w1 ⟨u1, rfl, hu1, hB1⟩;have HD := zB (done_any (kAll b k q z) u1 vc K.now cs w1 M hu1 HC.out.2.1 (HC.out.1.below hB1) (λ j hj => Nat.lt_of_lt_of_le (hlt j hj) hB1.size) HC.out.2.2.1);obtain ⟨a1, p1, hus, -⟩ := id hu1;obtain ⟨ac, pc, hvc, -⟩ := id HC.out.1;subst hus hvc;have HB1 := zB hB1;clear hu1 hB1 HNO
 go_wp2_with fail
 refine HD.out.mono ?_;rintro e w2 ⟨u2, rfl, hu2, hok2, hB2⟩;have hB12 := HB1.out.trans (hB2.mono HB1.out.size);obtain ⟨a2, p2, hus, -⟩ := id hu2;have hS2 := HS.out.below hB12;have c1 := zG hB12 c1;have HUN := zB (tJ b.d k.l q T w2 hS2.sys.tbl);subst hus;have H2 := zB (zC hu2 (zC hok2 (zC hB12 (zC hS2 (HC.out.1.below hB12)))));clear hu2 hok2 hB2 hB12 hS2 HD
 go_wp2_with fail
 refine HUN.out.mono ?_;rintro e w2' ⟨rfl, rfl⟩;have h2lt := H2.out.2.2.2.1.lt;clear HUN
 go_wp2_with fail
 refine xJ (vF λ _ _ _ => False) 7 [] (λ j => if j = 5 then some (λ _ v w' => qA w' w2.heap.size 0 v (wB cs)) else none) (λ _ => True) (λ _ _ => True) fol (by kernel_rfl) (λ _ _ _ _ _ => trivial) (λ U hU hh => ?_);clear hh;have q1 := uJ (S := λ _ _ _ => False) (zG hU c1) (λ _ _ h => h);simp only [fT]
 repeat ((first | refine rxM ?_ | refine rxF ?_ | (refine vA (by first | exact .inl rfl | exact .inr rfl) rfl ?_)); simp only [zD])
 refine xV _ rfl (λ v x1 x2 h hr => h.below (yG hr)) rfl (λ x5 hr5 hf5 => ?_) (λ v5 x5 hr5 hS5 => ?_)
 . (unfold yE; go_simp; simp only [zN])
   have hb := zF hU (yG hr5);refine (ours_any (kAll b k q z) _ cs x5 (H2.out.2.2.2.2.below hb) HC.out.2.2.2 (by have := hb.size; have := H2.out.2.2.1.size; omega)).mono ?_;rintro e w' ⟨u, rfl, hL, hB'⟩;exact ⟨_, rfl, yL.of_below hB', hL.base hb.size⟩
 simp only [zD];have hb5 := zF hU (yG hr5);have hS5b := H2.out.2.2.2.1.below hb5;have HR := zB hbad;have HCM := zB (show Calls Tryz.prog 23 #[.pointer (some ⟨q.t, 0, none⟩), v5] x5 λ e w' => e = .returned (.int .i64 r4) /\ xF x5 b k q r1 (N + 100000000) first size r2 r3 w' from (commit_bad b.d k.l q T v5 (wB cs) (allB b k q) x5 hS5b.sys.tbl (hS5.batch (allB b k q) λ j hj => h2lt j (.inl hj)) (by rw [rH]; omega) hbad).mono λ e w' ⟨he, hB⟩ => by
  subst hr1 hr2 hr3 hr4;exact ⟨he, (xF.same hS5b.sys hB).mono (by omega)⟩)
 clear hbad;refine sZ (λ v w' => v = .int .i64 r4 /\ xF x5 b k q r1 (N + 100000000) first size r2 r3 w') _ rfl rfl ?_ ?_
 . (unfold yE; go_simp; simp only [zN])
   refine HCM.out.mono ?_;rintro e w' ⟨rfl, hP⟩;exact ⟨_, rfl, rfl, hP⟩
 rintro v6 w3 - ⟨rfl, hP⟩;simp only [zD];refine oJ ?_;obtain ⟨b4, k4, q4, hd4, hl4, ht4, ha4, hX4, hS4⟩ := hS5b.tabledZ hP;have hlt4 := hS5b.lt;have hc4 : qW w3 (kAll b4 k4 q4 z) (.slice ac cs.length pc) cs := (((H2.out.2.2.2.2.below hb5).mono (G := λ j => kAll b k q z j \/ kAll b4 k4 q4 z j) λ j hj => hj.elim .inl (oF ha4 j)).ext hX4 λ j hj => .inl (.inl hj)).mono λ j hj => .inl (.inr hj);have hu4 : vR w3 (kAll b4 k4 q4 z) (.slice a2 (vV K.now cs).length p2) (vV K.now cs) := (((H2.out.1.below hb5).mono (G := λ j => kAll b k q z j \/ kAll b4 k4 q4 z j) λ j hj => hj.elim .inl (oF ha4 j)).ext hX4 λ j hj => .inl (.inl hj)).mono λ j hj => .inl (.inr hj);have hB05 := H2.out.2.2.1.trans (hb5.mono H2.out.2.2.1.size);have HG := zB (tgood_any (kAll b4 k4 q4 z) (.slice ac cs.length pc) cs w3 hc4 HC.out.2.2.2);rw [rV HR.out] at HG;have hwas := HS.out.was.le;have H3 := zB (show tW w b k q z r1 (N + 100000000) first size r2 r3 K w3 from tW.of_below hB05 ⟨b4, k4, q4, z, hd4, hl4, ht4, rfl, oF ha4, hX4.mono λ j _ e => .inl e, hS4⟩);have H4 := zB (zC hS4 (zC hu4 (zC hd4 (zC hl4 (zC ht4 (zC ha4 (zC hX4 hB05)))))));have HLK := zB (((qD.refl w b k q z).below hB05).trans (.tabled (z := z) hd4 hl4 ht4 ha4 hX4));have HUP := zB (show ∀ (K' : tV) (W : World), tW w3 b4 k4 q4 z r1 (N + 100000000) first size r2 r3 K' W -> tW w b k q z r1 (N + 100000000) first size r2 r3 K' W from λ K' W h => tW.of_below hB05 (.trans hd4 hl4 ht4 rfl (oF ha4) (hX4.mono λ j _ e => .inl e) h));clear q1 c1 hr5 hS5 hb5 hS5b hP hd4 hl4 ht4 ha4 hX4 hS4 hlt4 hc4 hu4 hB05 HCM hU hwas
 go_wp2_with fail
 refine HG.out.mono ?_;rintro e w4 ⟨rfl, hB4⟩;have HB4 := zB hB4;clear hB4 HG;have hkn : K.now = K.now := rfl;subst hr4
 go_wp2_with fail
 go_ret
 subst hr1 hr2 hr3;exact ⟨rfl, H3.out.below HB4.out⟩
theorem commits_any {b : Bks} {x : Dsk} {N first size : Nat} {k : LBk} {L : LogS} {q : TBk} {T : TblS} {z : KBk} {K : tV} (vc : Value) (cs : List TChg) (M : Nat) (w : World) (h : KSys w b x N first size k L q T z K) (h0 : K.was ≠ []) (hwn : K.was.length <= 549755812)
 (hc : qW w (kAll b k q z) vc cs) (hok : nY K.now M) (hM : M + cs.length <= 1048575) (hcl : cs.length <= 1048575) (hf : T.fine) (ho : L.ok size) (hN : N <= 1080000000000) (hbad : ¬ badB (wB cs)) (hkn : ∀ p ∈ K.now, p.1 ≠ [])
 (hcm : ComOk T (wG x first size L T (wB cs)).2.2.1 (wG x first size L T (wB cs)).2.2.2 (wG x first size L T (wB cs)).1.off K cs) :
 Calls Tryz.prog 18 #[.pointer (some ⟨z.kb, 0, none⟩), vc] w λ e w' => e = .returned (.bool true) /\ tW w b k q z (wG x first size L T (wB cs)).1 (N + 100000000) first size (wG x first size L T (wB cs)).2.1 (wG x first size L T (wB cs)).2.2.1 (comK T K cs (wG x first size L T (wB cs)).2.2.2 (wG x first size L T (wB cs)).2.2.1.pending) w' := by
 obtain ⟨⟨r1, r2, r3, r4⟩, hr⟩ : ∃ r, wG x first size L T (wB cs) = r := ⟨_, rfl⟩;rw [hr] at hcm ⊢;simp only at hcm ⊢;have Hr := zB hr;have HCC := zB hcm;have HNE := zB (done_ne hok.rise hkn λ c hc e => by
  have := (fK hbad).2 c.chg (List.mem_map_of_mem hc);rw [show c.chg.key = c.key from rfl, e] at this;exact absurd this.1 (by decide))
 clear hr hcm hkn;have hlt := h.lt;have h10 := h.sys.lsys.sys.pkg.lt;have HNO := zB (now_any w h h0 (by omega));obtain ⟨-, c1, -⟩ := h.cs;have HS := zB h;have HC0 := zB h0;have HC := zB (zC hc (zC hok (zC hM hcl)));clear h hc hok h0;go_enter Tryz.func18, Tryz.ntmps18
 go_wp2_with fail
 refine HNO.out.mono ?_;rintro e w1 ⟨u1, rfl, hu1, hB1⟩;have HD := zB (done_any (kAll b k q z) u1 vc K.now cs w1 M hu1 HC.out.2.1 (HC.out.1.below hB1) (λ j hj => Nat.lt_of_lt_of_le (hlt j hj) hB1.size) HC.out.2.2.1);obtain ⟨a1, p1, hus, -⟩ := id hu1;obtain ⟨ac, pc, hvc, -⟩ := id HC.out.1;subst hus hvc;have HB1 := zB hB1;clear hu1 hB1 HNO
 go_wp2_with fail
 refine HD.out.mono ?_;rintro e w2 ⟨u2, rfl, hu2, hok2, hB2⟩;have hB12 := HB1.out.trans (hB2.mono HB1.out.size);obtain ⟨a2, p2, hus, -⟩ := id hu2;have hS2 := HS.out.below hB12;have c1 := zG hB12 c1;have HUN := zB (tJ b.d k.l q T w2 hS2.sys.tbl);subst hus;have H2 := zB (zC hu2 (zC hok2 (zC hB12 (zC hS2 (HC.out.1.below hB12)))));clear hu2 hok2 hB2 hB12 hS2 HD
 go_wp2_with fail
 refine HUN.out.mono ?_;rintro e w2' ⟨rfl, rfl⟩;have h2lt := H2.out.2.2.2.1.lt;clear HUN
 go_wp2_with fail
 refine xJ (vF λ _ _ _ => False) 7 [] (λ j => if j = 5 then some (λ _ v w' => qA w' w2.heap.size 0 v (wB cs)) else none) (λ _ => True) (λ _ _ => True) fol (by kernel_rfl) (λ _ _ _ _ _ => trivial) (λ U hU hh => ?_);clear hh;have q1 := uJ (S := λ _ _ _ => False) (zG hU c1) (λ _ _ h => h);simp only [fT]
 repeat ((first | refine rxM ?_ | refine rxF ?_ | (refine vA (by first | exact .inl rfl | exact .inr rfl) rfl ?_)); simp only [zD])
 refine xV _ rfl (λ v x1 x2 h hr => h.below (yG hr)) rfl (λ x5 hr5 hf5 => ?_) (λ v5 x5 hr5 hS5 => ?_)
 . (unfold yE; go_simp; simp only [zN])
   have hb := zF hU (yG hr5);refine (ours_any (kAll b k q z) _ cs x5 (H2.out.2.2.2.2.below hb) HC.out.2.2.2 (by have := hb.size; have := H2.out.2.2.1.size; omega)).mono ?_;rintro e w' ⟨u, rfl, hL, hB'⟩;exact ⟨_, rfl, yL.of_below hB', hL.base hb.size⟩
 simp only [zD];have hb5 := zF hU (yG hr5);have hS5b := H2.out.2.2.2.1.below hb5;have HCM := zB (commit_any b x N first size k L q T v5 (wB cs) x5 hS5b.sys hf ho hN (hS5.batch (allB b k q) λ j hj => h2lt j (.inl hj)) hbad (tcs_bytes HC.out.1));rw [Hr.out] at HCM;have HR := zB (zC hbad hf);simp only at HCM;clear hbad hf;refine sZ (λ v w' => v = .int .i64 r4 /\ xF x5 b k q r1 (N + 100000000) first size r2 r3 w') _ rfl rfl ?_ ?_
 . (unfold yE; go_simp; simp only [zN])
   refine HCM.out.mono ?_;rintro e w' ⟨rfl, hP⟩;exact ⟨_, rfl, rfl, hP⟩
 rintro v6 w3 - ⟨rfl, hP⟩;simp only [zD];refine oJ ?_;obtain ⟨b4, k4, q4, hd4, hl4, ht4, ha4, hX4, hS4⟩ := hS5b.tabledZ hP;have hlt4 := hS5b.lt;have hc4 : qW w3 (kAll b4 k4 q4 z) (.slice ac cs.length pc) cs := (((H2.out.2.2.2.2.below hb5).mono (G := λ j => kAll b k q z j \/ kAll b4 k4 q4 z j) λ j hj => hj.elim .inl (oF ha4 j)).ext hX4 λ j hj => .inl (.inl hj)).mono λ j hj => .inl (.inr hj);have hu4 : vR w3 (kAll b4 k4 q4 z) (.slice a2 (vV K.now cs).length p2) (vV K.now cs) := (((H2.out.1.below hb5).mono (G := λ j => kAll b k q z j \/ kAll b4 k4 q4 z j) λ j hj => hj.elim .inl (oF ha4 j)).ext hX4 λ j hj => .inl (.inl hj)).mono λ j hj => .inl (.inr hj);have hB05 := H2.out.2.2.1.trans (hb5.mono H2.out.2.2.1.size);have HG := zB (tgood_any (kAll b4 k4 q4 z) (.slice ac cs.length pc) cs w3 hc4 HC.out.2.2.2);rw [goodC_true HR.out.1] at HG;have hwas := HS.out.was.le;have H3 := zB (show tW w b k q z r1 (N + 100000000) first size r2 r3 K w3 from tW.of_below hB05 ⟨b4, k4, q4, z, hd4, hl4, ht4, rfl, oF ha4, hX4.mono λ j _ e => .inl e, hS4⟩);have H4 := zB (zC hS4 (zC hu4 (zC hd4 (zC hl4 (zC ht4 (zC ha4 (zC hX4 hB05)))))));have HLK := zB (((qD.refl w b k q z).below hB05).trans (.tabled (z := z) hd4 hl4 ht4 ha4 hX4));have HUP := zB (show ∀ (K' : tV) (W : World), tW w3 b4 k4 q4 z r1 (N + 100000000) first size r2 r3 K' W -> tW w b k q z r1 (N + 100000000) first size r2 r3 K' W from λ K' W h => tW.of_below hB05 (.trans hd4 hl4 ht4 rfl (oF ha4) (hX4.mono λ j _ e => .inl e) h));clear q1 c1 hr5 hS5 hb5 hS5b hP hd4 hl4 ht4 ha4 hX4 hS4 hlt4 hc4 hu4 hB05 HCM hU hwas
 go_wp2_with fail
 refine HG.out.mono ?_;rintro e w4 ⟨rfl, hB4⟩;have HB4 := zB hB4;clear hB4 HG;have hkn : K.now = K.now := rfl;clear hkn;have hcs : ∀ W, Below w3.heap.size w3 W -> W.cell? ⟨z.kb, 1, none⟩ = some (.pointer (some ⟨q4.t, 0, none⟩)) /\ W.cell? ⟨z.kb, 3, none⟩ = some (.slice (some ⟨z.g, z.o, none⟩) K.was.length z.cap) /\ W.cell? ⟨z.kb, 4, none⟩ = some (.int .i64 K.room) /\ W.cell? ⟨z.kb, 6, none⟩ = some (.bool K.dead) /\ W.cell? ⟨z.kb, 0, none⟩ = some (.pointer (some ⟨b4.d, 0, none⟩)) /\ ∀ j, W.frozen? ⟨z.kb, j, none⟩ = false := λ W hW => by
  obtain ⟨x0, x1, x2, x3, x4, x5, x6, x7⟩ := (H4.out.1.below hW).cs;exact ⟨x1, x3, x4, x6, x0, x7⟩
 obtain ⟨d1, d3, d4, d6, d0, df⟩ := hcs w4 HB4.out;have Hcs := zB hcs;clear hcs;rcases HCC.out.two with he | he | he | he
 . subst he;have hdead := HCC.out.ok rfl;obtain ⟨n, hn⟩ : ∃ n, cs.length = n := ⟨_, rfl⟩;by_cases hc0 : cs = []
   . have hn0 : n = 0 := by rw [<- hn, hc0]; rfl
     subst hn0;have hpe := HCC.out.none rfl hc0;have HK := zB (show comK T K cs 0 r3.pending = K from by unfold comK; rw [if_neg HR.out.1, if_pos rfl, if_pos hc0]);have HUN := zB (tJ b4.d k4.l q4 r3 w4 (H4.out.1.below HB4.out).sys.tbl);rw [hpe] at HUN;have HCC2 := HCC;clear hpe hc0 hdead;rw [hn]
     go_wp2_with fail
     refine HUN.out.mono ?_;rintro e w5 ⟨rfl, rfl⟩
     go_wp2_with fail
     go_ret
     rw [HK.out];exact ⟨rfl, H3.out.below HB4.out⟩
   . obtain ⟨hpend, hroom⟩ := HCC.out.some rfl hc0;have hnz : ((n : Int) == 0) = false := by
      rw [beq_eq_false_iff_ne];intro e;exact hc0 (List.eq_nil_of_length_eq_zero (by omega))
     have HK := zB (show comK T K cs 0 r3.pending = { K with was := if r3.pending = 1 /\ 0 < T.pending then [K.now, vV K.now cs] else K.was ++ [vV K.now cs] } from by unfold comK; rw [if_neg HR.out.1, if_pos rfl, if_neg hc0]);have hS4 := H4.out.1.below HB4.out;have hb5 := zQ w4 (.cells #[.slice a2 (vV K.now cs).length p2] 44);have g5 := World.alloc_heap_new w4 (.cells #[.slice a2 (vV K.now cs).length p2] 44);have hS5 := hS4.below hb5;have hlt5 := hS5.lt;obtain ⟨g', o', cap', w', ra, hW', hX', hg'⟩ := hS5.was.app (by omega) (((H4.out.2.1.below HB4.out).below hb5).mono λ j hj => .inl (by
      rcases hj with (hj | hj) | hj
      . exact .inl hj
      . exact .inr (.inl hj)
      . exact .inr (.inr hj))) (gb := w4.heap.size) (c := 1) (yV g5 0 _ rfl) (λ j hj => hj.elim (λ h => hlt5 j (.inl h)) λ h => hlt5 j (.inr (.inl h))) 27
     have hS6 := hS5.rowedK hX' hW' hg';have hP6 := HUP.out _ _ (tW.of_below HB4.out (tW.of_below hb5 (hS5.rowed hX' hW' hg')));have hL6 := (HLK.out.below HB4.out).below hb5 |>.trans (qD.rowed (o := o') (cap := cap') (v := .slice (some ⟨g', o', none⟩) (K.was.length + 1) cap') hX' hg')
     have hlw : (K.was ++ [vV K.now cs]).length = K.was.length + 1 := by rw [List.length_append, List.length_singleton]
     rw [hlw] at hS6 hP6;have hne6 := hS5.ne.1;have e1 : w'.cell? ⟨z.kb, 1, none⟩ = some (.pointer (some ⟨q4.t, 0, none⟩)) := hX'.cell_some hS5.cs.2.1 hne6.symm;have e3 : w'.cell? ⟨z.kb, 3, none⟩ = some (.slice (some ⟨z.g, z.o, none⟩) K.was.length z.cap) := hX'.cell_some hS5.cs.2.2.2.1 hne6.symm;have e4 : w'.cell? ⟨z.kb, 4, none⟩ = some (.int .i64 K.room) := hX'.cell_some hS5.cs.2.2.2.2.1 hne6.symm;have e6 : w'.cell? ⟨z.kb, 6, none⟩ = some (.bool false) := by rw [<- hdead]; exact hX'.cell_some hS5.cs.2.2.2.2.2.2.1 hne6.symm
     have hh5 : w'.heap[z.kb]? = _ := hX'.heap hS5.cells hne6.symm;have ef : ∀ j, w'.frozen? ⟨z.kb, j, none⟩ = false := λ j => by simp [World.frozen?, hh5]
     have HUN := zB (tJ b4.d k4.l q4 r3 _ hS6.sys.tbl);have Hra := zB ra;obtain ⟨l, hl⟩ : ∃ l, K.was.length = l + 1 := ⟨K.was.length - 1, by have := List.length_pos_iff.2 HC0.out; omega⟩;obtain ⟨av, hav⟩ : ∃ av, zU (vV K.now cs) = av := ⟨_, rfl⟩;rw [hav] at hroom;have hub : vR (w'.setCell ⟨z.kb, 3, none⟩ (.slice (some ⟨g', o', none⟩) (K.was.length + 1) cap')) (λ j => kAll b4 k4 q4 z j \/ j = g') (.slice a2 (vV K.now cs).length p2) (vV K.now cs) := ((((H4.out.2.1.below HB4.out).below hb5).mono (G := λ j => kAll b4 k4 q4 z j \/ j = g') λ j hj => by
      rcases hj with hj | hj
      . exact .inl hj
      . rcases hg' with h | h
        . exact .inl (.inr (.inr (hj.trans h)))
        . exact .inr (hj ▸ h)).ext hX' λ j hj => .inl (.inr (.inr hj))).ext (Ext.setCell (S := (· = z.kb)) (p := ⟨z.kb, 3, none⟩) rfl _) λ j hj => .inl (.inr (.inl hj))
     have H6 := zB (zC hS6 (zC hP6 (zC hub (zC hav hL6))));have HL := zB hl;have hpt := HR.out.2.pend;obtain ⟨p, hp⟩ : ∃ p, r3.pending = p := ⟨_, rfl⟩;rw [hp] at HUN hpend;have Hp := zB hp;rw [hl] at e3 d3 hwn HUN Hra H6;rw [hn];clear hS4 hb5 g5 hS5 hlt5 hW' hX' hS6 hP6 hlw hh5 hub hav ra hl hL6 hc0 hdead hp hn
     go_wp2_with (at_builtin; refine yW rfl (yM (.tmp 47) (.tmp 49) 27 27 rfl Hra.out) ?_)
     have hlw : (K.was ++ [vV K.now cs]).length = l + 1 + 1 := by rw [List.length_append, List.length_singleton, HL.out]
     obtain ⟨-, f1, -, f3, f4, -, f6, ff⟩ := H6.out.1.cs;simp only at f1 f3 f4 f6 ff;have hdead : K.dead = false := HCC.out.ok rfl;rw [hlw] at f3;rw [hdead] at f6;have Hlw := zB hlw;clear e1 e3 e4 e6 ef hlw hdead d1 d3 d4 d6 d0 df c1;refine HUN.out.mono ?_;rintro e w6 ⟨rfl, rfl⟩;have Hww := zB (show w'.setCell ⟨z.kb, 3, none⟩ (.slice (some ⟨g', o', none⟩) (l + 1 + 1) cap') = w'.setCell ⟨z.kb, 3, none⟩ (.slice (some ⟨g', o', none⟩) (l + 1 + 1) cap') from rfl);generalize w'.setCell ⟨z.kb, 3, none⟩ (.slice (some ⟨g', o', none⟩) (l + 1 + 1) cap') = W6 at *;clear HUN Hww Hra;by_cases hA : p = 1 /\ 0 < T.pending
     . obtain ⟨rfl, hA⟩ := hA;have hA' : (0 : Int) < (T.pending : Int) := by omega
       go_wp2_with fail
       refine zR 12 (λ _ => none) fol (by kernel_rfl) (λ V hV hh => ?_);clear hh;have q1 := zV hV f3
       repeat ((first | refine lxM ?_ | refine lxF ?_ | refine zM rfl ?_); simp only [zD])
       refine zZ ?_;have hS7 := H6.out.1.below hV;obtain ⟨-, f1, -, f3, f4, -, f6, ff⟩ := hS7.cs;simp only at f1 f3 f4 f6 ff;rw [Hlw.out] at f3;rw [HCC.out.ok rfl] at f6;have hw2 := hS7.was.drop l (by rw [Hlw.out]; omega);have hcp := hS7.was.le;simp only at hw2 hcp;rw [Hlw.out] at hcp;have hcp' : ¬ cap' - l = 0 := by omega
       have hl2 : l + 1 + 1 - l = 2 := by omega
       rw [drop_two HL.out] at hw2;have hS8 := hS7.rowedK (Ext.refl _ _) hw2 (.inl rfl);have hP8 := ((H6.out.2.2.2.2.below hV).trans (qD.rowed (o := o' + l) (cap := cap' - l) (v := .slice (some ⟨g', o' + l, none⟩) [K.now, vV K.now cs].length (cap' - l)) (Ext.refl _ V) (.inl rfl))).post hS8;have H8 := zB (zC hS8 hP8);clear hS7 hw2 hS8 hP8 q1;simp only [List.drop_succ_cons, List.drop_zero];have hUB := ((H6.out.2.2.1.below hV).ext (Ext.setCell (S := (· = z.kb)) (p := ⟨z.kb, 3, none⟩) rfl (.slice (some ⟨g', o' + l, none⟩) 2 (cap' - l))) λ j hj => .inl (.inr (.inl hj)));have HUB := zB hUB;clear hUB
       go_wp2_with fail
       have e6 : (V.setCell ⟨z.kb, 3, none⟩ (.slice (some ⟨g', o' + l, none⟩) 2 (cap' - l))).cell? ⟨z.kb, 6, none⟩ = some (.bool false) := by have := H8.out.1.cs.2.2.2.2.2.2.1; rw [HCC.out.ok rfl] at this; exact this
       have e4 : (V.setCell ⟨z.kb, 3, none⟩ (.slice (some ⟨g', o' + l, none⟩) 2 (cap' - l))).cell? ⟨z.kb, 4, none⟩ = some (.int .i64 K.room) := H8.out.1.cs.2.2.2.2.1;have hpq : ((1 : Int) == (T.pending : Int) + 1) = false := by rw [beq_eq_false_iff_ne]; omega
       refine zR 24 (λ j => if j = 17 then some (λ v _ => v = .int .i64 av) else none) fol (by kernel_rfl) (λ Y hY hh => ?_);clear hh;have q1 := zV hY e6;have q2 := zV hY e4
       repeat ((first | refine lxM ?_ | refine lxF ?_ | refine zM rfl ?_); simp only [zD])
       refine zW _ rfl (λ _ _ _ h _ => h) rfl (λ w1 hb1 hf1 => ?_) ?_
       . (unfold yE; go_simp; simp only [zN])
         refine (rY (λ j => kAll b4 k4 q4 z j \/ j = g') _ (vV K.now cs) _ (HUB.out.below (zF hY hb1)) (Nat.le_trans H2.out.2.1.len (by omega)) H2.out.2.1.small HNE.out).mono ?_;rintro e w' ⟨rfl, hB⟩;rw [H6.out.2.2.2.1];exact ⟨_, rfl, hB, rfl⟩
       rintro v17 W17 hB17 rfl;simp only [zD]
       repeat ((first | refine lxM ?_ | refine lxF ?_ | refine zM rfl ?_); simp only [zD])
       refine zZ ?_;have HX := zB (zF hY hB17);clear q1 q2 hY hB17
       go_wp2_with fail
       go_ret
       rw [HK.out, Hp.out, if_pos ⟨rfl, hA⟩];exact ⟨rfl, H8.out.2.below HX.out⟩
     . have hpe : p = T.pending + 1 := by omega
       have HK2 := zB (show comK T K cs 0 r3.pending = { K with was := K.was ++ [vV K.now cs] } from by rw [HK.out, Hp.out, if_neg hA]);have hHUB := H6.out.2.2.1;have HUB := zB hHUB;subst hpe;obtain ⟨tp, htp⟩ : ∃ tp, T.pending = tp := ⟨_, rfl⟩;rw [htp] at hpt ⊢;clear hA hpend hHUB htp;by_cases hp0 : tp = 0
       . subst hp0
         go_wp2_with fail
         have V := W6;have e6 := f6;have e4 := f4;have hpq : ((0 : Int) + 1 == (0 : Int) + 1) = true := rfl;refine zR 24 (λ j => if j = 17 then some (λ v _ => v = .int .i64 av) else none) fol (by kernel_rfl) (λ Y hY hh => ?_);clear hh;have q1 := zV hY e6;have q2 := zV hY e4
         repeat ((first | refine lxM ?_ | refine lxF ?_ | refine zM rfl ?_); simp only [zD])
         refine zW _ rfl (λ _ _ _ h _ => h) rfl (λ w1 hb1 hf1 => ?_) ?_
         . (unfold yE; go_simp; simp only [zN])
           refine (rY (λ j => kAll b4 k4 q4 z j \/ j = g') _ (vV K.now cs) _ (HUB.out.below (zF hY hb1)) (Nat.le_trans H2.out.2.1.len (by omega)) H2.out.2.1.small HNE.out).mono ?_;rintro e w' ⟨rfl, hB⟩;rw [H6.out.2.2.2.1];exact ⟨_, rfl, hB, rfl⟩
         rintro v17 W17 hB17 rfl;simp only [zD]
         repeat ((first | refine lxM ?_ | refine lxF ?_ | refine zM rfl ?_); simp only [zD])
         refine zZ ?_;have HX := zB (zF hY hB17);clear q1 q2 hY hB17
         go_wp2_with fail
         go_ret
         rw [HK2.out];exact ⟨rfl, H6.out.2.1.below HX.out⟩
       . have hp1 : (((tp + 1 : Nat) : Int) == 1) = false := by rw [beq_eq_false_iff_ne]; omega
         have hp2 : (tp : Int) + 1 ≠ 1 := by omega
         go_wp2_with fail
         have e6 := f6;have e4 := f4;refine zR 24 (λ j => if j = 17 then some (λ v _ => v = .int .i64 av) else none) fol (by kernel_rfl) (λ Y hY hh => ?_);clear hh;have q1 := zV hY e6;have q2 := zV hY e4
         repeat ((first | refine lxM ?_ | refine lxF ?_ | refine zM rfl ?_); simp only [zD])
         refine zW _ rfl (λ _ _ _ h _ => h) rfl (λ w1 hb1 hf1 => ?_) ?_
         . (unfold yE; go_simp; simp only [zN])
           refine (rY (λ j => kAll b4 k4 q4 z j \/ j = g') _ (vV K.now cs) _ (HUB.out.below (zF hY hb1)) (Nat.le_trans H2.out.2.1.len (by omega)) H2.out.2.1.small HNE.out).mono ?_;rintro e w' ⟨rfl, hB⟩;rw [H6.out.2.2.2.1];exact ⟨_, rfl, hB, rfl⟩
         rintro v17 W17 hB17 rfl;simp only [zD]
         repeat ((first | refine lxM ?_ | refine lxF ?_ | refine zM rfl ?_); simp only [zD])
         refine zZ ?_;have HX := zB (zF hY hB17);clear q1 q2 hY hB17
         go_wp2_with fail
         go_ret
         rw [HK2.out];exact ⟨rfl, H6.out.2.1.below HX.out⟩
 . subst he;have HK := zB (show comK T K cs 2 r3.pending = K from by unfold comK; rw [if_neg HR.out.1, if_neg (by decide), if_neg (by decide)]);obtain ⟨hdead, hroom⟩ := HCC.out.full rfl;obtain ⟨av, hav⟩ : ∃ av, zU (vV K.now cs) = av := ⟨_, rfl⟩;rw [hav] at hroom;have hroom' : (K.room : Int) < (av : Int) := by omega
   rw [hdead] at d6;have HAV := zB hav;clear hdead hav hroom
   go_wp2_with fail
   refine zR 14 (λ j => if j = 7 then some (λ v _ => v = .int .i64 av) else none) fol (by kernel_rfl) (λ V hV hh => ?_);clear hh;have q1 := zV hV d6;have q2 := zV hV d4
   repeat ((first | refine lxM ?_ | refine lxF ?_ | refine zM rfl ?_); simp only [zD])
   refine zW _ rfl (λ _ _ _ h _ => h) rfl (λ w1 hb1 hf1 => ?_) ?_
   . (unfold yE; go_simp; simp only [zN])
     refine (rY (kAll b4 k4 q4 z) _ (vV K.now cs) _ ((H4.out.2.1.below HB4.out).below (zF hV hb1)) (Nat.le_trans H2.out.2.1.len (by omega)) H2.out.2.1.small HNE.out).mono ?_;rintro e w' ⟨rfl, hB⟩;rw [HAV.out];exact ⟨_, rfl, hB, rfl⟩
   rintro v7 W7 hB7 rfl;simp only [zD]
   repeat ((first | refine lxM ?_ | refine lxF ?_ | refine zM rfl ?_); simp only [zD])
   refine zZ ?_;have HB7 := zB (HB4.out.trans ((zF hV hB7).mono HB4.out.size));clear q1 q2 hB7 hV
   go_wp2_with fail
   go_ret
   rw [HK.out];exact ⟨rfl, H3.out.below HB7.out⟩
 . subst he;have HK := zB (show comK T K cs 81 r3.pending = K from by unfold comK; rw [if_neg HR.out.1, if_neg (by decide), if_neg (by decide)]);have hdead := HCC.out.size rfl;rw [hdead] at d6;clear hdead
   go_wp2_with fail
   go_ret
   rw [HK.out];exact ⟨rfl, H3.out.below HB4.out⟩
 . subst he;have hdown := HCC.out.down rfl;have HK := zB (show comK T K cs 5 r3.pending = { K with dead := true } from by unfold comK; rw [if_neg HR.out.1, if_neg (by decide), if_pos rfl]);have hP5 := (H4.out.1.below HB4.out).headed 6 (.bool true) { K with dead := true } rfl rfl;obtain ⟨b5, k5, q5, z5, e1, -, -, -, -, -, hS5⟩ := id hP5;have HDN := zB (kK b5 r1 _ hS5.sys.lsys.sys.dsk.head);rw [e1, hdown] at HDN;have HP5 := zB (HUP.out _ _ (tW.of_below HB4.out hP5));clear hP5 hS5 e1 hdown
   go_wp2_with fail
   refine HDN.out.mono ?_;rintro e w6 ⟨rfl, rfl⟩
   go_wp2_with fail
   go_ret
   rw [HK.out];exact ⟨rfl, HP5.out⟩
theorem LogV.ok {x : Dsk} {first size : Nat} {L : LogS} {rs : List Rc} (h : LogV x first size L rs) : L.ok size := by
 have hr := sR L.head.first rs λ r hr => (h.recs r hr).2;have hm := kJ L.head.first rs λ r hr => (h.recs r hr).2;have hb := h.big;have hri := h.ring;have ho := h.order;have hn := h.next;have h6 := h.size6;refine { gen := h.low.1, epoch := h.low.2.1, first := Nat.le_of_lt h.low.2.2.1, least := h.low.2.2.2, next := Nat.le_of_lt hb, order := ho, ring := hri, rise := by rw [h.starts]; exact hr.1, len := by rw [h.epochs, h.starts, wM, List.length_map], short := ?_, low := ?_, ep := ?_ }
 . rw [h.starts, wM];omega
 . rw [h.starts, hn];exact hr.2
 . intro n hn;rw [h.epochs] at hn;obtain ⟨r, hr, rfl⟩ := List.mem_map.1 hn;exact (h.recs r hr).1
theorem TabV.ok {x : Dsk} {first size : Nat} {L : LogS} {T : TblS} {m : Nat} (h : TabV x first size L T m) : L.ok size := by
 obtain ⟨rs, ps0, css, hV, -⟩ := h.view;exact hV.ok
structure KOn (w : World) (b : Bks) (x : Dsk) (first size : Nat) (k : LBk) (L : LogS) (q : TBk) (T : TblS) (z : KBk) (K : tV) (m M : Nat) : Prop where
 sys : KSys w b x (m * 200 + 100000) first size k L q T z K
 tab : TabV x first size L T m
 was : K.was ≠ [] /\ K.was.length <= m + 1
 room : K.room = T.cap
 now : K.now = T.ps
 dead : K.dead = false
 ok : nY K.now M
 size : size <= 65536
theorem KOn.below {w w' : World} {b : Bks} {x : Dsk} {first size : Nat} {k : LBk} {L : LogS} {q : TBk} {T : TblS} {z : KBk} {K : tV} {m M : Nat} (h : KOn w b x first size k L q T z K m M) (hb : Below w.heap.size w w') : KOn w' b x first size k L q T z K m M :=
 ⟨h.sys.below hb, h.tab, h.was, h.room, h.now, h.dead, h.ok, h.size⟩
theorem nY.mono {ps : List Pr} {n m : Nat} (h : nY ps n) (hm : n <= m) : nY ps m := ⟨h.rise, Nat.le_trans h.len hm, h.small⟩
theorem nY.done : ∀ {cs : List TChg} {ps : List Pr} {n : Nat}, nY ps n -> (∀ c ∈ cs, c.key.length <= 1048576 /\ c.value.length <= 1048576) -> nY (vV ps cs) (n + cs.length)
 | [], ps, n, h, _ => h
 | c :: cs, ps, n, h, hc => by
  have h1 := h.chg (hc c List.mem_cons_self).1 (hc c List.mem_cons_self).2;have h2 := nY.done h1 λ d hd => hc d (List.mem_cons_of_mem _ hd);have e : n + 1 + cs.length = n + (c :: cs).length := by rw [List.length_cons]; omega
  rw [e] at h2;exact h2
theorem tcs_small {w : World} {F : Nat -> Prop} {v : Value} {cs : List TChg} (h : qW w F v cs) : ∀ c ∈ cs, c.key.length <= 1048576 /\ c.value.length <= 1048576 := λ c hc => by
 obtain ⟨i, hi⟩ := List.mem_iff_getElem?.1 hc;obtain ⟨a, cap, rfl, h⟩ := h;obtain ⟨g, o, ka, va, -, -, -, -, -, -, h6, -⟩ := h i c hi;exact ⟨h6.kl, h6.vl⟩
theorem nU {cs : List TChg} : wB cs = [] ↔ cs = [] := by unfold wB; exact List.map_eq_nil_iff
theorem com_ok {x y : Dsk} {first size : Nat} {L L' : LogS} {T T' : TblS} {K : tV} {m : Nat} {cs : List TChg} {e : Int} (hr : ComOn x first size L T m (wB cs) y L' T' e) (hroom : K.room = T.cap) (hnow : K.now = T.ps) (hdead : K.dead = false) : ComOk T T' e y.off K cs := by
 have hd : vV K.now cs = xH T.ps (wB cs) := by rw [hnow]; rfl
 cases hr with
 | none h0 => exact ⟨.inl rfl, λ _ => hdead, λ _ _ => rfl, λ _ hn => absurd (nU.1 h0) hn, λ h => (by cases h), λ h => (by cases h), λ h => (by cases h)⟩
 | size h0 h1 => exact ⟨.inr (.inr (.inl rfl)), λ h => (by cases h), λ h => (by cases h), λ h => (by cases h), λ h => (by cases h), λ _ => hdead, λ h => (by cases h)⟩
 | full h0 h1 => exact ⟨.inr (.inl rfl), λ h => (by cases h), λ h => (by cases h), λ h => (by cases h), λ _ => ⟨hdead, by rw [hd, hroom]; exact h1⟩, λ h => (by cases h), λ h => (by cases h)⟩
 | ok h0 h1 hT hp hl hk => exact ⟨.inl rfl, λ _ => hdead, λ _ hn => absurd (nU.2 hn) h0, λ _ _ => ⟨hp, by rw [hd, hroom]; exact h1⟩, λ h => (by cases h), λ h => (by cases h), λ h => (by cases h)⟩
theorem KSys.renum {w : World} {b : Bks} {x : Dsk} {N M first size : Nat} {k : LBk} {L : LogS} {q : TBk} {T : TblS} {z : KBk} {K : tV} (h : KSys w b x N first size k L q T z K) (hv : x.vers M) : KSys w b x M first size k L q T z K :=
 ⟨⟨⟨⟨h.sys.lsys.sys.dsk, ⟨h.sys.lsys.sys.ok.ok, h.sys.lsys.sys.ok.fuse, hv⟩, h.sys.lsys.sys.pkg, h.sys.lsys.sys.far⟩, h.sys.lsys.log, h.sys.lsys.apart, h.sys.lsys.big, h.sys.lsys.fit⟩, h.sys.tbl, h.sys.apart, h.sys.far⟩, h.cells, h.was, h.apart, h.far⟩
def KOnPost (w : World) (b : Bks) (x : Dsk) (first size : Nat) (k : LBk) (q : TBk) (z : KBk) (m M : Nat) (w' : World) : Prop :=
 ∃ (b' : Bks) (k' : LBk) (q' : TBk) (z' : KBk) (x' : Dsk) (L' : LogS) (T' : TblS) (K' : tV), qD w b k q z w' b' k' q' z' /\ KOn w' b' x' first size k' L' q' T' z' K' m M /\ x'.dur.length = x.dur.length /\ oN first size x x'
theorem KOn.mono {w : World} {b : Bks} {x : Dsk} {first size : Nat} {k : LBk} {L : LogS} {q : TBk} {T : TblS} {z : KBk} {K : tV} {m m' M M' : Nat} (h : KOn w b x first size k L q T z K m M) (h1 : m <= m') (h2 : M <= M') : KOn w b x first size k L q T z K m' M' :=
 ⟨h.sys.mono (Nat.add_le_add_right (Nat.mul_le_mul_right _ h1) _), h.tab.mono h1, ⟨h.was.1, Nat.le_trans h.was.2 (Nat.add_le_add_right h1 _)⟩, h.room, h.now, h.dead, h.ok.mono h2, h.size⟩
theorem commits_on {b : Bks} {x : Dsk} {first size : Nat} {k : LBk} {L : LogS} {q : TBk} {T : TblS} {z : KBk} {K : tV} {m M : Nat} (vc : Value) (cs : List TChg) (w : World) (h : KOn w b x first size k L q T z K m M) (hc : qW w (kAll b k q z) vc cs) (hM : M + cs.length <= 1048575) (hm : m <= 3000000) :
 Calls Tryz.prog 18 #[.pointer (some ⟨z.kb, 0, none⟩), vc] w λ e w' => e = .returned (.bool true) /\ KOnPost w b x first size k q z (m + 2) (M + cs.length) w' := by
 have hw := h.was.2;by_cases hbad : badB (wB cs)
 . refine (commits_bad vc cs M w h.sys h.was.1 (by omega) hc h.ok hM (by omega) hbad).mono ?_;rintro e w' ⟨rfl, hP⟩;obtain ⟨b1, k1, q1, z1, hL, hS⟩ := hP.link;exact ⟨rfl, b1, k1, q1, z1, x, L, T, K, hL, (KOn.mk (hS.renum h.tab.vers) h.tab h.was h.room h.now h.dead h.ok h.size).mono (by omega) (by omega), rfl, .refl _ _ _⟩
 . have hr := h.tab.commit h.size hm hbad (tcs_bytes hc);refine (commits_any vc cs M w h.sys h.was.1 (by omega) hc h.ok hM (by omega) (h.tab.fine h.size (by omega)) h.tab.ok (by omega) hbad (λ p hp e => by
    rw [h.now] at hp;have := (h.tab.good p hp).2.2.1;rw [e] at this
    cases this) (com_ok hr h.room h.now h.dead)).mono ?_
   rintro e w' ⟨rfl, hP⟩;obtain ⟨b1, k1, q1, z1, hL, hS⟩ := hP.link;generalize (wG x first size L T (wB cs)).1 = y at *;generalize (wG x first size L T (wB cs)).2.1 = L' at *;generalize (wG x first size L T (wB cs)).2.2.1 = T' at *;generalize (wG x first size L T (wB cs)).2.2.2 = fe at *;refine ⟨rfl, b1, k1, q1, z1, y, L', T', comK T K cs fe T'.pending, hL, ?_⟩
   cases hr with
   | none h0 =>
    have e1 : comK T K cs 0 T.pending = K := by unfold comK; rw [if_neg hbad, if_pos rfl, if_pos (nU.1 h0)]
    rw [e1] at hS ⊢;exact ⟨(KOn.mk (hS.renum h.tab.vers) h.tab h.was h.room h.now h.dead h.ok h.size).mono (by omega) (by omega), rfl, .refl _ _ _⟩
   | size h0 h1 =>
    have e1 : comK T K cs 81 T.pending = K := by unfold comK; rw [if_neg hbad, if_neg (by decide), if_neg (by decide)]
    rw [e1] at hS ⊢;exact ⟨(KOn.mk (hS.renum h.tab.vers) h.tab h.was h.room h.now h.dead h.ok h.size).mono (by omega) (by omega), rfl, .refl _ _ _⟩
   | full h0 h1 =>
    have e1 : comK T K cs 2 T.pending = K := by unfold comK; rw [if_neg hbad, if_neg (by decide), if_neg (by decide)]
    rw [e1] at hS ⊢;exact ⟨(KOn.mk (hS.renum h.tab.vers) h.tab h.was h.room h.now h.dead h.ok h.size).mono (by omega) (by omega), rfl, .refl _ _ _⟩
   | @ok y L' p h0 h1 hT hp hl hk =>
    have e1 : comK T K cs 0 p = { K with was := if p = 1 /\ 0 < T.pending then [K.now, vV K.now cs] else K.was ++ [vV K.now cs] } := by unfold comK; rw [if_neg hbad, if_pos rfl, if_neg λ e => h0 (nU.2 e)]
    rw [e1] at hS ⊢;have hd : vV K.now cs = xH T.ps (wB cs) := by rw [h.now]; rfl
    have hnow : tV.now { K with was := if p = 1 /\ 0 < T.pending then [K.now, vV K.now cs] else K.was ++ [vV K.now cs] } = vV K.now cs := by
     unfold tV.now;simp only
     split
     . rfl
     . rw [List.getLastD_eq_getLast?, List.getLast?_append]; rfl
    refine ⟨⟨hS.renum hT.vers, hT, ⟨?_, ?_⟩, h.room, by rw [hnow, hd], h.dead, by rw [hnow]; exact h.ok.done (tcs_small hc), h.size⟩, hl, hk⟩
    . simp only
      split <;> simp
    . simp only
      split
      . simp
      . rw [List.length_append, List.length_singleton]; omega
theorem costN_zero : uR 0 = 1 := by
 have h1 := pF (show 0 <= 101 by decide) (by decide);rw [costN_101] at h1;have : 1 <= uR 0 := by
  have hp : yF 0 = 1 := by decide
  unfold uR;rw [hp];show 1 <= 0 + need ((vQ 0 (yF 0)).length + min 8112 (0 - 0 * 8112));rw [hp, tG, nO (by decide), nO (by decide)];decide
 omega
theorem fresh_tab {w : World} {b : Bks} {x : Dsk} {N first size : Nat} {k : LBk} {L : LogS} {q : TBk} {c : Nat} (h : FreshT w b x N first size k L q c) (h83 : 83 <= size) (hN : N <= 100000) : TabV x first size L ⟨c, [], 0, 0, 0⟩ 0 := by
 have hn := h.view.next;have hl21 := qP 0 (yF 0) (by decide) (by decide);have hlen : (yO [] 0).length <= 21 := by unfold yO; simpa using hl21
 have hneed : need (yO [] 0).length = 1 := by unfold need; rw [if_pos (by omega)]; omega
 have hn1 : L.next = 1 := by rw [hn, h.first]; show 0 + need (yO [] 0).length = 1; rw [hneed]
 have hlz : zU [] = 0 := rfl;refine { on := h.on, cap := h.cap, least := h83, live := rfl, fallen := rfl, room := Nat.zero_le _, free := ?_, next := by omega, gen := by rw [h.gen]; omega, epoch := by rw [h.epoch]; omega, vers := λ i => Nat.le_trans (h.sys.lsys.sys.ok.vers i) (by omega), pend := Nat.le_refl _, rise := .nil, good := (λ p hp => by cases hp), view := ?_ }
 . show uR (zU []) <= _;rw [hlz, costN_zero];unfold LogS.free;rw [hn1, h.first];omega
 . exact ⟨_, [], [], h.view, by rw [empty_recs]; rfl, rfl, .nil, (λ p hp => by cases hp), (λ cs hc => by cases hc), λ i hi => by rw [List.take_nil]; exact Nat.zero_le _⟩
theorem begin_on (n : Int) (hn : -9223372036854775808 <= n /\ n <= 9223372036854775807) (w : World) (hP : Pkg w) :
 Calls Tryz.prog 12 #[.int .i64 n] w λ e w' => ∃ b x k L q T z K, e = .returned (.tuple #[.pointer (some ⟨z.kb, 0, none⟩), .bool true]) /\ KOn w' b x 2 (pS n 83 65532).toNat k L q T z K 0 0 /\
  x.dur.length = (pS n 83 65532).toNat + 4 /\ (∀ j, kAll b k q z j -> w.heap.size <= j) /\ Below w.heap.size w w' /\ K.was = [[]] /\ K.epoch = 2 /\ L.head.epoch = 2 /\ T.pending = 0 := by
 have hsp := lL n (show (83 : Int) <= 65532 by decide);have h10 := hP.lt;refine (begin_any n hn w hP).mono ?_;rintro e w1 ⟨kb, g, b, k, q, x, N, L, c, rfl, hk, hg, hgk, hwg, ha1, ha2, hall, hF, hlen, hN, hB⟩;have hne : kb ≠ g := by omega
 have hnf : ¬ (allB b k q g \/ g = kb) := λ h => h.elim ha1 λ e => hne e.symm;have hT := fresh_tab hF (by omega) hN;refine ⟨b, x, k, L, q, ⟨c, [], 0, 0, 0⟩, ⟨kb, g, 0, 1⟩, ⟨c, 2, false, [[]]⟩, rfl, ⟨⟨hF.sys.mono (by omega), hk, rZ.one hg (vR.nil _ _) hnf, ha2, by show 10 <= kb; omega, by show 10 <= g; omega⟩, hT, ⟨by simp, by simp⟩, rfl, rfl, rfl, ⟨.nil, Nat.le_refl _, λ p hp => (by cases hp)⟩, by omega⟩, hlen, λ j hj => ?_, hB, rfl, rfl, hF.epoch, rfl⟩;rcases hj with hj | hj | hj
 . exact hall j hj
 . rw [hj]; show w.heap.size <= kb; omega
 . rw [hj]; exact hwg
theorem is_now {b : Bks} {x : Dsk} {first size : Nat} {k : LBk} {L : LogS} {q : TBk} {T : TblS} {z : KBk} {K : tV} {m M : Nat} (F : Nat -> Prop) (v : Value) (w : World) (h : KOn w b x first size k L q T z K m M) (hM : M <= 1048575) (hv : vR w F v K.now) :
 Calls Tryz.prog 19 #[.pointer (some ⟨q.t, 0, none⟩), v] w λ e w' => e = .returned (.bool true) /\ Below w.heap.size w w' := by
 have hc := h.tab.cap.le;have hr := h.tab.room;have hl := h.tab.live;have hs := h.size;refine (is_any b.d k.l q T F v K.now w h.sys.sys.tbl hv h.tab.live (by omega) (Nat.le_trans h.ok.len (by omega)) h.ok.small λ p hp e => by
  rw [h.now] at hp;have := (h.tab.good p hp).2.2.1;rw [e] at this
  cases this).mono ?_
 rintro e w' ⟨rfl, hB⟩;rw [decide_eq_true h.now.symm];exact ⟨rfl, hB⟩
end Go.Proofs.YtbjofbhhnmehgaaGreatDoor.TT
namespace Go.Proofs.YtbjofbhhnmehgaaGreatDoor.TT
open Go.RowKit Go.RG Go.Hp Go.Proofs.YtbjofbhhnmehgaaGreatDoor
attribute [local go_sem] Oper.semAt_some
def NoT (w : World) (p : Option Addr) : Prop := p = none \/ ∃ t, p = some ⟨t, 0, none⟩ /\ fX w t
theorem NoT.below {w w' : World} {p : Option Addr} (h : NoT w p) (hb : Below w.heap.size w w') : NoT w' p := h.imp id λ ⟨t, e, ht⟩ => ⟨t, e, ht.below hb⟩
theorem walk_none (m : Nat) (p : Option Addr) (w : World) (h : NoT w p) (Bt Bl Bh : Nat) (hbt : w.cell? ⟨Bt, 0, none⟩ = some (.pointer p))
 (hbl : w.cell? ⟨Bl, 0, none⟩ = some (.string (strOfNums []))) (hbh : w.cell? ⟨Bh, 0, none⟩ = some (.string (strOfNums []))) :
 SeqX Fence.wide m Tryz.prog 67 #[.pointer (some ⟨Bt, 0, none⟩), .pointer (some ⟨Bl, 0, none⟩), .pointer (some ⟨Bh, 0, none⟩)] (λ x : Value × Value => #[x.1, x.2]) (λ _ _ _ => True)
  (λ xs => xs = []) (λ _ => False) (λ _ _ _ => False) w := by
 intro l' J Jx W hW hJ hJx hY hJ0;have hx := zG hW hbt;have hxl := zG hW hbl;have hxh := zG hW hbh;have HJ := zB (zC hJ hJ0);rcases h.below hW with rfl | ⟨t, rfl, ht⟩
 . clear h hbt hbl hbh hJ hJ0 hY hxl hxh;refine callsIn_wide.2 ?_;show Calls Tryz.prog 67 #[.func (.yield l') #[] #[], .pointer (some ⟨Bt, 0, none⟩), .pointer (some ⟨Bl, 0, none⟩), .pointer (some ⟨Bh, 0, none⟩)] W _;go_enter Tryz.func67, Tryz.ntmps67
   go_wp2_with fail
   refine bodyPost_ret (results_none rfl _ _ _) rfl ?_;exact ⟨⟨_, rfl⟩, .inl ⟨[], rfl, HJ.out.2⟩⟩
 . have c4 := ht.cs.2.2.2.1;have hem : (strOfNums []).toList.isEmpty = true := by simp [strOfNums, ByteArray.toList_eq]
   have HS := zB λ (W' : World) => qY (.slice none 0 0) [] .nil (λ k hk => by cases hk) [] (λ b hb => by cases hb) W' (.inr ⟨rfl, rfl⟩) (by decide);clear h hbt hbl hbh hJ hJ0 hY ht;refine callsIn_wide.2 ?_;show Calls Tryz.prog 67 #[.func (.yield l') #[] #[], .pointer (some ⟨Bt, 0, none⟩), .pointer (some ⟨Bl, 0, none⟩), .pointer (some ⟨Bh, 0, none⟩)] W _;go_enter Tryz.func67, Tryz.ntmps67
   go_wp2_with fail
   refine zY (λ i => if i = 5 then some (λ v _ => v = .tuple #[.int .i64 0, .bool false]) else none) fol (by kernel_rfl) (λ W2 hW2 hh => ?_);clear hh;have q1 := zV hW2 hx;have q2 := zV hW2 hxl;have q4 := zV hW2 c4
   repeat ((first | refine lxM ?_ | refine lxF ?_ | refine zM rfl ?_); simp only [zD])
   refine zW _ rfl (λ _ _ _ h _ => h) rfl (λ w1 hb1 hf1 => ?_) ?_
   . (unfold yE; go_simp; simp only [zN])
     refine (HS.out _).mono ?_;rintro e w' ⟨rfl, hB⟩;exact ⟨_, rfl, hB, rfl⟩
   rintro v3 W3 hB3 rfl;simp only [zD]
   repeat ((first | refine lxM ?_ | refine lxF ?_ | refine zM rfl ?_); simp only [zD])
   refine zZ ?_;have hBW := zF hW2 hB3;have hx := zG hBW hx;have hxh := zG hBW hxh;have c4 := zG hBW c4;have HBW := zB hBW;clear q1 q2 q4 hW2 hB3 hBW hxl;have hp0 : posK [] ([] : List Int) = 0 := rfl
   go_wp2_with fail
   refine bodyPost_ret (results_none rfl _ _ _) rfl ?_;exact ⟨⟨_, rfl⟩, .inl ⟨[], rfl, qT HJ.out.1 HJ.out.2 HBW.out⟩⟩
theorem get_no (p : Option Addr) (v : Value) (key : List Int) (w : World) (h : NoT w p) (hv : Src w v (u8s key)) (hl : key.length <= 549755813888) : Calls Tryz.prog 31 #[.pointer p, v] w λ e w' => e = .returned (.tuple #[.slice none 0 0, .bool false]) /\ Below w.heap.size w w' := by
 rcases h with rfl | ⟨t, rfl, ht⟩
 . refine (get_nil v w).mono ?_;rintro e w' ⟨rfl, rfl⟩;exact ⟨rfl, Below.refl _ _⟩
 . exact get_plain t v key w ht hv hl
theorem fZ (p : Option Addr) (v : Value) (w : World) (h : NoT w p) : Calls Tryz.prog 23 #[.pointer p, v] w λ e w' => e = .returned (.int .i64 1) /\ w = w' := by
 rcases h with rfl | ⟨t, rfl, ht⟩
 . exact commit_nil v w
 . exact commit_plain t v w ht
theorem flush_no (p : Option Addr) (w : World) (h : NoT w p) : Calls Tryz.prog 30 #[.pointer p] w λ e w' => e = .returned (.int .i64 1) /\ w = w' := by
 rcases h with rfl | ⟨t, rfl, ht⟩
 . exact flush_nil w
 . exact flush_plain t w ht
theorem eC (p : Option Addr) (w : World) (h : NoT w p) : Calls Tryz.prog 33 #[.pointer p] w (λ e w' => e = .returned (.int .i64 0) /\ w = w') /\ Calls Tryz.prog 26 #[.pointer p] w (λ e w' => e = .returned (.int .i64 0) /\ w = w') /\
 Calls Tryz.prog 34 #[.pointer p] w (λ e w' => e = .returned (.int .i64 0) /\ w = w') /\ Calls Tryz.prog 35 #[.pointer p] w (λ e w' => e = .returned (.int .u64 0) /\ w = w') := by
 rcases h with rfl | ⟨t, rfl, ht⟩
 . exact ⟨(fV w).1, (fV w).2.1, (fV w).2.2.2.1, (fV w).2.2.2.2⟩
 . exact tells_plain t w ht
theorem room_no (p : Option Addr) (w : World) (h : NoT w p) : Calls Tryz.prog 17 #[.pointer p] w λ e w' => e = .returned (.int .i64 0) /\ Below w.heap.size w w' := by
 rcases h with rfl | ⟨t, rfl, ht⟩
 . refine (fV w).2.2.1.mono ?_;rintro e w' ⟨rfl, rfl⟩;exact ⟨rfl, Below.refl _ _⟩
 . exact room_plain t w ht
def NoD (w : World) (p : Option Addr) : Prop := p = none \/ ∃ d, p = some ⟨d, 0, none⟩ /\ w.cell? ⟨d, 2, none⟩ = some (.map none)
theorem sectors_no (p : Option Addr) (w : World) (h : NoD w p) : Calls Tryz.prog 75 #[.pointer p] w λ e w' => e = .returned (.int .i64 0) /\ w = w' := by
 rcases h with rfl | ⟨d, rfl, c2⟩
 . exact sectors_nil w
 . have hn := λ w => run_neq_map_nil (P := Tryz.prog) w 82 _ _ none oO;have HM : Go.RowKit.Hid (Calls Tryz.prog 72 #[.pointer (some ⟨d, 0, none⟩)] w λ e w' => e = .returned (.bool false) /\ w = w') := by
    refine zB ?_;go_enter Tryz.func72, Tryz.ntmps72
    go_wp2_with fail
    go_ret
    exact ⟨rfl, rfl⟩
   clear c2 hn;go_enter Tryz.func75, Tryz.ntmps75
   go_wp2_with fail
   refine HM.out.mono ?_;rintro e w' ⟨rfl, rfl⟩
   go_wp2_with fail
   go_ret
   exact ⟨rfl, rfl⟩
theorem fits_no (p : Option Addr) (w : World) (h : NoD w p) : Calls Tryz.prog 43 #[.pointer p, .int .i64 0, .int .i64 83] w λ e w' => e = .returned (.bool false) /\ w = w' := by
 have HS := zB (sectors_no p w h);clear h;go_enter Tryz.func43, Tryz.ntmps43
 go_wp2_with fail
 refine HS.out.mono ?_;rintro e w' ⟨rfl, rfl⟩
 go_wp2_with fail
 go_ret
 exact ⟨rfl, rfl⟩
theorem topen_no (p : Option Addr) (w : World) (h : NoD w p) : Calls Tryz.prog 16 #[.pointer p, .int .i64 0, .int .i64 83] w λ e w' => e = .returned (.tuple #[.pointer none, .int .i64 1]) /\ w = w' := by
 have HS := zB (fits_no p w h);clear h;go_enter Tryz.func16, Tryz.ntmps16
 go_wp2_with fail
 refine HS.out.mono ?_;rintro e w' ⟨rfl, rfl⟩
 go_wp2_with fail
 go_ret2
 exact ⟨rfl, rfl⟩
theorem tformat_no (p : Option Addr) (w : World) (h : NoD w p) : Calls Tryz.prog 15 #[.pointer p, .int .i64 0, .int .i64 83] w λ e w' => e = .returned (.int .i64 1) /\ w = w' := by
 have HS := zB (fits_no p w h);clear h;go_enter Tryz.func15, Tryz.ntmps15
 go_wp2_with fail
 refine HS.out.mono ?_;rintro e w' ⟨rfl, rfl⟩
 go_wp2_with fail
 go_ret
 exact ⟨rfl, rfl⟩
end Go.Proofs.YtbjofbhhnmehgaaGreatDoor.TT
namespace Go.RG
variable {P : Program} {Q : Exit -> Act -> World -> Prop} {a : Act} {w : World}
def inLoop (P : Program) (c : Code) (Q : Exit -> Act -> World -> Prop) (a : Act) (w : World) : Prop :=
 ∀ (b : Frame) k cs, ∃ e a' w', Q e a' w' /\ Arrives P (lone (b.at a (.code c :: .inLoop c :: k)) cs w) b k cs e a' w'
theorem fW {c : Code} (h : c.wp P (Exit.then (inLoop P c Q) Q) a w) : inLoop P c Q a w := by
 intro b k cs;obtain ⟨e, a₁, w₁, hq, harr⟩ := h b (.inLoop c :: k) cs
 cases e with
 | normal =>
  obtain ⟨e₂, a₂, w₂, hq₂, harr₂⟩ := hq b k cs;exact ⟨e₂, a₂, w₂, hq₂, .of_steps (Steps.trans harr (.one step_inLoop)) harr₂⟩
 | exit id => exact ⟨_, a₁, w₁, hq, .pass (x := .inLoop c) rfl (λ _ _ => .inl (by simp)) harr⟩
 | goto l => exact ⟨_, a₁, w₁, hq, .pass (x := .inLoop c) rfl (λ _ _ => .inl (by simp)) harr⟩
 | ret => exact ⟨_, a₁, w₁, hq, .pass (x := .inLoop c) rfl (λ _ _ => .inl (by simp)) harr⟩
 | panic ch => exact ⟨_, a₁, w₁, hq, .pass (x := .inLoop c) rfl (λ _ _ => .inl (by simp)) harr⟩
 | outgrown => exact ⟨_, a₁, w₁, hq, .pass (x := .inLoop c) rfl (λ _ _ => .inl (by simp)) harr⟩
theorem wp_loop_in {c : Code} (h : inLoop P c Q a w) : (Code.loop c).wp P Q a w := by
 intro b k cs;obtain ⟨e, a', w', hq, harr⟩ := h b k cs;exact ⟨e, a', w', hq, .of_steps (.one step_loop) harr⟩
end Go.RG
namespace Go.Proofs.YtbjofbhhnmehgaaGreatDoor.TT
open Go.RowKit Go.RG Go.Hp Go.Proofs.YtbjofbhhnmehgaaGreatDoor
attribute [local go_sem] Oper.semAt_some
def NilJ (w0 : World) (b : Bks) (k : LBk) (q : TBk) (z : KBk) (m M : Nat) (wx : World) : Prop :=
 ∃ (b1 : Bks) (y1 : Dsk) (k1 : LBk) (L1 : LogS) (q1 : TBk) (T1 : TblS) (z1 : KBk) (K1 : tV), qD w0 b k q z wx b1 k1 q1 z1 /\ KOn wx b1 y1 2 166 k1 L1 q1 T1 z1 K1 m M
def NilU (w0 : World) (b : Bks) (k : LBk) (q : TBk) (z : KBk) (m M : Nat) (u : Value) (wx : World) : Prop :=
 ∃ (b1 : Bks) (y1 : Dsk) (k1 : LBk) (L1 : LogS) (q1 : TBk) (T1 : TblS) (z1 : KBk) (K1 : tV), qD w0 b k q z wx b1 k1 q1 z1 /\ KOn wx b1 y1 2 166 k1 L1 q1 T1 z1 K1 m M /\ vR wx (kAll b1 k1 q1 z1) u K1.now
def nilC : TChg := ⟨[5], [], 3, 0, false⟩
theorem nilC_key : zO nilC.key := λ b hb => by rw [show b = 5 by simpa [nilC] using hb]; decide
theorem nilC_val : zO nilC.value := λ b hb => by cases hb
theorem five_src (w : World) : Src (w.alloc (.cells #[.int .u8 5] 5)) (.slice (some ⟨w.heap.size, 0, none⟩) 1 1) (u8s [5]) :=
 .inl ⟨_, 0, 1, rfl, Nat.le_refl _, λ j u hu => by
  have hj : j < 1 := (List.getElem?_eq_some_iff.1 hu).1;obtain rfl : j = 0 := by omega
  exact yV (World.alloc_heap_new w _) 0 _ hu⟩
theorem below_put {w W : World} {D : Nat} (h : Below w.heap.size w W) (hD : w.heap.size <= D) (o : Obj) : Below w.heap.size w (W.putObj D o) := by
 have hX : Ext (· = D) W (W.putObj D o) := Ext.grown (grownBy_putObj' W D _) λ k e _ => (Option.some.inj e).symm;exact h.trans ⟨hX.os, hX.tape, hX.output, hX.size, λ k hk => hX.block k (by have := h.size; omega) (by omega)⟩
def NilI (w6 : World) (_ : List (Value × Value)) (W : World) : Prop := Below w6.heap.size w6 W
theorem nilI_own (w6 : World) : OwnFrom w6.heap.size (NilI w6) := by
 rintro pre A B row h hg hr;exact gR (Nat.le_refl _) h hg λ r e => (hr r e).1
theorem tableNil_any (w : World) (hP : Pkg w) :
 Calls Tryz.prog 9 #[] w λ e w' => e = .returned (.bool true) /\ Below w.heap.size w w' := by
 have HB := zB (begin_on 83 (by decide) w hP);have hsp : (pS 83 83 65532).toNat = 166 := by decide
 rw [hsp] at HB;have h10 := hP.lt;clear hP hsp;refine (callsIn_wide (n := 3)).1 ?_;refine callsIn_of_wp_marks Tryz.func9 rfl trivial ?_ rfl;refine wpIn_wide.2 ?_;simp only [Tryz.ntmps9, List.size_toArray, List.length_cons, List.length_nil, Nat.reduceAdd, Nat.reduceSub, Array.replicate_succ, Array.replicate_zero, List.push_toArray, List.append_toArray, List.nil_append, List.cons_append]
 go_wp2_with fail
 refine HB.out.mono ?_;rintro e w1 ⟨b, x, k, L, q, T, z, K, rfl, hK, -, hge, hB1, -, -, -, -⟩;have HI := zB (zC hK (zC hge hB1));obtain ⟨kb, hkb⟩ : ∃ kb, z.kb = kb := ⟨_, rfl⟩;rw [hkb];clear hK hge hB1 HB
 go_wp2_with fail
 obtain ⟨g, hg⟩ : ∃ g, w1.heap.size = g := ⟨_, rfl⟩;have g1 : ((w1.alloc (.cells #[.int .u8 5] 5)).alloc (.cells #[.slice (some ⟨g, 0, none⟩) 1 1, .slice none 0 0, .int .i64 3, .int .u8 0, .bool false] 54)).heap[g]? = some (.cells #[.int .u8 5] 5 (0, 0)) := by
  rw [<- hg];exact (Below.heap_alloc _ _ _ (by simp)).trans (World.alloc_heap_new w1 _)
 have g2 : ((w1.alloc (.cells #[.int .u8 5] 5)).alloc (.cells #[.slice (some ⟨g, 0, none⟩) 1 1, .slice none 0 0, .int .i64 3, .int .u8 0, .bool false] 54)).heap[g + 1]? = some (.cells #[.slice (some ⟨g, 0, none⟩) 1 1, .slice none 0 0, .int .i64 3, .int .u8 0, .bool false] 54 (0, 0)) := by
  have := World.alloc_heap_new (w1.alloc (.cells #[.int .u8 5] 5)) (.cells #[.slice (some ⟨g, 0, none⟩) 1 1, .slice none 0 0, .int .i64 3, .int .u8 0, .bool false] 54);rw [World.size_alloc, hg] at this;exact this
 have hB0 : Below w1.heap.size w1 ((w1.alloc (.cells #[.int .u8 5] 5)).alloc (.cells #[.slice (some ⟨g, 0, none⟩) 1 1, .slice none 0 0, .int .i64 3, .int .u8 0, .bool false] 54)) := ((Below.refl _ w1).alloc (Nat.le_refl _) _).alloc (by simp) _;rw [hg];generalize (w1.alloc (.cells #[.int .u8 5] 5)).alloc (.cells #[.slice (some ⟨g, 0, none⟩) 1 1, .slice none 0 0, .int .i64 3, .int .u8 0, .bool false] 54) = W0 at g1 g2 hB0 ⊢;have hK0 := HI.out.1.below hB0;have hlt0 : ∀ j, kAll b k q z j -> j < g := λ j hj => by rw [<- hg]; exact HI.out.1.sys.lt j hj
 have c1 : W0.cell? ⟨kb, 1, none⟩ = some (.pointer (some ⟨q.t, 0, none⟩)) := by rw [<- hkb]; exact hK0.sys.cs.2.1
 have d2 : ∀ W, Below W0.heap.size W0 W -> ∀ (j : Nat) (v : Value), #[.slice (some ⟨g, 0, none⟩) 1 1, .slice none 0 0, .int .i64 3, .int .u8 0, .bool false][j]? = some v -> W.cell? ⟨g + 1, j, none⟩ = some v := λ W hW j v hv => by
  rw [World.cell?, zK hW g2]; simpa using hv
 have hg0 : g + 1 < W0.heap.size := zI g2;have H0 := zB (zC g1 (zC g2 (zC hB0 (zC hK0 (zC hlt0 hkb)))));have D2 := zB d2;clear g1 g2 hB0 hK0 hlt0 d2 hkb;refine fY 16 [4, 5, 6, 15] (λ w' => w'.cell? ⟨kb, 1, none⟩ = some (.pointer (some ⟨q.t, 0, none⟩)))
  (λ m v w' => if m = 4 then v = .agg #[.slice (some ⟨g, 0, none⟩) 1 1, .slice none 0 0, .int .i64 3, .int .u8 0, .bool false] /\ Below W0.heap.size W0 w' else if m = 5 then qW w' (kAll b k q z) v [nilC] /\ Below W0.heap.size W0 w' else if m = 6 then v = .bool true /\ NilJ W0 b k q z 2 1 w' else NilU W0 b k q z 2 1 v w') fol (by kernel_rfl) (λ W hW hh => ⟨zG hW c1, ?_⟩)
 clear hh;simp only [fT]
 repeat ((first | (refine eF _ (by first | exact .inl rfl | exact .inr rfl) rfl rfl ?_) | (refine rq_big ?_ rfl rfl (λ w1 hcb1 => ?_) ?_; rotate_left; ((try obtain ⟨hcb1, hcb2, hcb3⟩ := hcb1); go_simp; (try simp (disch := omega) only [zE, toNatUp, iteOmega]); (try go_simp); rfl)) | (refine eE rfl rfl ?_)); simp only [zD])
 refine eB _ rfl rfl ?_ ?_
 . have x0 := D2.out W hW 0 _ rfl;have x1 := D2.out W hW 1 _ rfl;have x2 := D2.out W hW 2 _ rfl;have x3 := D2.out W hW 3 _ rfl;have x4 := D2.out W hW 4 _ rfl
   (unfold yE; go_simp; simp only [zN])
   exact ⟨zG hW c1, trivial, hW⟩
 rintro v4 W4 hc4 hR4;obtain ⟨rfl, hW4⟩ : v4 = .agg #[.slice (some ⟨g, 0, none⟩) 1 1, .slice none 0 0, .int .i64 3, .int .u8 0, .bool false] /\ Below W0.heap.size W0 W4 := hR4;simp only [zD];refine eB _ rfl rfl ?_ ?_
 . (unfold yE; go_simp; simp only [zN])
   have g5 := World.alloc_heap_new W4 (.cells #[.slice (some ⟨g, 0, none⟩) 1 1, .slice none 0 0, .int .i64 3, .int .u8 0, .bool false] 54);have hb5 := zQ W4 (.cells #[.slice (some ⟨g, 0, none⟩) 1 1, .slice none 0 0, .int .i64 3, .int .u8 0, .bool false] 54);generalize hw5 : W4.alloc (.cells #[.slice (some ⟨g, 0, none⟩) 1 1, .slice none 0 0, .int .i64 3, .int .u8 0, .bool false] 54) = W5 at g5 hb5 ⊢;have hW5 := zF hW4 hb5;refine ⟨zG hb5 hc4, ⟨_, _, rfl, λ i c hc => ?_⟩, hW5⟩;have hi : i < 1 := (List.getElem?_eq_some_iff.1 hc).1;obtain rfl : i = 0 := by omega
   obtain rfl : nilC = c := by simpa using hc
   have hg5 := zK hW5 H0.out.1;have hlg := zI H0.out.1;have hz5 := hW4.size;have hz6 := zI g5;refine ⟨_, 0, _, _, rfl, yV g5 0 _ rfl, yV g5 1 _ rfl, yV g5 2 _ rfl, yV g5 3 _ rfl, yV g5 4 _ rfl, ⟨.inl (.inl ⟨g, 0, 1, rfl, Nat.le_refl _, λ j u hu => ?_⟩), .inl (.inr ⟨rfl, rfl⟩), nilC_key, nilC_val, by decide, by decide, by decide, by decide⟩, λ h => ?_, λ j hj => ?_⟩
   . have hj : j < 1 := (List.getElem?_eq_some_iff.1 hu).1;obtain rfl : j = 0 := by omega
     exact yV hg5 0 _ hu
   . have := H0.out.2.2.2.2.1 _ h;omega
   . rcases hj with hj | hj
     . obtain rfl : g = j := by simpa [obk] using hj
       exact ⟨by omega, λ h => Nat.lt_irrefl _ (H0.out.2.2.2.2.1 _ h)⟩
     . simp [obk] at hj
 rintro v5 W5 hc5 hR5;obtain ⟨hT5, hW5⟩ : qW W5 (kAll b k q z) v5 [nilC] /\ Below W0.heap.size W0 W5 := hR5;simp only [zD];refine eB _ rfl rfl ?_ ?_
 . have HC := zB (commits_on v5 [nilC] W5 (H0.out.2.2.2.1.below hW5) hT5 (by decide) (by decide));rw [H0.out.2.2.2.2.2] at HC
   (unfold yE; go_simp; simp only [zN])
   refine HC.out.mono ?_;rintro e w' ⟨rfl, b1, k1, q1, z1, x1, L1, T1, K1, hL, hK, -⟩;have hL0 := ((qD.refl W0 b k q z).below hW5).trans hL;have hc := hK.sys.cs.2.1;rw [hL0.kb, hL0.t, H0.out.2.2.2.2.2] at hc;exact ⟨_, rfl, hc, rfl, b1, x1, k1, L1, q1, T1, z1, K1, hL0, hK⟩
 rintro v6 W6 hc6 hR6;obtain ⟨rfl, hJ6⟩ : v6 = .bool true /\ NilJ W0 b k q z 2 1 W6 := hR6;simp only [zD]
 repeat ((first | (refine eF _ (by first | exact .inl rfl | exact .inr rfl) rfl rfl ?_) | (refine rq_big ?_ rfl rfl (λ w1 hcb1 => ?_) ?_; rotate_left; ((try obtain ⟨hcb1, hcb2, hcb3⟩ := hcb1); go_simp; (try simp (disch := omega) only [zE, toNatUp, iteOmega]); (try go_simp); rfl)) | (refine eE rfl rfl ?_)); simp only [zD])
 refine eB _ rfl rfl ?_ ?_
 . obtain ⟨b1, x1, k1, L1, q1, T1, z1, K1, hL, hK⟩ := hJ6;have HN := zB (now_any _ hK.sys hK.was.1 (by have := hK.was.2; omega));rw [hL.kb, H0.out.2.2.2.2.2] at HN;have HL := zB (zC hL hK);clear hL hK
   (unfold yE; go_simp; simp only [zN])
   refine HN.out.mono ?_;rintro e w' ⟨u, rfl, hu, hB⟩;exact ⟨u, rfl, zG hB hc6, b1, x1, k1, L1, q1, T1, z1, K1, HL.out.1.below hB, HL.out.2.below hB, hu⟩
 rintro v15 W15 hc15 hR15;obtain ⟨b1, x1, k1, L1, q1, T1, z1, K1, hL, hK, hu⟩ : NilU W0 b k q z 2 1 v15 W15 := hR15;have HS := zB (is_now (kAll b1 k1 q1 z1) v15 W15 hK (by decide) hu);rw [hL.t] at HS;have HL := zB (zC hL hK);clear hL hK hu hT5 hJ6;simp only [zD]
 repeat ((first | (refine eF _ (by first | exact .inl rfl | exact .inr rfl) rfl rfl ?_) | (refine rq_big ?_ rfl rfl (λ w1 hcb1 => ?_) ?_; rotate_left; ((try obtain ⟨hcb1, hcb2, hcb3⟩ := hcb1); go_simp; (try simp (disch := omega) only [zE, toNatUp, iteOmega]); (try go_simp); rfl)) | (refine eE rfl rfl ?_)); simp only [zD])
 refine rq_nil ?_
 go_wp2_with fail
 refine HS.out.mono ?_;rintro e w2 ⟨rfl, hB2⟩;have hL := HL.out.1.below hB2;have hK := HL.out.2.below hB2;have HL := zB (zC hL hK);clear hL hK hB2 HS
 go_wp2_with fail
 obtain ⟨gt, hgt⟩ : ∃ g, w2.heap.size = g := ⟨_, rfl⟩;have r1 : ((w2.alloc (.cells #[.pointer none, .pointer none, .int .i64 0, .map none, .slice none 0 0, .int .i64 0, .int .i64 0, .int .i64 0] 75)).alloc (.cells #[.pointer none, .pointer (some ⟨gt, 0, none⟩)] 26)).heap[gt]? = some (.cells #[.pointer none, .pointer none, .int .i64 0, .map none, .slice none 0 0, .int .i64 0, .int .i64 0, .int .i64 0] 75 (0, 0)) := by
  rw [<- hgt];exact (Below.heap_alloc _ _ _ (by simp)).trans (World.alloc_heap_new w2 _)
 have r2 : ((w2.alloc (.cells #[.pointer none, .pointer none, .int .i64 0, .map none, .slice none 0 0, .int .i64 0, .int .i64 0, .int .i64 0] 75)).alloc (.cells #[.pointer none, .pointer (some ⟨gt, 0, none⟩)] 26)).heap[gt + 1]? = some (.cells #[.pointer none, .pointer (some ⟨gt, 0, none⟩)] 26 (0, 0)) := by
  have := World.alloc_heap_new (w2.alloc (.cells #[.pointer none, .pointer none, .int .i64 0, .map none, .slice none 0 0, .int .i64 0, .int .i64 0, .int .i64 0] 75)) (.cells #[.pointer none, .pointer (some ⟨gt, 0, none⟩)] 26);rw [World.size_alloc, hgt] at this;exact this
 have hB3 : Below w2.heap.size w2 ((w2.alloc (.cells #[.pointer none, .pointer none, .int .i64 0, .map none, .slice none 0 0, .int .i64 0, .int .i64 0, .int .i64 0] 75)).alloc (.cells #[.pointer none, .pointer (some ⟨gt, 0, none⟩)] 26)) := ((Below.refl _ w2).alloc (Nat.le_refl _) _).alloc (by simp) _;rw [hgt];generalize (w2.alloc (.cells #[.pointer none, .pointer none, .int .i64 0, .map none, .slice none 0 0, .int .i64 0, .int .i64 0, .int .i64 0] 75)).alloc (.cells #[.pointer none, .pointer (some ⟨gt, 0, none⟩)] 26) = W3 at r1 r2 hB3 ⊢;have y0 : ∀ W, Below W3.heap.size W3 W -> W.cell? ⟨gt + 1, 0, none⟩ = some (.pointer none) := λ W hW => yV (zK hW r2) 0 _ rfl;have y1 : ∀ W, Below W3.heap.size W3 W -> W.cell? ⟨gt + 1, 1, none⟩ = some (.pointer (some ⟨gt, 0, none⟩)) := λ W hW => yV (zK hW r2) 1 _ rfl;have hn0 : ∀ W, Below W3.heap.size W3 W -> NoT W none := λ W hW => .inl rfl;have hn1 : ∀ W, Below W3.heap.size W3 W -> NoT W (some ⟨gt, 0, none⟩) := λ W hW => .inr ⟨gt, rfl, zK hW r1⟩;have hw3 : w.heap.size <= W3.heap.size := by
  have h1 := HI.out.2.2.size;have h2 := H0.out.2.2.1.size;have h3 := HL.out.1.ext.size;have h4 := hB3.size;omega
 have H3 := zB (zC y0 (zC y1 (zC hn0 (zC hn1 hB3))));clear y0 y1 hn0 hn1 hB3 r1 r2;refine wp_loop_in (fW ?_);have HR := zB (Below.refl W3.heap.size W3);have y0 := H3.out.1 W3 HR.out
 go_wp2_with fail
 have hb1 := zQ W3 (.cells #[.int .u8 5] 5);have HG := zB (get_no none _ [5] _ (H3.out.2.2.1 _ (zF HR.out hb1)) (five_src W3) (by decide));have HR := zB (zF HR.out hb1);clear y0 hb1;refine HG.out.mono ?_;rintro e w4 ⟨rfl, hB4⟩;have HR := zB (zF HR.out hB4);clear hB4 HG
 go_wp2_with fail
 have hb1 := zQ w4 (.cells #[.int .i64 0] 3);have hg1 := World.alloc_heap_new w4 (.cells #[.int .i64 0] 3);obtain ⟨gw, hgw⟩ : ∃ g, w4.heap.size = g := ⟨_, rfl⟩;rw [hgw] at hg1 ⊢;generalize w4.alloc (.cells #[.int .i64 0] 3) = w5 at hb1 hg1 ⊢;have HR := zB (zF HR.out hb1);have HW := zB (eD none (.slice none 0 0) (.slice none 0 0) [] [] w5 (.inr ⟨rfl, rfl⟩) (.inr ⟨rfl, rfl⟩));clear hb1 hgw;refine HW.out.mono ?_;rintro e w6 ⟨Bt, Bl, Bh, rfl, -, -, -, hbt, hbl, hbh, hB6⟩;have hnf : ∀ W, Sem.run Tryz.prog (binOp .eql 60 (.func (.func 67) #[] #[.pointer (some ⟨Bt, 0, none⟩), .pointer (some ⟨Bl, 0, none⟩), .pointer (some ⟨Bh, 0, none⟩)]) .nilFunc) W = .ok (.bool false) W := λ W => by kernel_rfl
 have HR := zB (zF HR.out hB6);have hg1 := zK hB6 hg1;have HS := zB (walk_none 2 none w6 (H3.out.2.2.1 _ HR.out) Bt Bl Bh hbt hbl hbh);have HZ := zB HR.out.size;clear hbt hbl hbh hB6 HW
 go_wp2_with fail
 refine (wpIn_wide (n := 3)).1 ?_;generalize hA0 : Act.mk _ _ = a0;refine jK (F := Fence.wide) rfl (by decide) (gf := 67) (lb := #[.pointer (some ⟨Bt, 0, none⟩), .pointer (some ⟨Bl, 0, none⟩), .pointer (some ⟨Bh, 0, none⟩)]) (by subst hA0; rfl) trivial (enters_of Tryz.func67 (by kernel_rfl) rfl) HS.out (λ _ _ => trivial) (λ x W l o o' h1 h2 h3 h4 => trivial) (Below.refl _ _) (λ _ => rfl)
  (NilI w6) (λ c _ W => False) (nilI_own w6) (λ c s A B row h _ _ => h) (Below.refl _ _) (λ pre x a' W => False) (λ pre x a' u A B row h _ _ => h) (λ l pre x W K _ hok => hok.elim) (λ l pre x a' W _ _ _ h => h.elim) ?_ (λ D c pre W _ h => h.elim)
 rintro D1 xs W7 hD hxs hI7 hK7;subst hA0;have HR := zB (zF HR.out hI7);have c1 := zK hI7 hg1;have HD := zB hK7;have HZ := zB (Nat.le_trans HZ.out hD);have HC := zB (fZ none (.slice none 0 0) W7 (H3.out.2.2.1 _ HR.out));clear hI7 hg1 hnf HS hK7 hD
 go_wp2_with fail
 refine HC.out.mono ?_;rintro e w8 ⟨rfl, rfl⟩;clear HC
 go_wp2_with fail
 have hb8 : Below W7.heap.size W7 ((W7.alloc (.cells #[.int .u8 5] 5)).alloc (.cells #[.slice (some ⟨W7.heap.size, 0, none⟩) 1 1, .slice none 0 0, .bool false] 78)) := ((Below.refl _ W7).alloc (Nat.le_refl _) _).alloc (by simp) _;generalize (W7.alloc (.cells #[.int .u8 5] 5)).alloc (.cells #[.slice (some ⟨W7.heap.size, 0, none⟩) 1 1, .slice none 0 0, .bool false] 78) = W8 at hb8 ⊢;have HR := zB (zF HR.out hb8);have HD := zB (zK hb8 HD.out);have c1 := zG hb8 (yV c1 0 _ rfl);have HC := zB (fZ none (.slice (some ⟨W7.heap.size + 1, 0, none⟩) 1 1) W8 (H3.out.2.2.1 _ HR.out));have HF := zB (flush_no none W8 (H3.out.2.2.1 _ HR.out));clear hb8;refine HC.out.mono ?_;rintro e w8 ⟨rfl, rfl⟩;clear HC
 go_wp2_with fail
 refine HF.out.mono ?_;rintro e w8 ⟨rfl, rfl⟩;clear HF;have HT := zB (eC none W8 (H3.out.2.2.1 _ HR.out));have HM := zB (room_no none W8 (H3.out.2.2.1 _ HR.out))
 go_wp2_with fail
 refine HT.out.1.mono ?_;rintro e w8 ⟨rfl, rfl⟩
 go_wp2_with fail
 refine HT.out.2.1.mono ?_;rintro e w8 ⟨rfl, rfl⟩
 go_wp2_with fail
 refine HM.out.mono ?_;rintro e w9 ⟨rfl, hB9⟩;have HR := zB (zF HR.out hB9);have HD := zB (zK hB9 HD.out);clear hB9 HM HT c1;have HT := zB (eC none w9 (H3.out.2.2.1 _ HR.out))
 go_wp2_with fail
 refine HT.out.2.2.1.mono ?_;rintro e w8 ⟨rfl, rfl⟩
 go_wp2_with fail
 refine HT.out.2.2.2.mono ?_;rintro e w8 ⟨rfl, rfl⟩;clear HT
 go_wp2_with fail
 have HD1 := HD;have HZ1 := HZ;have H4 := zB (zC (H3.out.2.1 w9 HR.out) (zC (λ W (hW : Below w9.heap.size w9 W) => H3.out.2.2.2.1 W (zF HR.out hW)) (zF H3.out.2.2.2.2 HR.out)));have HR := zB (Below.refl w9.heap.size w9);obtain ⟨W9, hW9⟩ : ∃ W, w9 = W := ⟨_, rfl⟩;rw [hW9] at HR HD1 H4 ⊢;clear hW9 HD HZ H3;refine fW ?_;have y0 := H4.out.1
 go_wp2_with fail
 have hb1 := zQ W9 (.cells #[.int .u8 5] 5);have HG := zB (get_no (some ⟨gt, 0, none⟩) _ [5] _ (H4.out.2.1 _ (zF HR.out hb1)) (five_src W9) (by decide));have HR := zB (zF HR.out hb1);clear y0 hb1;refine HG.out.mono ?_;rintro e w4 ⟨rfl, hB4⟩;have HR := zB (zF HR.out hB4);clear hB4 HG
 go_wp2_with fail
 have hb1 := zQ w4 (.cells #[.int .i64 0] 3);have hg1 := World.alloc_heap_new w4 (.cells #[.int .i64 0] 3);obtain ⟨gw, hgw⟩ : ∃ g, w4.heap.size = g := ⟨_, rfl⟩;rw [hgw] at hg1 ⊢;generalize w4.alloc (.cells #[.int .i64 0] 3) = w5 at hb1 hg1 ⊢;have HR := zB (zF HR.out hb1);have HW := zB (eD (some ⟨gt, 0, none⟩) (.slice none 0 0) (.slice none 0 0) [] [] w5 (.inr ⟨rfl, rfl⟩) (.inr ⟨rfl, rfl⟩));clear hb1 hgw;refine HW.out.mono ?_;rintro e w6 ⟨Bt, Bl, Bh, rfl, -, -, -, hbt, hbl, hbh, hB6⟩;have hnf : ∀ W, Sem.run Tryz.prog (binOp .eql 60 (.func (.func 67) #[] #[.pointer (some ⟨Bt, 0, none⟩), .pointer (some ⟨Bl, 0, none⟩), .pointer (some ⟨Bh, 0, none⟩)]) .nilFunc) W = .ok (.bool false) W := λ W => by kernel_rfl
 have HR := zB (zF HR.out hB6);have hg1 := zK hB6 hg1;have HS := zB (walk_none 2 (some ⟨gt, 0, none⟩) w6 (H4.out.2.1 _ HR.out) Bt Bl Bh hbt hbl hbh);have HZ := zB HR.out.size;clear hbt hbl hbh hB6 HW
 go_wp2_with fail
 refine (wpIn_wide (n := 3)).1 ?_;generalize hA0 : Act.mk _ _ = a0;refine jK (F := Fence.wide) rfl (by decide) (gf := 67) (lb := #[.pointer (some ⟨Bt, 0, none⟩), .pointer (some ⟨Bl, 0, none⟩), .pointer (some ⟨Bh, 0, none⟩)]) (by subst hA0; rfl) trivial (enters_of Tryz.func67 (by kernel_rfl) rfl) HS.out (λ _ _ => trivial) (λ x W l o o' h1 h2 h3 h4 => trivial) (Below.refl _ _) (λ _ => rfl)
  (NilI w6) (λ c _ W => False) (nilI_own w6) (λ c s A B row h _ _ => h) (Below.refl _ _) (λ pre x a' W => False) (λ pre x a' u A B row h _ _ => h) (λ l pre x W K _ hok => hok.elim) (λ l pre x a' W _ _ _ h => h.elim) ?_ (λ D c pre W _ h => h.elim)
 rintro D2' xs W7 hD hxs hI7 hK7;subst hA0;have HR := zB (zF HR.out hI7);have c1 := zK hI7 hg1;have HD := zB hK7;have HZ := zB (Nat.le_trans HZ.out hD);have HC := zB (fZ (some ⟨gt, 0, none⟩) (.slice none 0 0) W7 (H4.out.2.1 _ HR.out));clear hI7 hg1 hnf HS hK7 hD
 go_wp2_with fail
 refine HC.out.mono ?_;rintro e w8 ⟨rfl, rfl⟩;clear HC
 go_wp2_with fail
 have hb8 : Below W7.heap.size W7 ((W7.alloc (.cells #[.int .u8 5] 5)).alloc (.cells #[.slice (some ⟨W7.heap.size, 0, none⟩) 1 1, .slice none 0 0, .bool false] 78)) := ((Below.refl _ W7).alloc (Nat.le_refl _) _).alloc (by simp) _;generalize (W7.alloc (.cells #[.int .u8 5] 5)).alloc (.cells #[.slice (some ⟨W7.heap.size, 0, none⟩) 1 1, .slice none 0 0, .bool false] 78) = W8 at hb8 ⊢;have HR := zB (zF HR.out hb8);have HD := zB (zK hb8 HD.out);have c1 := zG hb8 (yV c1 0 _ rfl);have HC := zB (fZ (some ⟨gt, 0, none⟩) (.slice (some ⟨W7.heap.size + 1, 0, none⟩) 1 1) W8 (H4.out.2.1 _ HR.out));have HF := zB (flush_no (some ⟨gt, 0, none⟩) W8 (H4.out.2.1 _ HR.out));clear hb8;refine HC.out.mono ?_;rintro e w8 ⟨rfl, rfl⟩;clear HC
 go_wp2_with fail
 refine HF.out.mono ?_;rintro e w8 ⟨rfl, rfl⟩;clear HF;have HT := zB (eC (some ⟨gt, 0, none⟩) W8 (H4.out.2.1 _ HR.out));have HM := zB (room_no (some ⟨gt, 0, none⟩) W8 (H4.out.2.1 _ HR.out))
 go_wp2_with fail
 refine HT.out.1.mono ?_;rintro e w8 ⟨rfl, rfl⟩
 go_wp2_with fail
 refine HT.out.2.1.mono ?_;rintro e w8 ⟨rfl, rfl⟩
 go_wp2_with fail
 refine HM.out.mono ?_;rintro e w9 ⟨rfl, hB9⟩;have HR := zB (zF HR.out hB9);have HD := zB (zK hB9 HD.out);clear hB9 HM HT c1;have HT := zB (eC (some ⟨gt, 0, none⟩) w9 (H4.out.2.1 _ HR.out))
 go_wp2_with fail
 refine HT.out.2.2.1.mono ?_;rintro e w8 ⟨rfl, rfl⟩
 go_wp2_with fail
 refine HT.out.2.2.2.mono ?_;rintro e w8 ⟨rfl, rfl⟩;clear HT
 go_wp2_with fail
 refine fW ?_
 go_wp2_with fail
 refine (topen_no none w9 (.inl rfl)).mono ?_;rintro e w8 ⟨rfl, rfl⟩;have HE := HR;have HQ := zB (Below.refl w9.heap.size w9);have hB29 := zF H4.out.2.2 HR.out;have hL := HL.out.1.below hB29;have hK := HL.out.2.below hB29;have c45 := hK.sys.cs.2.1;rw [hL.kb, hL.t, H0.out.2.2.2.2.2] at c45;have HL := zB (zC hL hK);have HR := zB hB29;clear hL hK H4 hB29
 go_wp2_with fail
 refine zR 21 (λ j => if j = 8 then some (λ v w' => ∃ d, v = .pointer (some ⟨d, 0, none⟩) /\ w'.cell? ⟨d, 2, none⟩ = some (.map none)) else if j = 9 then some (λ v _ => v = .int .i64 1) else if j = 20 then some (λ v w' => vR w' (kAll b1 k1 q1 z1) v K1.now) else none) fol (by kernel_rfl) (λ W hW hh => ?_);clear hh;have q1' := zV hW c45
 repeat ((first | refine lxM ?_ | refine lxF ?_ | refine zM rfl ?_); simp only [zD])
 refine zW _ rfl (by exact λ _ _ _ ⟨d, h1, h2⟩ hb => ⟨d, h1, zG hb h2⟩) rfl (λ w1 hb1 hf1 => ?_) ?_
 . (unfold yE; go_simp; simp only [zN])
   have hbx := zQ w1 (.cells #[.slice none 0 0, .slice none 0 0, .map none, .bool false, .int .i64 0] 84);exact ⟨zQ _ _, _, rfl, yV (World.alloc_heap_new w1 _) 2 _ rfl⟩
 rintro v8 W8 hB8 ⟨gd, rfl, hgd⟩;simp only [zD]
 repeat ((first | refine lxM ?_ | refine lxF ?_ | refine zM rfl ?_); simp only [zD])
 refine zW _ rfl (λ _ _ _ h _ => h) rfl (λ w1 hb1 hf1 => ?_) ?_
 . have hd : NoD w1 (some ⟨gd, 0, none⟩) := .inr ⟨gd, rfl, by
    obtain ⟨d, e, h⟩ : ∃ d, Value.pointer (some ⟨gd, 0, none⟩) = .pointer (some ⟨d, 0, none⟩) /\ w1.cell? ⟨d, 2, none⟩ = some (.map none) := hf1 135 (by decide) (by simp);injection e with e;injection e with e;injection e with e;rw [e];exact h⟩
   have HF := zB (tformat_no _ _ hd)
   (unfold yE; go_simp; simp only [zN])
   refine HF.out.mono ?_;rintro e w' ⟨rfl, rfl⟩;exact ⟨_, rfl, Below.refl _ _, rfl⟩
 rintro v9 W9' hB9' rfl;simp only [zD]
 repeat ((first | refine lxM ?_ | refine lxF ?_ | refine zM rfl ?_); simp only [zD])
 refine zW _ rfl (by exact λ _ _ _ h hb => h.below hb) rfl (λ w1 hb1 hf1 => ?_) ?_
 . have hKw := HL.out.2.below (zF hW hb1);have HN := zB (now_any _ hKw.sys hKw.was.1 (by have := hKw.was.2; omega));rw [HL.out.1.kb, H0.out.2.2.2.2.2] at HN;clear hKw
   (unfold yE; go_simp; simp only [zN])
   refine HN.out.mono ?_;rintro e w' ⟨u, rfl, hu, hB⟩;exact ⟨u, rfl, hB, hu⟩
 rintro v20 W20 hB20 hu;simp only [zD]
 repeat ((first | refine lxM ?_ | refine lxF ?_ | refine zM rfl ?_); simp only [zD])
 refine zZ ?_;have hBW := zF hW (zF hB8 (zF hB9' hB20));have HS := zB (is_now (kAll b1 k1 q1 z1) v20 W20 (HL.out.2.below hBW) (by decide) hu);rw [HL.out.1.t] at HS;have HR := zB (zF HR.out hBW);have HQ := zB (zF HQ.out hBW);clear q1' hW hB8 hB9' hB20 hBW hu hgd;simp only [List.drop_succ_cons, List.drop_zero]
 go_wp2_with fail
 refine HS.out.mono ?_;rintro e w10 ⟨rfl, hB10⟩;have HR := zB (zF HR.out hB10);have HQ := zB (zF HQ.out hB10);clear hB10 HS
 go_wp2_with fail
 have hk1 := zK (zF HE.out HQ.out) HD1.out;have hk2 := zK HQ.out HD.out;have hlt1 := zI HD1.out;have hz2 := HZ.out;have hz1 := HZ1.out;have hne : D1 ≠ D2' := by omega
 have hBw0 : Below w.heap.size w W0 := HI.out.2.2.trans (H0.out.2.2.1.mono HI.out.2.2.size);have hB9 : Below w.heap.size w w9 := sV hBw0 HL.out.1.ext hBw0.size HI.out.2.1;have hBf := hB9.trans (HQ.out.mono hB9.size);refine ⟨by simp, .inl ⟨_, _, rfl, run_takeDeferred hk2, ?_⟩⟩;have hk3 := (World.putObj_heap_other (o := .deferred none) (w := w10) hne).trans hk1;refine ⟨by simp, .inl ⟨_, _, rfl, run_takeDeferred hk3, ?_⟩⟩;exact ⟨.bool true, by simp [results, Tryz.f9, go_sem], rfl, below_put (below_put hBf (by omega) _) (by omega) _⟩
end Go.Proofs.YtbjofbhhnmehgaaGreatDoor.TT
namespace Go.Proofs.YtbjofbhhnmehgaaGreatDoor.LP
open Go.ChangeShapes Go.WideShapes Go.ChangeAt Go.RowKit
theorem own : ownKnob Tryz.prog.godebug = none := by kernel_rfl
theorem laidOut : laidOutB Tryz.prog = true := by kernel_rfl
theorem und_bool : Tryz.prog.underlying 4 = some .bool := by kernel_rfl
theorem mK : Tryz.prog.underlying 3 = some (.int .i64) := by kernel_rfl
section
variable {H : Type} {enc : TypeId × Value -> H} {P : Program}
theorem post_of_below {f : Func} {s : ChangeSpec} {apart fresh handsOn again : Bool} {W W' : World} {args : Array Value} {v : Value} {ds gs : List (DataW H)} {before pa pv : List MemPlace}
 (hW : DataW.Whole enc P f.params.toList s.vars apart W args.toList ds gs before) (hb : Below W.heap.size W W')
 (hres : ∀ (b : Nat) (sp : Nat -> Bool) (hd : Bool), DataW.TrodAll enc P W' b sp hd f.resultTypes.toList (v.resultList f.resultTypes.size) (s.fn H (ds ++ gs)).results [])
 (hargs : ∀ sp : Nat -> Bool, (∀ p ∈ before, sp p.block = true) -> DataW.TrodAll enc P W' 0 sp true f.params.toList args.toList (s.fn H (ds ++ gs)).args pa)
 (hvars : ∀ sp : Nat -> Bool, (∀ p ∈ before, sp p.block = true) -> DataW.TrodVars enc P W' sp s.vars (s.fn H (ds ++ gs)).vars pv)
 (hps : before = pa ++ pv)
 (hok : ∀ (j : Nat) (t : TypeId) (r : Value), f.resultTypes[j]? = some t -> (v.resultList f.resultTypes.size)[j]? = some r -> Value.okWide P W' .any 0 t r) :
 s.post enc P f apart fresh handsOn again W args v W' := by
 have hlt : ∀ p ∈ before, p.block < W.heap.size := λ p hp => hW.lt p hp;have hold : ∀ p ∈ before, (λ b => decide (b < W.heap.size)) p.block = true := λ p hp => by simpa using hlt p hp
 refine ⟨ds, gs, before, [], pa, pv, hW, hres _ _ _, hargs _ hold, hvars _ hold, hb.frame _, λ _ => ?_⟩;have h9 := hW;obtain ⟨_, _, _, _, _, hz, hn⟩ := h9;refine ⟨hok, _, _, ([] ++ pa) ++ pv, ⟨[] ++ pa, pv, trodAll_append (hargs _ (λ _ _ => rfl)) (hres _ _ _), hvars _ (λ _ _ => rfl), rfl, ?_, ?_⟩, ?_⟩
 . intro b off hp;have hp' : MemPlace.cell b off ∈ before := by rw [hps]; simpa using hp
   rw [hb.frozen (p := ⟨b, off, none⟩) (hlt _ hp')];exact hz b off hp'
 . intro ha;have := hn ha;rw [hps] at this;simpa using this
 . intro p hp _;rw [hps];simpa using hp
end
theorem again {H : Type} {enc : TypeId × Value -> H} {t : TypeId} (hr : Tryz.prog.readableRec t = true) (ht : t < Tryz.prog.types.size) {W W' : World} {v : Value} {d : DataW H} {ps : List MemPlace}
 (h : DataW.Trod enc Tryz.prog W 0 (λ _ => true) true t v d ps) (hb : Below W.heap.size W W') (hlt : ∀ x ∈ ps, x.block < W.heap.size) {sp : Nat -> Bool} (hs : ∀ x ∈ ps, sp x.block = true) :
 DataW.Trod enc Tryz.prog W' 0 sp true t v d ps :=
 WideElems.Trod_stays laidOut hr ht h (λ x hx => hb.same (hlt x hx)) hs
end Go.Proofs.YtbjofbhhnmehgaaGreatDoor.LP
namespace Go.Proofs.YtbjofbhhnmehgaaGreatDoor.NIz
open Go.ChangeShapes Go.WideShapes Go.ChangeAt Go.RowKit Go.Proofs.YtbjofbhhnmehgaaGreatDoor.TT
theorem params : Tryz.f9.params = #[] := by kernel_rfl
theorem contract (H : Type) (enc : TypeId × Value -> H) (W : World) (base : Nat) (args : Array Value) (ds gs : List (DataW H)) (before : List MemPlace)
 (hval : ∀ (j : Nat) t v, Tryz.f9.params[j]? = some t -> args[j]? = some v -> Value.okWide Tryz.prog W .any base t v)
 (hW : DataW.Whole enc Tryz.prog Tryz.f9.params.toList Rows.tableNilSpec.vars false W args.toList ds gs before) (hL : laidMetH Tryz.prog Rows.tableNilUptoRow.laid W) :
 Calls Tryz.prog 9 args W λ e W' => ∃ v, e = .returned v /\ Rows.tableNilSpec.post enc Tryz.prog Tryz.f9 false true false false W args v W' := by
 have hW' := hW;obtain ⟨p, q, hA0, hV, rfl, hfz, hnd⟩ := hW;have hA : DataW.TrodAll enc Tryz.prog W 0 (λ _ => true) true Tryz.f9.params.toList args.toList ds p := hA0;rw [params] at hA hval;obtain ⟨rfl, rfl, rfl⟩ := trodAll_none hA;obtain ⟨rfl, rfl⟩ := trodVars_none hV;clear hA0;simp only [List.append_nil] at hW';refine (tableNil_any W (pkg_of_laid hL)).mono λ e W' ⟨he, hB⟩ => ?_;subst he;exact ⟨_, rfl, LP.post_of_below (pa := []) (pv := []) hW' hB (λ _ _ _ => (trodAll_cons_mk (shut_bool LP.und_bool _) trodAll_mk0))
  (λ sp hs => by rw [params]; exact trodAll_mk0) (λ _ _ => rfl) rfl (ok_one (by kernel_rfl) rfl (okWide_bool_mk LP.und_bool _))⟩
def lay (cs : Array Value) : Obj -> Obj
 | .cells _ t frozen => .cells cs t frozen
 | o => o
noncomputable def fR (os : Os) : World :=
  { World.holding Tryz.prog os ⟨#[], #[], []⟩ with heap := ((((((((((World.holding Tryz.prog os ⟨#[], #[], []⟩).heap.modify 0 (lay #[.int .i64 4, .int .i64 6])).modify 1 (lay #[.int .i64 10, .int .i64 6])).modify 2 (lay #[.int .i64 16, .int .i64 2])).modify 3 (lay #[.int .i64 18, .int .i64 2])).modify 4 (lay #[.int .i64 28, .int .i64 4])).modify 5
      (lay #[.int .i64 4, .int .i64 6])).modify 6 (lay #[.int .i64 10, .int .i64 6])).modify 7 (lay #[.int .i64 16, .int .i64 6])).modify 8 (lay #[.int .i64 22, .int .i64 6])).modify 9 (lay #[.int .u32 0, .int .u32 498536548, .int .u32 997073096, .int .u32 651767980, .int .u32 1994146192, .int .u32 1802195444, .int .u32 1303535960, .int .u32 1342533948, .int .u32 3988292384, .int .u32 4027552580, .int .u32 3604390888, .int .u32 3412177804, .int .u32 2607071920, .int .u32 2262029012, .int .u32 2685067896, .int .u32 3183342108]) }
theorem laid_met (os : Os) : laidMet Tryz.prog Rows.tableNilUptoRow.laid ((fR os).forCall (λ _ _ => 0) ⟨#[], #[], []⟩).memory :=
 laidMet_of_run' 8 (by kernel_rfl) (by kernel_rfl)
theorem reads (os : Os) {H : Type} (enc : TypeId × Value -> H) : ∃ places, DataW.whole enc Tryz.prog ((fR os).forCall (λ _ _ => 0) ⟨#[], #[], []⟩).memory Tryz.f9.params.toList Rows.tableNilSpec.vars false (#[] : Array Value).toList 8 = some ([], [], places) :=
 ⟨[], by kernel_rfl⟩
theorem lifted (os : Os) (started : os.Started) (H : Type) (enc : TypeId × Value -> H) (F : Stop.Interp) :
 ReturnsInHanded {} Tryz.checked os 9 .any ((Rows.OpenSpec.upto Rows.tableNilSpec).preRow enc Tryz.prog Tryz.f9 Rows.tableNilUptoRow.domain false Rows.tableNilUptoRow.laid) (((Rows.OpenSpec.upto Rows.tableNilSpec).at F).post enc Tryz.prog Tryz.f9 false true false false) := by
 obtain ⟨places, hx⟩ := reads os enc;refine returnsInHanded_of_row (C := Tryz.checked) (s := Rows.OpenSpec.upto Rows.tableNilSpec) LP.own started (by kernel_rfl) Tryz.func9
  (witness_row_at (enc := enc) (C := Tryz.checked) false (fR os) #[] rfl (by kernel_rfl) (by kernel_rfl) (by kernel_rfl)
   (OpenSpec.preRow_of_cond 8 hx (by kernel_rfl) (λ k hk => by cases hk; kernel_rfl) (by kernel_rfl) (laid_met os))) ?_
 intro W base args ds gs before hval hW _ _ _ hL _ _;exact contract H enc W base args ds gs before hval hW hL
theorem said : Rows.TableNilUptoSaid :=
 OpenClaim.holds_of_cond 9 Tryz.f9 rfl rfl rfl rfl rfl rfl rfl ⟨rfl, rfl, rfl, rfl, rfl⟩ rfl rfl rfl rfl rfl (by kernel_rfl) Tryz.func9 (by kernel_rfl)
  (of_decide_eq_true (by kernel_rfl)) (by unfold Func.isWrapper; first | (rw [if_pos (by decide +kernel)]; kernel_rfl) | (rw [if_neg (by decide +kernel)]; exact ⟨rfl, rfl⟩))
  (λ os started H enc _ F => by rw [OpenClaim.pre_eq_preRow]; exact lifted os started H enc F)
theorem plain (f : FuncId) (fn : Func) (hf : Tryz.pinned.checked.prog.funcNamed "halyard/halyardlaw06.TableNil" = some f) (hfn : Tryz.pinned.checked.prog.funcs[f]? = some fn) :
 true = Tryz.pinned.checked.prog.looks [] /\ ∀ (j : Nat) t, fn.params[j]? = some t -> Tryz.pinned.checked.prog.wantsStandIn t = false := by
 obtain rfl : f = 9 := Option.some.inj ((show Tryz.prog.funcNamed "halyard/halyardlaw06.TableNil" = some 9 by kernel_rfl).symm.trans hf) |>.symm
 obtain rfl : fn = Tryz.f9 := (Option.some.inj (Tryz.func9.symm.trans hfn)).symm;refine ⟨by kernel_rfl, λ j t ht => ?_⟩;rw [params] at ht;simp at ht
theorem card : Rows.TableNilUptoCardSaid :=
 Claim7.holds_tied_plain_at .later [] _ _ _ _ said (λ _ h => by cases h) (by kernel_rfl) (λ _ h => by cases h) tableNilUpto_row_tie rfl ⟨rfl, rfl⟩ (by kernel_rfl) rfl plain (by kernel_rfl)
end Go.Proofs.YtbjofbhhnmehgaaGreatDoor.NIz
