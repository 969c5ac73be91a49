
/-
 put: a change is put into pairs.
-/
import Derived.Test.YtbjofbhhnmehgaaGreatDoorCNIz12
import Derived.ArgAppend
import Derived.Test.YtbjofbhhnmehgaaGreatDoorCNIz0
set_option linter.unusedSimpArgs false
set_option linter.unusedVariables false
set_option maxHeartbeats 4000000
set_option maxRecDepth 100000
open Go.IntWalk (toNatUp iteOmega)
namespace Go.Proofs.YtbjofbhhnmehgaaGreatDoor.TT
open Go.RowKit Go.RG Go.Hp Go.Proofs.YtbjofbhhnmehgaaGreatDoor
structure PutI (w1 : World) (F : Nat -> Prop) (k v : List Int) (g0 : Bool) (ps : List Pr) (i : Nat) (inn : Bool) (vo : Value) (wr : World) : Prop where
 below : Below w1.heap.size w1 wr
 hi : i <= ps.length
 row : ∃ ds us, iE wr w1.heap.size F vo ds us /\ ds ++ putF k v inn (ps.drop i) = putF k v g0 ps /\ ds.length <= i + inn.toNat
theorem build_pair (a : Option Addr) (n c : Nat) (a' : Option Addr) (n' c' : Nat) (w : World) : (Instr.buildSlice 44 1 #[(0, .agg #[.slice a n c, .slice a' n' c'])]).run Tryz.prog w = .ok (.slice (some ⟨w.heap.size, 0, none⟩) 1 1) (w.alloc (.cells #[.slice a n c, .slice a' n' c'] 58)) := by
 kernel_rfl
theorem yG {w w' : World} (h : yL (λ _ _ _ => False) w w') : Below w.heap.size w w' := by
 have hX := h.ext;exact ⟨hX.os, hX.tape, hX.output, hX.size, λ k hk => hX.block k hk λ ⟨j, y, h⟩ => h⟩
theorem kput_any (F : Nat -> Prop) (v : Value) (ps : List Pr) (c : TChg) (ka va : Value) (w : World) (hp : vR w F v ps) (hr : yQ (zS ps)) (hc : TChgV c ka va w) (hF : ∀ j, F j -> j < w.heap.size) (hkB : ∀ j, obk ka = some j -> j < w.heap.size /\ ¬ F j) (hl : ps.length <= 1048575)
 (hg : ∀ p ∈ ps, p.1.length <= 1048576 /\ p.2.length <= 1048576) :
 Calls Tryz.prog 53 #[v, .agg #[ka, va, .int .i64 c.long, .int .u8 c.fill, .bool c.gone]] w λ e w' => ∃ u, e = .returned u /\ vR w' F u (chgP ps c.chg) /\ Below w.heap.size w w' := by
 obtain ⟨a, cap, rfl, -⟩ := id hp;obtain ⟨n, hn⟩ : ∃ n, ps.length = n := ⟨_, rfl⟩;rw [hn] at hp hl ⊢;obtain ⟨a1, c1, hka, -⟩ := hc.key.shape;obtain ⟨a2, c2, hva, -⟩ := hc.val.shape;rw [zH] at hka hva;subst hka;subst hva;have hb0 := zQ w (.cells #[.slice a1 c.key.length c1, .slice a2 c.value.length c2, .int .i64 c.long, .int .u8 c.fill, .bool c.gone] 54);have g0 := World.alloc_heap_new w (.cells #[.slice a1 c.key.length c1, .slice a2 c.value.length c2, .int .i64 c.long, .int .u8 c.fill, .bool c.gone] 54);have hkb : ∀ j, obk (Value.slice a1 c.key.length c1) = some j -> j < w.heap.size := λ j hj => (hkB j hj).1;have hkF : ∀ j, obk (Value.slice a1 c.key.length c1) = some j -> ¬ F j := λ j hj => (hkB j hj).2;have HH := zB (zC (hp.below hb0) (zC hr (zC (hc.below hb0) (zC hF (zC hkF (zC hl (zC hg (zC hn (zC hkb (zC hb0 g0))))))))));clear hp hr hc hF hkF hkB hl hg hn hkb hb0 g0;go_enter Tryz.func53, Tryz.ntmps53;generalize hw1 : w.alloc (.cells #[.slice a1 c.key.length c1, .slice a2 c.value.length c2, .int .i64 c.long, .int .u8 c.fill, .bool c.gone] 54) = w1 at HH;have b4 : w1.cell? ⟨w.heap.size, 4, none⟩ = some (.bool c.gone) := yV HH.out.2.2.2.2.2.2.2.2.2.2 4 _ rfl
 go_wp2_with fail
 go_loopw [5, 6, 7] (λ vo vn vi wr => ∃ (i : Nat) (inn : Bool), vn = .bool inn /\ vi = .int .i64 i /\ PutI w1 F c.key c.val c.gone ps i inn vo wr) (λ _ _ vi _ => n - (intOf vi).toNat)
 case atStart => exact ⟨0, c.gone, rfl, rfl, Below.refl _ _, Nat.zero_le _, [], [], iE.nil _ _ _, rfl, Nat.zero_le _⟩
 case round =>
  obtain ⟨i, inn, rfl, rfl, hI⟩ := hrel;obtain ⟨hB, hi, ds, us, hrow, heq, hdl⟩ := hI;obtain ⟨vao, vco, hvo, -⟩ := zP hrow.row;obtain ⟨m, hm⟩ : ∃ m, ds.length = m := ⟨_, rfl⟩;rw [hm] at hvo;have Hm := zB hm;clear hm;by_cases hin : i < n
  . have hin' : (i : Int) < (n : Int) := by omega
    obtain ⟨p, hpi⟩ : ∃ p, ps[i]? = some p := ⟨_, List.getElem?_eq_getElem (by rw [HH.out.2.2.2.2.2.2.2.1]; exact hin)⟩;obtain ⟨g, o, va, vb, rfl, ca, cb, sa, sb, hgF, hbF⟩ := HH.out.1.at hpi;have hglt := block_lt_of_cell ca;have ca := zG hB ca;have cb := zG hB cb;have sa := sa.below hB;have sb := sb.below hB;obtain ⟨l1, l2⟩ := HH.out.2.2.2.2.2.2.1 p (List.mem_of_getElem? hpi);obtain ⟨a3, c3, hv3, -⟩ := sa.shape;obtain ⟨a4, c4, hv4, -⟩ := sb.shape;rw [zH] at hv3 hv4;subst hv3;subst hv4;have hbx := zK hB HH.out.2.2.2.2.2.2.2.2.2.2;have k0 : wr.cell? ⟨w.heap.size, 0, none⟩ = some (.slice a1 c.key.length c1) := yV hbx 0 _ rfl;have hC := HH.out.2.2.1.below hB;have hdr : ps.drop i = p :: ps.drop (i + 1) := by rw [List.drop_eq_getElem?_toList_append, hpi]; rfl
    rw [hdr] at heq;have h20 := HH.out.2.2.2.2.2.1;have hdl' : ds.length <= 1048576 := by
     have hin1 : inn.toNat <= 1 := by cases inn <;> decide
     omega
    have hn20 : (i : Int) <= 1048576 := by omega
    have HY := zB λ (U : World) (hU : Below wr.heap.size wr U) => kM (.slice a3 p.1.length c3) (.slice a1 c.key.length c1) p.1 c.key U (sa.below hU) (hC.key.below hU) (by omega) (by have := hC.kl; omega);have HK := zB (zC hrow (zC heq (zC hdl (zC hpi (zC sa (zC sb (zC hgF (zC hbF (zC l1 (zC l2 (zC hbx (zC hC hdl'))))))))))));subst hvo;clear hrow heq hdl hpi sa sb hgF hbF l1 l2 hbx hC hdr b4 hdl'
    go_wp2_with fail
    refine zY (λ j => if j = 7 then some (λ v _ => v = .bool (decide (p.1 = c.key))) else none) fol (by kernel_rfl) (λ U hU hh => ?_);clear hh;have q1 := zV hU ca;have q2 := zV hU k0
    repeat ((first | refine lxM ?_ | refine lxF ?_ | refine zM rfl ?_); simp only [zD])
    refine zW _ rfl (λ _ _ _ h _ => h) rfl (λ w1 hb1 hf1 => ?_) ?_
    . (unfold yE; go_simp; simp only [zN])
      refine (HY.out _ (zF hU hb1)).mono ?_;rintro e w' ⟨rfl, hB'⟩;exact ⟨_, rfl, hB', rfl⟩
    rintro v7 U7 hB7 rfl;simp only [zD]
    repeat ((first | refine lxM ?_ | refine lxF ?_ | refine zM rfl ?_); simp only [zD])
    refine zZ ?_;have hU7 := zF hU hB7;have ca := zG hU7 ca;have cb := zG hU7 cb;have k0 := zG hU7 k0;clear q1 q2 hU hB7 HY;by_cases hk : p.1 = c.key
    . simp only [decide_eq_true hk]
      go_wp2_with fail
      refine ⟨⟨i + 1, inn, rfl, by simp, hB.trans (hU7.mono hB.size), by have := HH.out.2.2.2.2.2.2.2.1; omega, ds, us, HK.out.1.below hU7, ?_, by have := HK.out.2.2.1; omega⟩, ?_⟩
      . rw [<- HK.out.2.1]
        conv => rhs; unfold putF
        rw [if_pos hk]
      . show n - ((i : Int) + 1).toNat < n - (i : Int).toNat;omega
    . simp only [decide_eq_false hk];have hrow7 := HK.out.1.below hU7
      cases inn with
      | true =>
       go_wp2_with fail
       refine zY (λ j => none) fol (by kernel_rfl) (λ V hV hh => ?_);clear hh
       repeat ((first | refine lxM ?_ | refine lxF ?_ | refine zM rfl ?_); simp only [zD])
       refine zZ ?_;have hV7 := zF hU7 hV;have ca := zG hV ca;have cb := zG hV cb;clear k0 hV;have hb0 := zQ V (.cells #[.slice a3 p.1.length c3, .slice a4 p.2.length c4] 58);have g0 := World.alloc_heap_new V (.cells #[.slice a3 p.1.length c3, .slice a4 p.2.length c4] 58);obtain ⟨v', w', ra, hP', hSR, hfr, va', vc', hv'⟩ := (((HK.out.1.below hV7)).below hb0).app (by (exact HK.out.2.2.2.2.2.2.2.2.2.2.2.2)) p (.slice a3 p.1.length c3, .slice a4 p.2.length c4) ((HK.out.2.2.2.2.1.below hV7).below hb0) ((HK.out.2.2.2.2.2.1.below hV7).below hb0) (λ j hj => ⟨λ e => by have h1 := (HK.out.2.2.2.2.2.2.2.1 j hj).1; have h2 := (((HK.out.1.below hV7)).row.lt j e).1; omega, (HK.out.2.2.2.2.2.2.2.1 j hj).2⟩) (λ j hj => by have h1 := (HK.out.2.2.2.2.2.2.2.1 j hj).1; have h2 := (hV7).size; have h3 := hb0.size; have h4 := hB.size; omega) (by have h1 := hB.size; have h2 := (hV7).size; have h3 := hb0.size; omega) (V).heap.size 1 g0 44;rw [Hm.out] at hv';subst hv';have HR := zB (zC hP' (zC hSR (zC hfr hb0)));have Hra := zB ra;clear hP' hSR hfr hb0 g0 ra
       go_wp2_with (at_builtin; refine yW rfl (yM (.tmp 44) (.tmp 49) 44 44 rfl Hra.out) ?_)
       refine ⟨⟨i + 1, true, rfl, by simp, ?_, by have := HH.out.2.2.2.2.2.2.2.1; omega, ds ++ [p], us ++ [_], HR.out.1, ?_, by show (ds ++ [p]).length <= i + 1 + 1; have : ds.length <= i + 1 := HK.out.2.2.1; rw [List.length_append, List.length_singleton]; omega⟩, ?_⟩
       . have h0 := hB.trans (hV7.mono hB.size);have h1 := h0.trans (HR.out.2.2.2.mono h0.size);refine sV h1 (HR.out.2.1.ext.mono (S' := λ k => (Value.slice vao m vco).ownBlock = some k) λ k _ h => h.elim λ j h => h.elim λ y h => h.1) h1.size λ j hj => (HK.out.1.row.lt j hj).1
       . rw [<- HK.out.2.1]
         conv => rhs; unfold putF
         rw [if_neg hk, if_neg (by simp), List.append_assoc];rfl
       . show n - ((i : Int) + 1).toNat < n - (i : Int).toNat;omega
      | false =>
       have HZ := zB λ (V : World) (hV : Below wr.heap.size wr V) => below_any (.slice a1 c.key.length c1) (.slice a3 p.1.length c3) c.key p.1 V (HK.out.2.2.2.2.2.2.2.2.2.2.2.1.key.below hV) (HK.out.2.2.2.2.1.below hV) (by have := HK.out.2.2.2.2.2.2.2.2.2.2.2.1.kl; omega) (by have := HK.out.2.2.2.2.2.2.2.2.1; omega)
       go_wp2_with fail
       refine zY (λ j => if j = 10 then some (λ v _ => v = .bool (klt c.key p.1)) else none) fol (by kernel_rfl) (λ V hV hh => ?_);clear hh;have q1 := zV hV ca;have q2 := zV hV k0
       repeat ((first | refine lxM ?_ | refine lxF ?_ | refine zM rfl ?_); simp only [zD])
       refine zW _ rfl (λ _ _ _ h _ => h) rfl (λ w1 hb1 hf1 => ?_) ?_
       . (unfold yE; go_simp; simp only [zN])
         refine (HZ.out _ (zF hU7 (zF hV hb1))).mono ?_;rintro e w' ⟨rfl, hB'⟩;exact ⟨_, rfl, hB', rfl⟩
       rintro v10 V10 hB10 rfl;simp only [zD]
       repeat ((first | refine lxM ?_ | refine lxF ?_ | refine zM rfl ?_); simp only [zD])
       refine zZ ?_;have hV10 := zF hV hB10;have hV7 := zF hU7 hV10;have ca := zG hV10 ca;have cb := zG hV10 cb;clear k0 q1 q2 hV hB10 hV10 HZ
       cases hlt : klt c.key p.1 with
       | false =>
        have hlt' : ¬ (false = false /\ klt c.key p.1 = true) := λ h => by rw [hlt] at h; cases h.2
        have Hlt := zB hlt';clear hlt hlt';have hb0 := zQ V10 (.cells #[.slice a3 p.1.length c3, .slice a4 p.2.length c4] 58);have g0 := World.alloc_heap_new V10 (.cells #[.slice a3 p.1.length c3, .slice a4 p.2.length c4] 58);obtain ⟨v', w', ra, hP', hSR, hfr, va', vc', hv'⟩ := (((HK.out.1.below hV7)).below hb0).app (by (exact HK.out.2.2.2.2.2.2.2.2.2.2.2.2)) p (.slice a3 p.1.length c3, .slice a4 p.2.length c4) ((HK.out.2.2.2.2.1.below hV7).below hb0) ((HK.out.2.2.2.2.2.1.below hV7).below hb0) (λ j hj => ⟨λ e => by have h1 := (HK.out.2.2.2.2.2.2.2.1 j hj).1; have h2 := (((HK.out.1.below hV7)).row.lt j e).1; omega, (HK.out.2.2.2.2.2.2.2.1 j hj).2⟩) (λ j hj => by have h1 := (HK.out.2.2.2.2.2.2.2.1 j hj).1; have h2 := (hV7).size; have h3 := hb0.size; have h4 := hB.size; omega) (by have h1 := hB.size; have h2 := (hV7).size; have h3 := hb0.size; omega) (V10).heap.size 1 g0 44;rw [Hm.out] at hv';subst hv';have HR := zB (zC hP' (zC hSR (zC hfr hb0)));have Hra := zB ra;clear hP' hSR hfr hb0 g0 ra
        go_wp2_with (at_builtin; refine yW rfl (yM (.tmp 44) (.tmp 49) 44 44 rfl Hra.out) ?_)
        refine ⟨⟨i + 1, false, rfl, by simp, ?_, by have := HH.out.2.2.2.2.2.2.2.1; omega, ds ++ [p], us ++ [_], HR.out.1, ?_, by show (ds ++ [p]).length <= i + 1 + 0; have : ds.length <= i + 0 := HK.out.2.2.1; rw [List.length_append, List.length_singleton]; omega⟩, ?_⟩
        . have h0 := hB.trans (hV7.mono hB.size);have h1 := h0.trans (HR.out.2.2.2.mono h0.size);refine sV h1 (HR.out.2.1.ext.mono (S' := λ k => (Value.slice vao m vco).ownBlock = some k) λ k _ h => h.elim λ j h => h.elim λ y h => h.1) h1.size λ j hj => (HK.out.1.row.lt j hj).1
        . rw [<- HK.out.2.1]
          conv => rhs; unfold putF
          rw [if_neg hk, if_neg Hlt.out, List.append_assoc];rfl
        . show n - ((i : Int) + 1).toNat < n - (i : Int).toNat;omega
       | true =>
        have Hlt := zB hlt;clear hlt
        go_wp2_with fail
        have hbxV := zK hV7 HK.out.2.2.2.2.2.2.2.2.2.2.1;have j0 : (V10).cell? ⟨w.heap.size, 0, none⟩ = some (.slice a1 c.key.length c1) := yV hbxV 0 _ rfl;have j1 : (V10).cell? ⟨w.heap.size, 1, none⟩ = some (.slice a2 c.value.length c2) := yV hbxV 1 _ rfl;have j2 : (V10).cell? ⟨w.heap.size, 2, none⟩ = some (.int .i64 c.long) := yV hbxV 2 _ rfl;have j3 : (V10).cell? ⟨w.heap.size, 3, none⟩ = some (.int .u8 c.fill) := yV hbxV 3 _ rfl;have j4 : (V10).cell? ⟨w.heap.size, 4, none⟩ = some (.bool c.gone) := yV hbxV 4 _ rfl;have HCV := zB (HK.out.2.2.2.2.2.2.2.2.2.2.2.1.below hV7);clear hbxV;refine xJ (vF λ _ _ _ => False) 8 [] (λ j => if j = 4 then some (λ _ v w' => w'.ownsRow (V10).heap.size 5 1 v c.val.length (u8s c.val)) else if j = 6 then some (λ sn v w' => ∃ g2, v = .slice (some ⟨g2, 0, none⟩) 1 1 /\ (V10).heap.size <= g2 /\ ∀ x y, sn 41 = .agg #[x, y] -> w'.heap[g2]? = some (.cells #[x, y] 58 (0, 0))) else none) (λ _ => True) (λ _ _ => True) fol (by kernel_rfl) (λ _ _ _ _ _ => trivial) (λ U8 hU8 hh => ?_);clear hh;have q0 := uJ (S := λ _ _ _ => False) (zG hU8 j0) (λ _ _ h => h);have q1 := uJ (S := λ _ _ _ => False) (zG hU8 j1) (λ _ _ h => h);have q2 := uJ (S := λ _ _ _ => False) (zG hU8 j2) (λ _ _ h => h);have q3 := uJ (S := λ _ _ _ => False) (zG hU8 j3) (λ _ _ h => h);have q4 := uJ (S := λ _ _ _ => False) (zG hU8 j4) (λ _ _ h => h);simp only [fT]
        repeat ((first | refine rxM ?_ | refine rxF ?_ | (refine vA (by first | exact .inl rfl | exact .inr rfl) rfl ?_)); simp only [zD])
        refine xV _ rfl (λ v x1 x2 h hr => yL.owns hr h λ _ _ _ _ hs => hs.elim) rfl (λ x1 hr1 hf1 => ?_) (λ v4 x4 hr4 hS4 => ?_)
        . (unfold yE; go_simp; simp only [zN])
          refine (lF c _ _ _ (HCV.out.below (zF hU8 (yG hr1)))).mono ?_;rintro e w' ⟨u, rfl, ho, hB'⟩;have hsz := (zF hU8 (yG hr1)).size;exact ⟨_, rfl, yL.of_below hB', yC ho λ k hk => by have := (ho.lt k hk).1; omega⟩
        obtain ⟨a8, c8, rfl, -⟩ := zP hS4;simp only [zD]
        repeat ((first | refine rxM ?_ | refine rxF ?_ | (refine vA (by first | exact .inl rfl | exact .inr rfl) rfl ?_)); simp only [zD])
        refine xV _ rfl (λ v x1 x2 ⟨g2, e, h1, h2⟩ hr => ⟨g2, e, h1, λ x y hxy => yL.heap hr (h2 x y hxy) λ _ _ h => h⟩) rfl (λ x1 hr1 hf1 => ?_) (λ v6 x6 hr6 hS6 => ?_)
        . rw [uQ (t := 41) (v := .agg #[.slice a1 c.key.length c1, .slice a8 c.val.length c8]) ?s1 ?s2]
          case s1 => exact .inl (by decide)
          case s2 => rfl
          have hz1 := (zF hU8 (yG hr1)).size;exact xT (xO 44 1 (.tmp 41) rfl (build_pair _ _ _ _ _ _ x1)) ⟨yL.of_below (zQ _ _), x1.heap.size, rfl, hz1, λ x y hxy => by
           injection hxy with hxy;have hx1 := congrArg (·[0]?) hxy;have hx2 := congrArg (·[1]?) hxy;simp at hx1 hx2;subst hx1 hx2;exact World.alloc_heap_new _ _⟩
        rw [uQ (t := 41) (v := .agg #[.slice a1 c.key.length c1, .slice a8 c.val.length c8]) ?s1 ?s2] at hS6
        case s1 => exact .inl (by decide)
        case s2 => rfl
        obtain ⟨g6, rfl, hg6, hc6⟩ := hS6;have hc6 := hc6 _ _ rfl;simp only [zD];have hW6 := zF hU8 (zF (yG hr4) (yG hr6));have hW7 := zF hV7 hW6;have hw1 := HH.out.2.2.2.2.2.2.2.2.2.1.size;have hwr := hB.size;have hw7 := (hV7).size;have hw6 := hW6.size;have hw4 := (yG hr6).size;obtain ⟨v', w', ra, hP', hSR, hfr, va', vc', hv'⟩ := (HK.out.1.below hW7).app HK.out.2.2.2.2.2.2.2.2.2.2.2.2 (c.key, c.val) (.slice a1 c.key.length c1, .slice a8 c.val.length c8) (HCV.out.key.below hW6) (Src.of_owns (yL.owns hr6 hS4 λ _ _ _ _ hs => hs.elim)) (λ j hj => by
         rcases hj with hj | hj
         . have h1 := HH.out.2.2.2.2.2.2.2.2.1 j hj;exact ⟨λ e => by have := (HK.out.1.row.lt j e).1; omega, HH.out.2.2.2.2.1 j hj⟩
         . have hj := obk_own hj;have h1 := (hS4.lt j hj).1;exact ⟨λ e => by have := xD HK.out.1.row e; omega, λ e => by have := HH.out.2.2.2.1 j e; omega⟩) (λ j hj => by
         rcases hj with hj | hj
         . have h1 := HH.out.2.2.2.2.2.2.2.2.1 j hj;omega
         . have := xD hS4 (obk_own hj);omega) (by omega) g6 1 hc6 44
        rw [Hm.out] at hv';subst hv';have HR8 := zB (zC hP' (zC hSR (zC hfr hW7)));have Hra := zB ra;clear hP' hSR hfr ra hc6;refine sZ (λ v x => v = .slice va' (m + 1) vc' /\ x = w') _ rfl rfl ?_ ?_
        . exact xT (yM (.tmp 36) (.tmp 42) 44 44 rfl Hra.out) ⟨trivial, rfl, rfl⟩
        rintro v43 x43 - ⟨rfl, rfl⟩;simp only [zD];refine oJ ?_;have hX8 : Ext (λ k => (Value.slice vao m vco).ownBlock = some k) x6 x43 := HR8.out.2.1.ext.mono λ k _ h => h.elim λ j h => h.elim λ y h => h.1;have hno : ∀ j, j < w1.heap.size -> (Value.slice vao m vco).ownBlock ≠ some j := λ j hj e => by have := (HK.out.1.row.lt j e).1; omega
        have ca := hX8.cell_some (zG hW6 ca) (hno _ hglt);have cb := hX8.cell_some (zG hW6 cb) (hno _ hglt);have hsa := (HK.out.2.2.2.2.1.below hW7).ext hX8 λ j hj => hno j (HK.out.2.2.2.2.2.2.2.1 j (.inl hj)).1;have hsb := iJ (HK.out.2.2.2.2.2.1.below hW7) hX8 λ j hj => hno j (HK.out.2.2.2.2.2.2.2.1 j (.inr hj)).1;have hs8 := hX8.size;have HX8 := zB (zC hX8 (zC hsa hsb));clear q0 q1 q2 q3 q4 j0 j1 j2 j3 j4 hr4 hS4 hr6 hU8 hX8 hsa hsb;have hb0 := zQ x43 (.cells #[.slice a3 p.1.length c3, .slice a4 p.2.length c4] 58);have g0 := World.alloc_heap_new x43 (.cells #[.slice a3 p.1.length c3, .slice a4 p.2.length c4] 58);obtain ⟨v9, w9, ra, hP', hSR, hfr, va9, vc9, hv9⟩ := (HR8.out.1.below hb0).app (by have : ds.length <= i + 0 := HK.out.2.2.1; have := HH.out.2.2.2.2.2.1; rw [List.length_append, List.length_singleton]; omega) p (.slice a3 p.1.length c3, .slice a4 p.2.length c4) (HX8.out.2.1.below hb0) (HX8.out.2.2.below hb0) (λ j hj => ⟨λ e => by have h1 := (HK.out.2.2.2.2.2.2.2.1 j hj).1; have h2 := (HR8.out.1.row.lt j e).1; omega, (HK.out.2.2.2.2.2.2.2.1 j hj).2⟩) (λ j hj => by have h1 := (HK.out.2.2.2.2.2.2.2.1 j hj).1; have h3 := hb0.size; omega) (by have h3 := hb0.size; omega) x43.heap.size 1 g0 44;have hm1 : (ds ++ [(c.key, c.val)]).length = m + 1 := by rw [List.length_append, Hm.out]; rfl
        rw [hm1] at hv9;subst hv9;have HR := zB (zC hP' (zC hSR (zC hfr hb0)));have Hra := zB ra;have HW := zB (zC hW6 hW7);clear hP' hSR hfr hb0 g0 ra hm1 hW6 hW7 hno
        go_wp2_with (at_builtin; refine yW rfl (yM (.tmp 44) (.tmp 49) 44 44 rfl Hra.out) ?_)
        refine ⟨⟨i + 1, true, rfl, by simp, ?_, by have := HH.out.2.2.2.2.2.2.2.1; omega, _, _, HR.out.1, ?_, by show (ds ++ [(c.key, c.val)] ++ [p]).length <= i + 1 + 1; have : ds.length <= i + 0 := HK.out.2.2.1; rw [List.length_append, List.length_append, List.length_singleton, List.length_singleton]; omega⟩, ?_⟩
        . have h0 := hB.trans (HW.out.2.mono hB.size);have h1 := sV h0 HX8.out.1 h0.size λ j hj => (HK.out.1.row.lt j hj).1;have h2 := h1.trans (HR.out.2.2.2.mono h1.size);exact sV h2 (HR.out.2.1.ext.mono (S' := λ k => (Value.slice va' (m + 1) vc').ownBlock = some k) λ k _ h => h.elim λ j h => h.elim λ y h => h.1) h2.size λ j hj => (HR8.out.1.row.lt j hj).1
        . rw [<- HK.out.2.1]
          conv => rhs; unfold putF
          rw [if_neg hk, if_pos ⟨rfl, Hlt.out⟩, List.append_assoc, List.append_assoc];rfl
        . show n - ((i : Int) + 1).toNat < n - (i : Int).toNat;omega
  . have hi' : ¬ (i : Int) < (n : Int) := by omega
    have hd0 : ps.drop i = [] := List.drop_eq_nil_of_le (by have := HH.out.2.2.2.2.2.2.2.1; omega);rw [hd0] at heq;have hch : putF c.key c.val c.gone ps = chgP ps c.chg := iO (c := c.chg) HH.out.2.1;rw [hch] at heq;have hbx := zK hB HH.out.2.2.2.2.2.2.2.2.2.2;have hC := HH.out.2.2.1.below hB;have h20 := HH.out.2.2.2.2.2.1;have h8 := HH.out.2.2.2.2.2.2.2.1;have hdl' : ds.length <= 1048576 := by
     have hin1 : inn.toNat <= 1 := by cases inn <;> decide
     omega
    have HK := zB (zC hrow (zC heq (zC hdl (zC trivial (zC trivial (zC trivial (zC trivial (zC trivial (zC trivial (zC trivial (zC hbx (zC hC hdl'))))))))))));subst hvo;clear hrow heq hdl hbx hC hdl' hd0 hch h20 h8 b4
    cases inn with
    | true =>
     go_wp2_with fail
     go_ret
     have hds := HK.out.2.1;simp only [putF, if_true, List.append_nil] at hds;rw [<- hds];exact ⟨_, rfl, HK.out.1.prs λ j hj hFj => by have h1 := (HK.out.1.row.lt j hj).1; have h2 := HH.out.2.2.2.1 j hFj; have h3 := HH.out.2.2.2.2.2.2.2.2.2.1.size; omega, HH.out.2.2.2.2.2.2.2.2.2.1.trans (hB.mono HH.out.2.2.2.2.2.2.2.2.2.1.size)⟩
    | false =>
     go_wp2_with fail
     have hbxV := zK (Below.refl wr.heap.size wr) HK.out.2.2.2.2.2.2.2.2.2.2.1;have j0 : (wr).cell? ⟨w.heap.size, 0, none⟩ = some (.slice a1 c.key.length c1) := yV hbxV 0 _ rfl;have j1 : (wr).cell? ⟨w.heap.size, 1, none⟩ = some (.slice a2 c.value.length c2) := yV hbxV 1 _ rfl;have j2 : (wr).cell? ⟨w.heap.size, 2, none⟩ = some (.int .i64 c.long) := yV hbxV 2 _ rfl;have j3 : (wr).cell? ⟨w.heap.size, 3, none⟩ = some (.int .u8 c.fill) := yV hbxV 3 _ rfl;have j4 : (wr).cell? ⟨w.heap.size, 4, none⟩ = some (.bool c.gone) := yV hbxV 4 _ rfl;have HCV := zB (HK.out.2.2.2.2.2.2.2.2.2.2.2.1.below (Below.refl wr.heap.size wr));clear hbxV;refine xJ (vF λ _ _ _ => False) 8 [] (λ j => if j = 4 then some (λ _ v w' => w'.ownsRow (wr).heap.size 5 1 v c.val.length (u8s c.val)) else if j = 6 then some (λ sn v w' => ∃ g2, v = .slice (some ⟨g2, 0, none⟩) 1 1 /\ (wr).heap.size <= g2 /\ ∀ x y, sn 58 = .agg #[x, y] -> w'.heap[g2]? = some (.cells #[x, y] 58 (0, 0))) else none) (λ _ => True) (λ _ _ => True) fol (by kernel_rfl) (λ _ _ _ _ _ => trivial) (λ U8 hU8 hh => ?_);clear hh;have q0 := uJ (S := λ _ _ _ => False) (zG hU8 j0) (λ _ _ h => h);have q1 := uJ (S := λ _ _ _ => False) (zG hU8 j1) (λ _ _ h => h);have q2 := uJ (S := λ _ _ _ => False) (zG hU8 j2) (λ _ _ h => h);have q3 := uJ (S := λ _ _ _ => False) (zG hU8 j3) (λ _ _ h => h);have q4 := uJ (S := λ _ _ _ => False) (zG hU8 j4) (λ _ _ h => h);simp only [fT]
     repeat ((first | refine rxM ?_ | refine rxF ?_ | (refine vA (by first | exact .inl rfl | exact .inr rfl) rfl ?_)); simp only [zD])
     refine xV _ rfl (λ v x1 x2 h hr => yL.owns hr h λ _ _ _ _ hs => hs.elim) rfl (λ x1 hr1 hf1 => ?_) (λ v4 x4 hr4 hS4 => ?_)
     . (unfold yE; go_simp; simp only [zN])
       refine (lF c _ _ _ (HCV.out.below (zF hU8 (yG hr1)))).mono ?_;rintro e w' ⟨u, rfl, ho, hB'⟩;have hsz := (zF hU8 (yG hr1)).size;exact ⟨_, rfl, yL.of_below hB', yC ho λ k hk => by have := (ho.lt k hk).1; omega⟩
     obtain ⟨a8, c8, rfl, -⟩ := zP hS4;simp only [zD]
     repeat ((first | refine rxM ?_ | refine rxF ?_ | (refine vA (by first | exact .inl rfl | exact .inr rfl) rfl ?_)); simp only [zD])
     refine xV _ rfl (λ v x1 x2 ⟨g2, e, h1, h2⟩ hr => ⟨g2, e, h1, λ x y hxy => yL.heap hr (h2 x y hxy) λ _ _ h => h⟩) rfl (λ x1 hr1 hf1 => ?_) (λ v6 x6 hr6 hS6 => ?_)
     . rw [uQ (t := 58) (v := .agg #[.slice a1 c.key.length c1, .slice a8 c.val.length c8]) ?s1 ?s2]
       case s1 => exact .inl (by decide)
       case s2 => rfl
       have hz1 := (zF hU8 (yG hr1)).size;exact xT (xO 44 1 (.tmp 58) rfl (build_pair _ _ _ _ _ _ x1)) ⟨yL.of_below (zQ _ _), x1.heap.size, rfl, hz1, λ x y hxy => by
        injection hxy with hxy;have hx1 := congrArg (·[0]?) hxy;have hx2 := congrArg (·[1]?) hxy;simp at hx1 hx2;subst hx1 hx2;exact World.alloc_heap_new _ _⟩
     rw [uQ (t := 58) (v := .agg #[.slice a1 c.key.length c1, .slice a8 c.val.length c8]) ?s1 ?s2] at hS6
     case s1 => exact .inl (by decide)
     case s2 => rfl
     obtain ⟨g6, rfl, hg6, hc6⟩ := hS6;have hc6 := hc6 _ _ rfl;simp only [zD];have hW6 := zF hU8 (zF (yG hr4) (yG hr6));have hW7 := zF (Below.refl wr.heap.size wr) hW6;have hw1 := HH.out.2.2.2.2.2.2.2.2.2.1.size;have hwr := hB.size;have hw7 := ((Below.refl wr.heap.size wr)).size;have hw6 := hW6.size;have hw4 := (yG hr6).size;obtain ⟨v', w', ra, hP', hSR, hfr, va', vc', hv'⟩ := (HK.out.1.below hW7).app HK.out.2.2.2.2.2.2.2.2.2.2.2.2 (c.key, c.val) (.slice a1 c.key.length c1, .slice a8 c.val.length c8) (HCV.out.key.below hW6) (Src.of_owns (yL.owns hr6 hS4 λ _ _ _ _ hs => hs.elim)) (λ j hj => by
      rcases hj with hj | hj
      . have h1 := HH.out.2.2.2.2.2.2.2.2.1 j hj;exact ⟨λ e => by have := (HK.out.1.row.lt j e).1; omega, HH.out.2.2.2.2.1 j hj⟩
      . have hj := obk_own hj;have h1 := (hS4.lt j hj).1;exact ⟨λ e => by have := xD HK.out.1.row e; omega, λ e => by have := HH.out.2.2.2.1 j e; omega⟩) (λ j hj => by
      rcases hj with hj | hj
      . have h1 := HH.out.2.2.2.2.2.2.2.2.1 j hj;omega
      . have := xD hS4 (obk_own hj);omega) (by omega) g6 1 hc6 44
     rw [Hm.out] at hv';subst hv';have HR8 := zB (zC hP' (zC hSR (zC hfr hW7)));have Hra := zB ra;clear hP' hSR hfr ra hc6;refine sZ (λ v x => v = .slice va' (m + 1) vc' /\ x = w') _ rfl rfl ?_ ?_
     . exact xT (yM (.tmp 53) (.tmp 59) 44 44 rfl Hra.out) ⟨trivial, rfl, rfl⟩
     rintro v43 x43 - ⟨rfl, rfl⟩;simp only [zD];refine oJ ?_;have hX8 : Ext (λ k => (Value.slice vao m vco).ownBlock = some k) x6 x43 := HR8.out.2.1.ext.mono λ k _ h => h.elim λ j h => h.elim λ y h => h.1;have HX8 := zB (zC hX8 hW7);clear q0 q1 q2 q3 q4 j0 j1 j2 j3 j4 hr4 hS4 hr6 hU8 hX8 hW6 hW7
     go_wp2_with fail
     go_ret
     have hds := HK.out.2.1;simp only [putF, if_false, Bool.false_eq_true] at hds;rw [<- hds];refine ⟨_, rfl, HR8.out.1.prs λ j hj hFj => by have h1 := (HR8.out.1.row.lt j hj).1; have h2 := HH.out.2.2.2.1 j hFj; omega, ?_⟩;have h0 := hB.trans (HX8.out.2.mono hB.size);have h1 := sV h0 HX8.out.1 h0.size λ j hj => (HK.out.1.row.lt j hj).1;exact HH.out.2.2.2.2.2.2.2.2.2.1.trans (h1.mono HH.out.2.2.2.2.2.2.2.2.2.1.size)
def qW (w : World) (F : Nat -> Prop) (v : Value) (cs : List TChg) : Prop := ∃ a cap, v = .slice a cs.length cap /\ ∀ i c, cs[i]? = some c ->
 ∃ g o ka va, a = some ⟨g, o, none⟩ /\ w.cell? ⟨g, o + i * 5, none⟩ = some ka /\ w.cell? ⟨g, o + i * 5 + 1, none⟩ = some va /\ w.cell? ⟨g, o + i * 5 + 2, none⟩ = some (.int .i64 c.long) /\ w.cell? ⟨g, o + i * 5 + 3, none⟩ = some (.int .u8 c.fill) /\
  w.cell? ⟨g, o + i * 5 + 4, none⟩ = some (.bool c.gone) /\ TChgV c ka va w /\ ¬ F g /\ ∀ j, obk ka = some j \/ obk va = some j -> j < w.heap.size /\ ¬ F j
theorem qW.ext {w w' : World} {F S : Nat -> Prop} {v : Value} {cs : List TChg} (h : qW w F v cs) (hX : Ext S w w') (hS : ∀ j, S j -> F j) : qW w' F v cs := by
 obtain ⟨a, cap, rfl, h⟩ := h;refine ⟨a, cap, rfl, λ i c hc => ?_⟩;obtain ⟨g, o, ka, va, rfl, h1, h2, h3, h4, h5, h6, h7, h8⟩ := h i c hc;have hg : ¬ S g := λ e => h7 (hS _ e);exact ⟨g, o, ka, va, rfl, hX.cell_some h1 hg, hX.cell_some h2 hg, hX.cell_some h3 hg, hX.cell_some h4 hg, hX.cell_some h5 hg, ⟨h6.key.ext hX λ j hj e => (h8 j (.inl hj)).2 (hS _ e), h6.val.ext hX λ j hj e => (h8 j (.inr hj)).2 (hS _ e), h6.kb, h6.vb, h6.long, h6.fill, h6.kl, h6.vl⟩, h7, λ j hj => ⟨Nat.lt_of_lt_of_le (h8 j hj).1 hX.size, (h8 j hj).2⟩⟩
theorem qW.below {w w' : World} {F : Nat -> Prop} {v : Value} {cs : List TChg} (h : qW w F v cs) (hb : Below w.heap.size w w') : qW w' F v cs :=
 h.ext (S := λ _ => False) (Ext.of_below hb) λ _ e => e.elim
theorem qW.mono {w : World} {F G : Nat -> Prop} {v : Value} {cs : List TChg} (h : qW w F v cs) (hF : ∀ j, G j -> F j \/ w.heap.size <= j) : qW w G v cs := by
 obtain ⟨a, cap, rfl, h⟩ := h;refine ⟨a, cap, rfl, λ i c hc => ?_⟩;obtain ⟨g, o, ka, va, rfl, h1, h2, h3, h4, h5, h6, h7, h8⟩ := h i c hc;have hg := block_lt_of_cell h1;have hno : ∀ j, j < w.heap.size -> ¬ F j -> ¬ G j := λ j hj hf hG => (hF j hG).elim hf λ e => by omega
 exact ⟨g, o, ka, va, rfl, h1, h2, h3, h4, h5, h6, hno g hg h7, λ j hj => ⟨(h8 j hj).1, hno j (h8 j hj).1 (h8 j hj).2⟩⟩
theorem qW.at {w : World} {F : Nat -> Prop} {a : Option Addr} {n cap : Nat} {cs : List TChg} (h : qW w F (.slice a n cap) cs) {i : Nat} {c : TChg} (hc : cs[i]? = some c) :
 ∃ g o ka va, a = some ⟨g, o, none⟩ /\ w.cell? ⟨g, o + i * 5, none⟩ = some ka /\ w.cell? ⟨g, o + i * 5 + 1, none⟩ = some va /\ w.cell? ⟨g, o + i * 5 + 2, none⟩ = some (.int .i64 c.long) /\ w.cell? ⟨g, o + i * 5 + 3, none⟩ = some (.int .u8 c.fill) /\
 w.cell? ⟨g, o + i * 5 + 4, none⟩ = some (.bool c.gone) /\ TChgV c ka va w /\ ¬ F g /\ ∀ j, obk ka = some j \/ obk va = some j -> j < w.heap.size /\ ¬ F j := by
 obtain ⟨a', cap', e, h⟩ := h;injection e with e1 e2 e3;subst e1;exact h i c hc
theorem kD {k v : List Int} : ∀ {inn : Bool} {l : List Pr} {q : Pr}, q ∈ putF k v inn l -> q = (k, v) \/ q ∈ l
 | inn, [], q, h => by
  unfold putF at h
  cases inn with
  | true => simp at h
  | false => simp at h; exact .inl h
 | inn, p :: l, q, h => by
  unfold putF at h
  split at h
  . exact (kD h).imp id λ h => List.mem_cons_of_mem _ h
  . split at h
    . rcases List.mem_cons.1 h with h | h
      . exact .inl h
      . rcases List.mem_cons.1 h with h | h
        . exact .inr (by rw [h]; exact List.mem_cons_self)
        . exact (kD h).imp id λ h => List.mem_cons_of_mem _ h
    . rcases List.mem_cons.1 h with h | h
      . exact .inr (by rw [h]; exact List.mem_cons_self)
      . exact (kD h).imp id λ h => List.mem_cons_of_mem _ h
theorem mP {k v : List Int} : ∀ (inn : Bool) (l : List Pr), (putF k v inn l).length <= l.length + 1
 | inn, [] => by unfold putF; cases inn <;> simp
 | inn, p :: l => by
  unfold putF
  split
  . have := mP (k := k) (v := v) inn l; simp; omega
  . split
    . have h1 : ∀ l : List Pr, (putF k v true l).length <= l.length := by
       intro l
       induction l with
       | nil => simp [putF]
       | cons q l ih =>
        unfold putF
        split
        . simp; omega
        . rw [if_neg (by simp)]; simp; omega
      have := h1 l; simp; omega
    . have := mP (k := k) (v := v) inn l; simp; omega
theorem rise_chg1 {ps : List Pr} {c : Chg} (h : yQ (zS ps)) : yQ (zS (chgP ps c)) := by
 unfold chgP
 split
 . exact iM h
 . exact iL h
def vV (ps : List Pr) (cs : List TChg) : List Pr := (cs.map TChg.chg).foldl chgP ps
theorem doneP_succ {ps : List Pr} {cs : List TChg} {i : Nat} {c : TChg} (h : cs[i]? = some c) : vV ps (cs.take (i + 1)) = chgP (vV ps (cs.take i)) c.chg := by
 unfold vV;rw [List.take_add_one, h, Option.toList_some, List.map_append, List.foldl_append];rfl
theorem val_len (c : TChg) (h : c.value.length <= 1048576) : c.val.length <= 1048576 := by
 unfold TChg.val
 split
 . exact h
 . rw [nA];have := lL c.long (show (0 : Int) <= 1100 by decide);omega
structure nY (ps : List Pr) (n : Nat) : Prop where
 rise : yQ (zS ps)
 len : ps.length <= n
 small : ∀ p ∈ ps, p.1.length <= 1048576 /\ p.2.length <= 1048576
theorem nY.chg {ps : List Pr} {n : Nat} (h : nY ps n) {c : TChg} (hk : c.key.length <= 1048576) (hv : c.value.length <= 1048576) : nY (chgP ps c.chg) (n + 1) := by
 have e := iO (c := c.chg) h.rise;refine ⟨rise_chg1 h.rise, ?_, λ p hp => ?_⟩
 . rw [<- e];have := mP (k := c.chg.key) (v := c.chg.value) c.chg.gone ps;have := h.len;omega
 . rw [<- e] at hp;rcases kD hp with rfl | hp
   . exact ⟨hk, val_len c hv⟩
   . exact h.small p hp
theorem done_any (F : Nat -> Prop) (v vc : Value) (ps : List Pr) (cs : List TChg) (w : World) (N : Nat) (hp : vR w F v ps) (hok : nY ps N) (hc : qW w F vc cs) (hF : ∀ j, F j -> j < w.heap.size) (hN : N + cs.length <= 1048575) :
 Calls Tryz.prog 21 #[v, vc] w λ e w' => ∃ u, e = .returned u /\ vR w' F u (vV ps cs) /\ nY (vV ps cs) (N + cs.length) /\ Below w.heap.size w w' := by
 obtain ⟨a, cap, rfl, -⟩ := id hc;obtain ⟨n, hn⟩ : ∃ n, cs.length = n := ⟨_, rfl⟩;rw [hn] at hc hN ⊢;have HH := zB (zC hp (zC hok (zC hc (zC hF hn))));clear hp hok hc hF hn;go_enter Tryz.func21, Tryz.ntmps21
 go_wp2_with fail
 go_loopw [0, 5] (λ vl vi wr => ∃ i : Nat, vi = .int .i64 i /\ i <= n /\ vR wr F vl (vV ps (cs.take i)) /\ nY (vV ps (cs.take i)) (N + i) /\ Below w.heap.size w wr) (λ _ vi _ => n - (intOf vi).toNat)
 case atStart => exact ⟨0, rfl, Nat.zero_le _, HH.out.1, HH.out.2.1, Below.refl _ _⟩
 case round =>
  obtain ⟨i, rfl, hi, hpi, hoki, hB⟩ := hrel;by_cases hin : i < n
  . have hin' : (i : Int) < (n : Int) := by omega
    have hn20 : (i : Int) <= 1048576 := by omega
    obtain ⟨c, hci⟩ : ∃ c, cs[i]? = some c := ⟨_, List.getElem?_eq_getElem (by rw [HH.out.2.2.2.2]; exact hin)⟩;obtain ⟨g, o, ka, va, rfl, k1, k2, k3, k4, k5, k6, k7, k8⟩ := (HH.out.2.2.1.below hB).at hci;have hsz := hB.size;have HP := zB (kput_any F _ _ c ka va wr hpi hoki.rise k6 (λ j hj => by have := HH.out.2.2.2.1 j hj; omega) (λ j hj => k8 j (.inl hj)) (by have := hoki.len; omega) hoki.small);obtain ⟨b1, d1, hka, -⟩ := k6.key.shape;obtain ⟨b2, d2, hva, -⟩ := k6.val.shape;obtain ⟨b3, d3, hvl, -⟩ := id hpi;have hok2 := hoki.chg k6.kl k6.vl;rw [<- doneP_succ hci] at HP hok2;have HO := zB hok2;subst hka;subst hva;subst hvl;clear hpi hoki k6 k7 k8 hok2 hci
    go_wp2_with fail
    refine HP.out.mono ?_;rintro e w1 ⟨u, rfl, hP1, hB1⟩;have HR := zB (zC hP1 (hB.trans (hB1.mono hsz)));clear hP1 hB1 k1 k2 k3 k4 k5
    go_wp2_with fail
    refine ⟨⟨i + 1, by simp, by omega, HR.out.1, HO.out, HR.out.2⟩, ?_⟩;show n - ((i : Int) + 1).toNat < n - (i : Int).toNat;omega
  . obtain rfl : i = n := by omega
    have hi' : ¬ ((i : Int) < (i : Int)) := by omega
    have ht : cs.take i = cs := List.take_of_length_le (by rw [HH.out.2.2.2.2]; exact Nat.le_refl _);rw [ht] at hpi hoki;obtain ⟨b3, d3, hvl, -⟩ := id hpi;subst hvl;have HR := zB (zC hpi hoki);clear hpi hoki ht
    go_wp2_with fail
    go_ret
    exact ⟨_, rfl, HR.out.1, HR.out.2, hB⟩
def wB (cs : List TChg) : List Chg := cs.map TChg.chg
theorem rH (cs : List TChg) : (wB cs).length = cs.length := List.length_map ..
theorem bad_at {cs : List TChg} {i : Nat} {c : TChg} (h : cs[i]? = some c) (hg : c.chg.good = false) : badB (wB cs) := by
 refine .inr (List.any_eq_true.2 ⟨c.chg, ?_, by rw [hg]; rfl⟩);exact List.mem_map_of_mem (List.mem_of_getElem? h)
theorem good_step {cs : List TChg} {i : Nat} {c : TChg} (h : cs[i]? = some c) (hg : c.chg.good = true) (ih : ∀ d ∈ cs.take i, d.chg.good = true) : ∀ d ∈ cs.take (i + 1), d.chg.good = true := λ d hd => by
 rw [List.take_add_one, h] at hd;rcases List.mem_append.1 hd with hd | hd
 . exact ih d hd
 . simp at hd; subst hd; exact hg
theorem not_bad {cs : List TChg} (hn : cs.length <= 80) (h : ∀ d ∈ cs, d.chg.good = true) : ¬ badB (wB cs) := λ hb => by
 rcases hb with hb | hb
 . rw [rH] at hb; omega
 . obtain ⟨c, hc, hx⟩ := List.any_eq_true.1 hb;obtain ⟨d, hd, rfl⟩ := List.mem_map.1 hc;rw [h d hd] at hx
   cases hx
def goodC (cs : List TChg) : Bool := !decide (badB (wB cs))
theorem rV {cs : List TChg} (h : badB (wB cs)) : goodC cs = false := by unfold goodC; rw [decide_eq_true h]; rfl
theorem goodC_true {cs : List TChg} (h : ¬ badB (wB cs)) : goodC cs = true := by unfold goodC; rw [decide_eq_false h]; rfl
theorem tgood_any (F : Nat -> Prop) (vc : Value) (cs : List TChg) (w : World) (hc : qW w F vc cs) (hN : cs.length <= 1048575) :
 Calls Tryz.prog 22 #[vc] w λ e w' => e = .returned (.bool (goodC cs)) /\ Below w.heap.size w w' := by
 obtain ⟨a, cap, rfl, -⟩ := id hc;obtain ⟨n, hn⟩ : ∃ n, cs.length = n := ⟨_, rfl⟩;rw [hn] at hc hN ⊢;have HC := zB (zC hc hn);clear hc;by_cases h80 : 80 < n
 . have h80' : (80 : Int) < (n : Int) := by omega
   clear hn;go_enter Tryz.func22, Tryz.ntmps22
   go_wp2_with fail
   go_ret
   rw [rV (.inl (by rw [rH, HC.out.2]; exact h80))];exact ⟨rfl, Below.refl _ _⟩
 have h80' : ¬ (80 : Int) < (n : Int) := by omega
 clear hn;go_enter Tryz.func22, Tryz.ntmps22
 go_wp2_with fail
 go_loopw [3] (λ vi wr => ∃ i : Nat, vi = .int .i64 i /\ i <= n /\ (∀ d ∈ cs.take i, d.chg.good = true) /\ Below w.heap.size w wr) (λ vi _ => n - (intOf vi).toNat)
 case atStart => exact ⟨0, rfl, Nat.zero_le _, (λ d hd => by simp at hd), Below.refl _ _⟩
 case round =>
  obtain ⟨i, rfl, hi, hg, hB⟩ := hrel;by_cases hin : i < n
  . have hin' : (i : Int) < (n : Int) := by omega
    obtain ⟨c, hci⟩ : ∃ c, cs[i]? = some c := ⟨_, List.getElem?_eq_getElem (by rw [HC.out.2]; exact hin)⟩;obtain ⟨g, o, ka, va, rfl, k1, k2, k3, k4, k5, k6, -, -⟩ := (HC.out.1.below hB).at hci;obtain ⟨b1, d1, hka, -⟩ := k6.key.shape;obtain ⟨b2, d2, hva, -⟩ := k6.val.shape;rw [zH] at hka hva;have hb0 := zQ wr (.cells #[ka, va, .int .i64 c.long, .int .u8 c.fill, .bool c.gone] 54);have hBb := hB.trans (hb0.mono hB.size);have HV := zB (lF c ka va _ (k6.below hb0));have hkl := k6.kl;have hG : c.chg.good = (decide (0 < c.key.length) && decide (c.key.length <= 64) && (c.gone || decide (c.val.length <= 1024))) := rfl
    have HH := zB (zC hG (zC hci (zC hg hB)));have HBB := zB hBb;have hvl := val_len c k6.vl;obtain ⟨m, hm⟩ : ∃ m, c.key.length = m := ⟨_, rfl⟩;obtain ⟨vl, hvm⟩ : ∃ vl, c.val.length = vl := ⟨_, rfl⟩;rw [hm] at hka hkl;rw [hvm] at HV hvl;have HM := zB (zC hm hvm);subst hka hva;clear hci hg hG hB hb0 k6 hm hvm hBb;by_cases h1 : m < 1
    . have h1' : (m : Int) < 1 := by omega
      go_wp2_with fail
      go_ret
      rw [rV (bad_at HH.out.2.1 (by rw [HH.out.1, HM.out.1, decide_eq_false (by omega)]; rfl))];exact ⟨rfl, HBB.out⟩
    have h1' : ¬ (m : Int) < 1 := by omega
    by_cases h2 : 64 < m
    . have h2' : (64 : Int) < (m : Int) := by omega
      go_wp2_with fail
      go_ret
      rw [rV (bad_at HH.out.2.1 (by rw [HH.out.1, HM.out.1, decide_eq_false (show ¬ m <= 64 by omega), Bool.and_false]; rfl))];exact ⟨rfl, HBB.out⟩
    have h2' : ¬ (64 : Int) < (m : Int) := by omega
    cases hgo : c.gone with
    | true =>
     rw [hgo] at k5 HBB;have HGO := zB hgo;clear hgo
     go_wp2_with fail
     refine ⟨⟨i + 1, by simp, by omega, good_step HH.out.2.1 (by rw [HH.out.1, HM.out.1, HGO.out, decide_eq_true (show 0 < m by omega), decide_eq_true (show m <= 64 by omega)]; rfl) HH.out.2.2.1, HBB.out⟩, ?_⟩;show n - ((i : Int) + 1).toNat < n - (i : Int).toNat;omega
    | false =>
     rw [hgo] at k5 HV HBB;have HGO := zB hgo;clear hgo
     go_wp2_with fail
     refine HV.out.mono ?_;rintro e w1 ⟨u, rfl, hown, hB1⟩;obtain ⟨a3, c3, rfl, -⟩ := zP hown;have HB1 := zB (HBB.out.trans (hB1.mono HBB.out.size));clear hown hB1;by_cases h3 : 1024 < vl
     . have h3' : (1024 : Int) < (vl : Int) := by omega
       go_wp2_with fail
       go_ret
       rw [rV (bad_at HH.out.2.1 (by rw [HH.out.1, HM.out.2, HGO.out, decide_eq_false (show ¬ vl <= 1024 by omega), Bool.or_false, Bool.and_false]))];exact ⟨rfl, HB1.out⟩
     have h3' : ¬ (1024 : Int) < (vl : Int) := by omega
     go_wp2_with fail
     refine ⟨⟨i + 1, by simp, by omega, good_step HH.out.2.1 (by rw [HH.out.1, HM.out.1, HM.out.2, HGO.out, decide_eq_true (show 0 < m by omega), decide_eq_true (show m <= 64 by omega), decide_eq_true (show vl <= 1024 by omega)]; rfl) HH.out.2.2.1, HB1.out⟩, ?_⟩;show n - ((i : Int) + 1).toNat < n - (i : Int).toNat;omega
  . obtain rfl : i = n := by omega
    have hi' : ¬ ((i : Int) < (i : Int)) := by omega
    rw [List.take_of_length_le (by rw [HC.out.2]; exact Nat.le_refl _)] at hg;have HG := zB hg;clear hg
    go_wp2_with fail
    go_ret
    rw [goodC_true (not_bad (by rw [HC.out.2]; omega) HG.out)];exact ⟨rfl, hB⟩
theorem copy_new (w : World) (B b : Nat) (hown : w.ownsRow B 5 1 (.slice (some ⟨b, 0, none⟩) 0 0) 0 []) {u : Value} {ys : List Value} (hy : SrcE w u ys) (h1 : ∀ y ∈ ys, y.oneCell' = true) (hb : ys.length <= 549755813888) (hB : B <= w.heap.size) (ty : TypeId) :
 ∃ v' w', (Builtin.append_ #[52, 52] ty #[.slice (some ⟨b, 0, none⟩) 0 0, u]).run Tryz.prog w = .ok v' w' /\ Below w.heap.size w w' /\ w'.ownsRow B 5 1 v' ys.length ys := by
 obtain ⟨i0, hi, hz0, hz1, hz2⟩ := info_parts tR;rcases hy with (⟨g, o, c, rfl, -, hy⟩ | ⟨rfl, rfl⟩) | ⟨rfl, a, c, rfl⟩
 . rcases Nat.eq_zero_or_pos ys.length with h0 | h0
   . obtain rfl := List.eq_nil_of_length_eq_zero h0;obtain ⟨v', w', r1, r2, r3, -⟩ := sG (P := Tryz.prog) w B 52 ty 5 i0 (.int .u8 0) 1 1 xW hi hz0 hz1 hz2 rfl (by decide) _ 0 [] hown ⟨g, o, none⟩ 0 c [] rfl (λ j u hu => by simp at hu) (λ u hu => by cases hu) (by unfold maxLen; omega) (by omega) hB;exact ⟨v', w', r1, yG (r3.mono λ k j y ⟨_, _, h⟩ => by simp at h), r2⟩
   . have hms : ys.length <= maxLen := by unfold maxLen; omega
     have hr := run_append_grow (P := Tryz.prog) w 52 ty 5 i0 (.int .u8 0) xW hi hz0 ⟨b, 0, none⟩ 0 0 [] (by simp) (λ j v h => by simp at h) ⟨g, o, none⟩ ys.length c ys (by rw [hz1, Nat.mul_one]) (λ j u hu => by rw [Addr.add_lit]; exact hy j u hu) (by omega) (by omega) (by rw [Nat.zero_add]; exact growslice_fits (by omega) (by rw [hz2]; omega));rw [Nat.zero_add] at hr;have hge := grownCap_ge w ys.length 0 5;have hle := grownCap_le_maxLen w ys.length 0 5 hms;refine ⟨_, _, hr, (Below.refl _ w).drew.alloc (by simp) _, ?_⟩;refine sB (L := ys ++ (Builtin.zeroCells (Value.cells (.int .u8 0)) (grownCap w ys.length 0 5 - ys.length)).toList) ?_ ?_ hge hle ?_ hB
     . have := row_new w.drew (ys ++ (Builtin.zeroCells (Value.cells (.int .u8 0)) (grownCap w ys.length 0 5 - ys.length)).toList) 5;have e1 : (ys ++ (Builtin.zeroCells (Value.cells (.int .u8 0)) (grownCap w ys.length 0 5 - ys.length)).toList).toArray = ([] : List Value).toArray ++ ys.toArray ++ Builtin.zeroCells (Value.cells (.int .u8 0)) (grownCap w ys.length 0 5 - ys.length) := by
        apply Array.ext'; simp
       rw [e1] at this;exact this
     . simp only [List.length_append, Array.length_toList, size_zeroCells];simp only [Value.cells, List.size_toArray, List.length_cons, List.length_nil];omega
     . rw [List.take_append_of_le_length (by omega), List.take_of_length_le (by omega)]
 . exact ⟨_, w, run_append_owned_none (P := Tryz.prog) (w := w) B 52 ty 5 i0 1 xW hi _ 0 [] hown, Below.refl _ _, hown⟩
 . refine ⟨.slice (some ⟨b, 0, none⟩) 0 0, w, ?_, Below.refl _ _, hown⟩
   cases a <;> simp [Builtin.append_, run_underlying xW, sizeOf, typeInfo, hi, Builtin.lenOf, Builtin.firstCells, storeCells, loadCells, loadCellsFrom]
theorem build_chg (a : Option Addr) (n c : Nat) (a' : Option Addr) (n' c' : Nat) (b : Bool) (w : World) : (Instr.buildSlice 49 1 #[(0, .agg #[.slice a n c, .slice a' n' c', .bool b])]).run Tryz.prog w = .ok (.slice (some ⟨w.heap.size, 0, none⟩) 1 1) (w.alloc (.cells #[.slice a n c, .slice a' n' c', .bool b] 78)) := by
 kernel_rfl
theorem made_none (w : World) : (w.alloc (.cells #[] 5)).ownsRow w.heap.size 5 1 (.slice (some ⟨w.heap.size, 0, none⟩) 0 0) 0 [] := by
 have := World.ownsRow_made w #[] 0 (base := w.heap.size) (e := 5) (size := 1) (by simp) (Nat.zero_le _) rfl;simpa using this
theorem chgsOf_succ {cs : List TChg} {i : Nat} {c : TChg} (h : cs[i]? = some c) : wB (cs.take (i + 1)) = wB (cs.take i) ++ [c.chg] := by
 unfold wB;rw [List.take_add_one, h, List.map_append];rfl
theorem ours_any (F : Nat -> Prop) (vc : Value) (cs : List TChg) (w : World) (hc : qW w F vc cs) (hN : cs.length <= 1048575) (hw0 : 0 < w.heap.size) :
 Calls Tryz.prog 24 #[vc] w λ e w' => ∃ u, e = .returned u /\ qA w' w.heap.size 0 u (wB cs) /\ Below w.heap.size w w' := by
 obtain ⟨a, cap, rfl, -⟩ := id hc;obtain ⟨n, hn⟩ : ∃ n, cs.length = n := ⟨_, rfl⟩;rw [hn] at hc hN ⊢;have HC := zB (zC hc (zC hn hw0));clear hc hn hw0;go_enter Tryz.func24, Tryz.ntmps24
 go_wp2_with fail
 go_loopw [3, 4] (λ vl vi wr => ∃ i : Nat, vi = .int .i64 i /\ i <= n /\ qA wr w.heap.size 0 vl (wB (cs.take i)) /\ Below w.heap.size w wr) (λ _ vi _ => n - (intOf vi).toNat)
 case atStart => exact ⟨0, rfl, Nat.zero_le _, ⟨⟨[], ⟨rfl, .inl ⟨rfl, rfl⟩⟩, λ j c hc => (by cases hc)⟩, λ e => (by cases e)⟩, Below.refl _ _⟩
 case round =>
  obtain ⟨i, rfl, hi, hL, hB⟩ := hrel;have hll : (wB (cs.take i)).length = i := by rw [rH, List.length_take, HC.out.2.1]; omega
  obtain ⟨cells, hrow, -⟩ := id hL.row;rw [hll] at hrow;obtain ⟨b3, d3, rfl, -⟩ := zP hrow;clear hrow;by_cases hin : i < n
  . have hin' : (i : Int) < (n : Int) := by omega
    obtain ⟨c, hci⟩ : ∃ c, cs[i]? = some c := ⟨_, List.getElem?_eq_getElem (by rw [HC.out.2.1]; exact hin)⟩;obtain ⟨g, o, ka, va, rfl, k1, k2, k3, k4, k5, k6, -, -⟩ := (HC.out.1.below hB).at hci;obtain ⟨b1, d1, hka, -⟩ := k6.key.shape;obtain ⟨b2, d2, hva, -⟩ := k6.val.shape;rw [zH] at hka hva;have hkl := k6.kl;have hvl := val_len c k6.vl;have HK := zB (zC hL (zC hB (zC hci (zC hll (zC hkl hvl)))));have H6 := zB k6;subst hka hva;clear hL hB hci hll hkl hvl k6
    go_wp2_with fail
    refine xJ (vF λ _ _ _ => False) 21 [] (λ j => if j = 1 then some (λ _ v w' => w'.ownsRow wr.heap.size 5 1 v 0 [] /\ ∃ g2, v = .slice (some ⟨g2, 0, none⟩) 0 0) else if j = 7 then some (λ _ v w' => w'.ownsRow wr.heap.size 5 1 v c.key.length (u8s c.key)) else if j = 12 then some (λ _ v w' => w'.ownsRow wr.heap.size 5 1 v c.val.length (u8s c.val)) else if j = 19 then some (λ sn v w' => ∃ g2, v = .slice (some ⟨g2, 0, none⟩) 1 1 /\ wr.heap.size <= g2 /\ ∀ x y z, sn 29 = .agg #[x, y, z] -> w'.heap[g2]? = some (.cells #[x, y, z] 78 (0, 0))) else none) (λ _ => True) (λ _ _ => True) fol (by kernel_rfl) (λ _ _ _ _ _ => trivial) (λ U hU hh => ?_);clear hh;have q1 := uJ (S := λ _ _ _ => False) (zG hU k1) (λ _ _ h => h);have q2 := uJ (S := λ _ _ _ => False) (zG hU k2) (λ _ _ h => h);have q3 := uJ (S := λ _ _ _ => False) (zG hU k3) (λ _ _ h => h);have q4 := uJ (S := λ _ _ _ => False) (zG hU k4) (λ _ _ h => h);have q5 := uJ (S := λ _ _ _ => False) (zG hU k5) (λ _ _ h => h);have hszU := hU.size;simp only [fT]
    repeat ((first | refine rxM ?_ | refine rxF ?_ | (refine vA (by first | exact .inl rfl | exact .inr rfl) rfl ?_)); simp only [zD])
    refine xV _ rfl (λ v x1 x2 h hr => ⟨yL.owns hr h.1 λ _ _ _ _ hs => hs.elim, h.2⟩) rfl (λ x1 hr1 hf1 => ?_) (λ v1 x1 hr1 hS1 => ?_)
    . (unfold yE; go_simp; simp only [zN])
      have hz := (zF hU (yG hr1)).size;exact ⟨yL.of_below (zQ _ _), yC (made_none x1) λ k hk => by have := (made_none x1).lt k hk; omega, _, rfl⟩
    obtain ⟨ho1, e1, rfl⟩ := hS1;simp only [zD]
    repeat ((first | refine rxM ?_ | refine rxF ?_ | (refine vA (by first | exact .inl rfl | exact .inr rfl) rfl ?_)); simp only [zD])
    refine xV _ rfl (λ v x1 x2 h hr => yL.owns hr h λ _ _ _ _ hs => hs.elim) rfl (λ x7 hr7 hf7 => ?_) (λ v7 x7 hr7 hS7 => ?_)
    . have h1 : x7.ownsRow wr.heap.size 5 1 (.slice (some ⟨e1, 0, none⟩) 0 0) 0 [] := (hf7 12 (.inl (by decide)) (by simp)).1;have hz := (zF hU (yG hr7)).size;obtain ⟨v', w', r1, hb, ho⟩ := copy_new x7 wr.heap.size e1 h1 (H6.out.key.below (zF hU (yG hr7))) (yU _) (by rw [zH]; have := HK.out.2.2.2.2.1; omega) hz 52;rw [zH] at ho;exact xT (yM (.tmp 12) (.tmp 17) 52 52 rfl r1) ⟨yL.of_below hb, ho⟩
    obtain ⟨a7, c7, rfl, -⟩ := zP hS7;simp only [zD]
    repeat ((first | refine rxM ?_ | refine rxF ?_ | (refine vA (by first | exact .inl rfl | exact .inr rfl) rfl ?_)); simp only [zD])
    refine xV _ rfl (λ v x1 x2 h hr => yL.owns hr h λ _ _ _ _ hs => hs.elim) rfl (λ x12 hr12 hf12 => ?_) (λ v12 x12 hr12 hS12 => ?_)
    . (unfold yE; go_simp; simp only [zN])
      have hz := (zF hU (yG hr12)).size;refine (lF c _ _ _ (H6.out.below (zF hU (yG hr12)))).mono ?_;rintro e w' ⟨u, rfl, ho, hB'⟩;exact ⟨_, rfl, yL.of_below hB', yC ho λ k hk => by have := (ho.lt k hk).1; omega⟩
    obtain ⟨a12, c12, rfl, -⟩ := zP hS12;simp only [zD]
    repeat ((first | refine rxM ?_ | refine rxF ?_ | (refine vA (by first | exact .inl rfl | exact .inr rfl) rfl ?_)); simp only [zD])
    refine xV _ rfl (λ v x1 x2 ⟨g2, e, h1, h2⟩ hr => ⟨g2, e, h1, λ x y z hxy => yL.heap hr (h2 x y z hxy) λ _ _ h => h⟩) rfl (λ x19 hr19 hf19 => ?_) (λ v19 x19 hr19 hS19 => ?_)
    . rw [uQ (t := 29) (v := .agg #[.slice a7 c.key.length c7, .slice a12 c.val.length c12, .bool c.gone]) ?s1 ?s2]
      case s1 => exact .inl (by decide)
      case s2 => rfl
      have hz1 := (zF hU (yG hr19)).size;exact xT (xO 49 1 (.tmp 29) rfl (build_chg _ _ _ _ _ _ _ x19)) ⟨yL.of_below (zQ _ _), x19.heap.size, rfl, hz1, λ x y z hxy => by
       injection hxy with hxy;have hx1 := congrArg (·[0]?) hxy;have hx2 := congrArg (·[1]?) hxy;have hx3 := congrArg (·[2]?) hxy;simp at hx1 hx2 hx3;subst hx1 hx2 hx3;exact World.alloc_heap_new _ _⟩
    rw [uQ (t := 29) (v := .agg #[.slice a7 c.key.length c7, .slice a12 c.val.length c12, .bool c.gone]) ?s1 ?s2] at hS19
    case s1 => exact .inl (by decide)
    case s2 => rfl
    obtain ⟨g19, rfl, hg19, hc19⟩ := hS19;have hc19 := hc19 _ _ _ rfl;simp only [zD];have hW19 := zF hU (zF (yG hr1) (zF (yG hr7) (zF (yG hr12) (yG hr19))));have hwr := HK.out.2.1.size;have hz19 := hW19.size;have hk7 := (yL.owns hr19 (yL.owns hr12 hS7 λ _ _ _ _ hs => hs.elim) λ _ _ _ _ hs => hs.elim);have hk12 := (yL.owns hr19 hS12 λ _ _ _ _ hs => hs.elim);obtain ⟨v', w', ra, hL', hX', hfr, va', vc', hv'⟩ := (HK.out.1.below hW19).app (by rw [HK.out.2.2.2.1]; omega) c.chg (.slice a7 c.key.length c7) (.slice a12 c.val.length c12) (Src.of_owns hk7) (Src.of_owns hk12) (λ j hj => by
     have hj2 : wr.heap.size <= j /\ j < x19.heap.size := hj.elim (hk7.lt j) (hk12.lt j);refine ⟨by omega, hj2.2, by have := HC.out.2.2; omega, λ e => ?_⟩;obtain ⟨cells', hrow', -⟩ := HK.out.1.row;have := (hrow'.lt j e).2;omega) (by have := HC.out.2.2; omega) (by omega) g19 1 hc19 49
    rw [HK.out.2.2.2.1] at hv';subst hv';have HR := zB (zC hL' (zC hX' hW19));have Hra := zB ra;clear hL' hX' ra hc19 hS7 hS12 hk7 hk12;refine sZ (λ v x => v = .slice va' (i + 1) vc' /\ x = w') _ rfl rfl ?_ ?_
    . exact xT (yM (.tmp 11) (.tmp 30) 49 49 rfl Hra.out) ⟨trivial, rfl, rfl⟩
    rintro v43 x43 - ⟨rfl, rfl⟩;simp only [zD];refine oJ ?_;clear q1 q2 q3 q4 q5 hr1 hr7 hr12 hr19 hU
    go_wp2_with fail
    refine ⟨⟨i + 1, by simp, by omega, ?_, ?_⟩, ?_⟩
    . rw [chgsOf_succ HK.out.2.2.1];exact HR.out.1
    . have h0 := HK.out.2.1.trans (HR.out.2.2.mono hwr);exact sV h0 HR.out.2.1 h0.size λ j hj => by
       obtain ⟨cells', hrow', -⟩ := HK.out.1.row;exact (hrow'.lt j hj).1
    . show n - ((i : Int) + 1).toNat < n - (i : Int).toNat;omega
  . obtain rfl : i = n := by omega
    have hi' : ¬ ((i : Int) < (i : Int)) := by omega
    have ht : cs.take i = cs := List.take_of_length_le (by rw [HC.out.2.1]; exact Nat.le_refl _);rw [ht] at hL;have HL := zB hL;clear hL ht hll
    go_wp2_with fail
    go_ret
    exact ⟨_, rfl, HL.out, hB⟩
theorem und_prss : Tryz.prog.underlying 27 = some (.slice 44) := by kernel_rfl
theorem info_pairs : (Tryz.prog.info? 44).map (λ i => (i.zero, i.size, i.bytes)) = some (some (.slice none 0 0), 1, 24) := by kernel_rfl
theorem vR.one {w : World} {F : Nat -> Prop} {v : Value} {ps : List Pr} (h : vR w F v ps) : v.oneCell' = true := by
 obtain ⟨a, cap, rfl, -⟩ := h;rfl
theorem vR.shape {w : World} {F : Nat -> Prop} {v : Value} {ps : List Pr} (h : vR w F v ps) : ∃ a cap, v = .slice a ps.length cap := by
 obtain ⟨a, cap, rfl, -⟩ := h;exact ⟨a, cap, rfl⟩
structure rZ (w : World) (F : Nat -> Prop) (g o cap : Nat) (was : List (List Pr)) : Prop where
 block : ∃ cur, w.heap[g]? = some (.cells cur 44 (0, 0)) /\ o + cap <= cur.size
 le : was.length <= cap
 lim : cap <= maxLen
 at' : ∀ (j : Nat) (ps : List Pr), was[j]? = some ps -> ∃ u, w.cell? ⟨g, o + j, none⟩ = some u /\ vR w (λ k => F k \/ k = g) u ps
 far : ¬ F g
theorem rZ.lt {w : World} {F : Nat -> Prop} {g o cap : Nat} {was : List (List Pr)} (h : rZ w F g o cap was) : g < w.heap.size := by
 obtain ⟨cur, h1, -⟩ := h.block;exact zI h1
theorem rZ.ext {w w' : World} {F S : Nat -> Prop} {g o cap : Nat} {was : List (List Pr)} (h : rZ w F g o cap was) (hX : Ext S w w') (hS : ∀ j, S j -> F j) : rZ w' F g o cap was := by
 obtain ⟨cur, h1, h2⟩ := h.block;refine ⟨⟨cur, hX.heap h1 λ e => h.far (hS _ e), h2⟩, h.le, h.lim, λ j ps hj => ?_, h.far⟩;obtain ⟨u, k1, k2⟩ := h.at' j ps hj;exact ⟨u, hX.cell_some k1 λ e => h.far (hS _ e), k2.ext hX λ j hj => .inl (hS j hj)⟩
theorem rZ.below {w w' : World} {F : Nat -> Prop} {g o cap : Nat} {was : List (List Pr)} (h : rZ w F g o cap was) (hb : Below w.heap.size w w') : rZ w' F g o cap was :=
 h.ext (S := λ _ => False) (Ext.of_below hb) λ _ e => e.elim
theorem rZ.mono {w : World} {F G : Nat -> Prop} {g o cap : Nat} {was : List (List Pr)} (h : rZ w F g o cap was) (hF : ∀ j, G j -> F j \/ w.heap.size <= j) : rZ w G g o cap was := by
 have hlt := h.lt;refine ⟨h.block, h.le, h.lim, λ j ps hj => ?_, λ e => (hF g e).elim h.far λ e => by omega⟩;obtain ⟨u, k1, k2⟩ := h.at' j ps hj;exact ⟨u, k1, k2.mono λ k hk => by
  rcases hk with hk | hk
  . exact (hF k hk).imp .inl id
  . exact .inl (.inr hk)⟩
theorem rZ.drop {w : World} {F : Nat -> Prop} {g o cap : Nat} {was : List (List Pr)} (h : rZ w F g o cap was) (n : Nat) (hn : n <= was.length) : rZ w F g (o + n) (cap - n) (was.drop n) := by
 obtain ⟨cur, h1, h2⟩ := h.block;have hle := h.le;have hlim := h.lim;refine ⟨⟨cur, h1, by omega⟩, by rw [List.length_drop]; omega, by omega, λ j ps hj => ?_, h.far⟩;rw [List.getElem?_drop] at hj;obtain ⟨u, k1, k2⟩ := h.at' _ ps hj;exact ⟨u, by rw [show o + n + j = o + (n + j) by omega]; exact k1, k2⟩
theorem rZ.one {w : World} {F : Nat -> Prop} {g : Nat} {u : Value} {ps : List Pr} (h : w.heap[g]? = some (.cells #[u] 44 (0, 0))) (hu : vR w (λ k => F k \/ k = g) u ps) (hF : ¬ F g) : rZ w F g 0 1 [ps] := by
 refine ⟨⟨_, h, Nat.le_refl 1⟩, Nat.le_refl _, by unfold maxLen; omega, λ j qs hj => ?_, hF⟩
 match j, hj with
 | 0, hj =>
  obtain rfl := Option.some.inj hj;exact ⟨u, yV h 0 _ rfl, hu⟩
theorem rZ.app {w : World} {F : Nat -> Prop} {g o cap : Nat} {was : List (List Pr)} (h : rZ w F g o cap was) (hn : was.length <= 549755813) {u : Value} {ps : List Pr} (hu : vR w (λ k => F k \/ k = g) u ps) {gb c : Nat} (hb : w.cell? ⟨gb, 0, none⟩ = some u) (hF : ∀ j, F j -> j < w.heap.size) (ty : TypeId) :
 ∃ g' o' cap' w', (Builtin.append_ #[27, 27] ty #[.slice (some ⟨g, o, none⟩) was.length cap, .slice (some ⟨gb, 0, none⟩) 1 c]).run Tryz.prog w = .ok (.slice (some ⟨g', o', none⟩) (was.length + 1) cap') w' /\ rZ w' F g' o' cap' (was ++ [ps]) /\ Ext (· = g) w w' /\ (g' = g \/ w.heap.size <= g') := by
 obtain ⟨i0, hi, hz0, hz1, hz2⟩ := info_parts info_pairs;obtain ⟨cur, h1, h2⟩ := h.block;have hle := h.le;have hlim := h.lim;by_cases hroom : was.length + 1 <= cap
 . have hcell : (w.cell? ⟨g, o + was.length, none⟩).isSome = true := by
    have : cur[o + was.length]? = some cur[o + was.length] := Array.getElem?_eq_getElem (by omega);rw [yV h1 _ _ this];rfl
   have hr := run_append_room_cells (P := Tryz.prog) w 27 ty 44 i0 und_prss hi g o was.length cap ⟨gb, 0, none⟩ 1 c [u] (by rw [hz1]; rfl) (λ j x hx => by
    match j, hx with
    | 0, hx => obtain rfl := Option.some.inj hx; exact hb) (λ x hx => by rw [List.mem_singleton.1 hx]; exact hu.one) hroom (λ j hj => by
    obtain rfl : j = 0 := by simp at hj; omega
    rw [hz1, Nat.mul_one]; exact hcell) (λ j hj => by simp [World.frozen?, h1])
   rw [hz1, Nat.mul_one] at hr;have e1 : w.setCells g (o + was.length) [u] = w.setCell ⟨g, o + was.length, none⟩ u := rfl;rw [e1] at hr;have hX : Ext (· = g) w (w.setCell ⟨g, o + was.length, none⟩ u) := Ext.setCell (S := (· = g)) (p := ⟨g, o + was.length, none⟩) rfl u;have hc := yB (j := o + was.length) h1 u;refine ⟨g, o, cap, _, hr, ⟨⟨_, hc, by rw [Array.size_setIfInBounds]; exact h2⟩, by rw [List.length_append]; exact hroom, hlim, λ j qs hj => ?_, h.far⟩, hX, .inl rfl⟩;rcases Nat.lt_or_ge j was.length with hl | hl
   . rw [List.getElem?_append_left hl] at hj;obtain ⟨x, k1, k2⟩ := h.at' j qs hj;refine ⟨x, ?_, k2.ext hX λ j hj => .inr hj⟩;have : cur[o + j]? = some x := by simpa [World.cell?, h1] using k1
     refine yV hc _ _ ?_;rw [Array.getElem?_setIfInBounds, if_neg (by omega)];exact this
   . have hjl := (List.getElem?_eq_some_iff.1 hj).1;rw [List.length_append, List.length_singleton] at hjl;obtain rfl : j = was.length := by omega
     rw [List.getElem?_append_right (Nat.le_refl _), Nat.sub_self] at hj;obtain rfl := Option.some.inj hj;refine ⟨u, ?_, hu.ext hX λ j hj => .inr hj⟩;refine yV hc _ _ ?_;rw [Array.getElem?_setIfInBounds, if_pos rfl, if_pos (by omega)]
 . have hpick : ∀ j : Nat, ∃ x, ∀ qs, was[j]? = some qs -> w.cell? ⟨g, o + j, none⟩ = some x /\ vR w (λ k => F k \/ k = g) x qs := λ j => by
    cases hj : was[j]? with
    | none => exact ⟨.nilFunc, λ qs h => by cases h⟩
    | some qs =>
     obtain ⟨x, k1, k2⟩ := h.at' j qs hj;exact ⟨x, λ q' e => by obtain rfl := Option.some.inj e; exact ⟨k1, k2⟩⟩
   obtain ⟨X, hX⟩ : ∃ X : Nat -> Value, ∀ j qs, was[j]? = some qs -> w.cell? ⟨g, o + j, none⟩ = some (X j) /\ vR w (λ k => F k \/ k = g) (X j) qs := ⟨λ j => (hpick j).choose, λ j => (hpick j).choose_spec⟩;have hol : ((List.range was.length).map X).length = was.length * 1 := by simp
   obtain ⟨v', w', hr, hown, hg⟩ := run_append_arg_grows (P := Tryz.prog) w 27 ty 44 i0 (.slice none 0 0) 1 24 und_prss hi hz0 hz1 hz2 rfl (by decide) ⟨g, o, none⟩ was.length cap ((List.range was.length).map X) hol (λ j x hx => by
    have hjl := (List.getElem?_eq_some_iff.1 hx).1;rw [hol, Nat.mul_one] at hjl;rw [List.getElem?_map, List.getElem?_range hjl] at hx;obtain rfl := Option.some.inj hx;rw [Addr.add_lit];exact (hX j _ (List.getElem?_eq_getElem hjl)).1) ⟨gb, 0, none⟩ 1 c [u] rfl (λ j x hx => by
    match j, hx with
    | 0, hx => obtain rfl := Option.some.inj hx; exact hb) (by omega) (by unfold maxLen; omega) (by omega)
   have hX2 : Ext (· = g) w w' := Ext.grown hg λ k hk _ => by cases hk
   obtain ⟨g', cap', e1, hg', hglt, hlc, hcm, hcell, -⟩ := xB hown (by omega);subst e1;have hrow := qJ hown;have hnF : ¬ F g' := λ e => by have := hF g' e; omega
   obtain ⟨-, hd⟩ := hown;rcases hd with ⟨hd, -⟩ | ⟨g2, cap2, cur2, e2, -, hh2, hn2, hm2, hs2, -⟩
   . cases hd
   injection e2 with e2 e3 e4;injection e2 with e2;injection e2 with e2;subst e2 e4;refine ⟨g', 0, cap', w', hr, ⟨⟨cur2, hh2, by omega⟩, by rw [List.length_append]; exact hlc, hcm, λ j qs hj => ?_, hnF⟩, hX2, .inr hg'⟩;have hmv : ∀ x, vR w (λ k => F k \/ k = g) x qs -> vR w' (λ k => F k \/ k = g') x qs := λ x hx => ((hx.mono (G := λ k => F k \/ k = g \/ k = g') λ k hk => by
    rcases hk with hk | hk | hk
    . exact .inl (.inl hk)
    . exact .inl (.inr hk)
    . exact .inr (by rw [hk]; exact hg')).ext hX2 λ j hj => .inr (.inl hj)).mono λ k hk => .inl (by
    rcases hk with hk | hk
    . exact .inl hk
    . exact .inr (.inr hk))
   rcases Nat.lt_or_ge j was.length with hl | hl
   . rw [List.getElem?_append_left hl] at hj;obtain ⟨k1, k2⟩ := hX j qs hj;refine ⟨X j, ?_, hmv _ k2⟩;rw [Nat.zero_add, hcell j (by omega), List.getElem?_append_left (by rw [hol]; omega), List.getElem?_map, List.getElem?_range hl];rfl
   . have hjl := (List.getElem?_eq_some_iff.1 hj).1;rw [List.length_append, List.length_singleton] at hjl;obtain rfl : j = was.length := by omega
     rw [List.getElem?_append_right (Nat.le_refl _), Nat.sub_self] at hj;obtain rfl := Option.some.inj hj;refine ⟨u, ?_, hmv _ hu⟩;rw [Nat.zero_add, hcell _ (by omega), List.getElem?_append_right (by rw [hol]; omega), hol, Nat.mul_one, Nat.sub_self];rfl
def Dsk.vers (x : Dsk) (N : Nat) : Prop := ∀ i, (x.cache i).length <= N
theorem goes_cache (x : Dsk) : (vJ x).cache = x.cache := (uI x).2.2.2
theorem vers_wrote {x : Dsk} {N : Nat} (h : x.vers N) (i : Int) (bs : List Int) : (uP x i bs).vers (N + 1) := λ j => by
 unfold uP;simp only;have := h j
 split
 . rename_i e; subst e; rw [List.length_append, List.length_singleton]; omega
 . omega
theorem vers_write {x : Dsk} {N : Nat} (h : x.vers N) (i : Nat) (bs : List Int) : (vP x i bs).vers (N + 1) := by
 have hg : (vJ x).vers N := λ j => by rw [goes_cache]; exact h j
 unfold vP
 split
 . exact vers_wrote hg _ _
 . exact λ j => Nat.le_succ_of_le (hg j)
theorem vers_appX {x : Dsk} {N first size n ep : Nat} {rec : List Int} (h : x.vers N) : ∀ j, (appX x first size n ep rec j).1.vers (N + j)
 | 0 => h
 | j + 1 => by
  have ih := vers_appX (first := first) (size := size) (n := n) (ep := ep) (rec := rec) h j;unfold appX
  split
  . rename_i y e; rw [e] at ih; exact vers_write ih _ _
  . rename_i y e; rw [e] at ih; exact λ i => Nat.le_succ_of_le (ih i)
theorem appendR_vers {x : Dsk} {N first size : Nat} {L : LogS} {rec : List Int} (h : x.vers N) : (yH x first size L rec).1.vers (N + 79) := by
 have hv : x.vers (N + 79) := λ i => Nat.le_trans (h i) (Nat.le_add_right _ _);have hn := mR rec.length;have h3 := vers_appX (first := first) (size := size) (n := L.next) (ep := L.head.epoch) (rec := rec) h (need rec.length);unfold yH
 split
 . exact hv
 . split
   . exact hv
   . split
     . exact hv
     . split
       . rename_i y e; rw [e] at h3; exact λ i => Nat.le_trans (h3 i) (by omega)
       . rename_i y e; rw [e] at h3; exact λ i => Nat.le_trans (h3 i) (by omega)
theorem vers_flush (x : Dsk) (N : Nat) : (vT x).vers N := λ _ => Nat.zero_le _
theorem lay_more {x : Dsk} (hw : x.wf) (on : x.on) {first size k : Nat} (h2 : 2 < size) (hf : first + size <= x.dur.length) (bs : List Int) (hk : k < 2) : (layX x (first + k) bs).vers 0 /\ oN first size x (layX x (first + k) bs) :=
 ⟨by rw [(on.lay _ _).1]; exact vers_flush _ _, λ i hi => by rw [lU hw on (by omega), if_neg (by omega)]⟩
theorem trim_more {x : Dsk} {first size : Nat} {L : LogS} (hw : x.wf) (on : x.on) (hv : x.vers 0) (h2 : 2 < size) (hf : first + size <= x.dur.length) (n : Nat) : (oK x first size L n).1.vers 0 /\ oN first size x (oK x first size L n).1 := by
 have h1 : ∀ (L : LogS) (h : Head), (qU x first size L h).vers 0 /\ oN first size x (qU x first size L h) := λ L h => by
  unfold qU turnI;exact lay_more hw on h2 hf _ (Nat.mod_lt _ (by decide))
 unfold oK
 split
 . exact ⟨hv, .refl _ _ _⟩
 . split
   . exact ⟨hv, .refl _ _ _⟩
   . split
     . exact ⟨hv, .refl _ _ _⟩
     . split
       . exact ⟨hv, .refl _ _ _⟩
       . split
         . exact h1 _ _
         . exact h1 _ _
theorem partB_length (bs : List Int) (i : Nat) : (yO bs i).length = (vQ i (yF bs.length)).length + min 8112 (bs.length - i * 8112) := by
 unfold yO;rw [List.length_append, List.length_take, List.length_drop]
theorem LogV.order {x : Dsk} {first size : Nat} {L : LogS} {rs : List Rc} (h : LogV x first size L rs) : L.head.first <= L.next := by rw [h.next]; exact nB _ _
def ckRcs (bs : List Int) (ep : Nat) (j : Nat) : List Rc := (List.range j).map λ i => (yO bs i, ep)
theorem ckRcs_fst (bs : List Int) (ep : Nat) : (ckRcs bs ep (yF bs.length)).map Prod.fst = pG bs := by
 unfold ckRcs pG;rw [List.map_map];rfl
theorem ckUp_on {x : Dsk} {first size : Nat} {L : LogS} {rs : List Rc} (h : LogV x first size L rs) (on : x.on) {bs : List Int} (hl : bs.length <= 1073741824) : ∀ j, j <= 1000000 -> vU bs.length j <= L.free size -> L.next + vU bs.length j < 281474976710656 ->
 ∃ y L', ckUp x first size L bs 0 j = (y, L', 0) /\ LogV y first size L' (rs ++ ckRcs bs L.head.epoch j) /\ y.on /\ y.dur.length = x.dur.length /\ L'.head = L.head /\ L'.next = L.next + vU bs.length j /\ oN first size x y
 | 0, _, _, _ => ⟨x, L, rfl, by simpa [ckRcs] using h, on, rfl, rfl, rfl, .refl _ _ _⟩
 | j + 1, hj, hf, hb => by
  have hcu : vU bs.length (j + 1) = vU bs.length j + need (yO bs j).length := by rw [partB_length]; rfl
  rw [hcu] at hf hb ⊢;obtain ⟨y, L', e, hV, hon, hyl, hh, hn, hkd⟩ := ckUp_on h on hl j (by omega) (by omega) (by omega);have hpl := tO bs j (by omega) hl;have ho := h.order;obtain ⟨z, e2, hV2, hon2, hzl⟩ := hV.append hon (rec := yO bs j) (by omega) (by unfold LogS.free at hf ⊢; rw [hh, hn]; omega) (by omega);refine ⟨z, ⟨L'.head, L'.next + need (yO bs j).length, L'.starts ++ [L'.next], L'.epochs ++ [L'.head.epoch], false⟩, ?_, ?_, hon2, hzl.trans hyl, hh, by show L'.next + need (yO bs j).length = _; omega, ?_⟩
  . unfold ckUp;rw [e];simp only [ne_eq, not_true_eq_false, if_false, Nat.zero_add];rw [e2]
  . have : ckRcs bs L.head.epoch (j + 1) = ckRcs bs L.head.epoch j ++ [(yO bs j, L'.head.epoch)] := by unfold ckRcs; rw [List.range_succ, List.map_append, hh]; rfl
    rw [this, <- List.append_assoc];exact hV2
  . have := jY (x := y) (first := first) (size := size) (L := L') (rec := yO bs j) h.size3;rw [e2] at this;exact hkd.trans this
theorem ckpt_on {x : Dsk} {first size : Nat} {L : LogS} {rs : List Rc} (h : LogV x first size L rs) (on : x.on) (hrs : rs ≠ []) (T : TblS) (hl : zU T.ps <= 1073741824) (hf : uR (zU T.ps) <= L.free size) (hb : L.next + 65536 < 281474976710656) (hg : L.head.gen < 281474976710655) :
 ∃ y L', rG x first size L T 0 L.next = (y, L', { T with pending := 0 }, 0) /\ LogV y first size L' (ckRcs (wI T.ps) L.head.epoch (yF (zU T.ps))) /\ y.on /\ y.dur.length = x.dur.length /\ y.vers 0 /\ oN first size x y /\
  L'.next = L.next + uR (zU T.ps) /\ L'.head.gen = L.head.gen + 1 /\ L'.head.epoch = L.head.epoch /\ L'.head.first = L.next := by
 have hbl := xA T.ps;have hpl := wJ (zU T.ps);have h6 := h.size6;have hfr : L.free size <= 65536 := by unfold LogS.free; omega
 have hc : uR (zU T.ps) = vU (wI T.ps).length (yF (zU T.ps)) := by rw [hbl]; rfl
 rw [hc] at hf ⊢;obtain ⟨y, L', e, hV, hon, hyl, hh, hn, hkd⟩ := ckUp_on h on (bs := wI T.ps) (by rw [hbl]; exact hl) (yF (zU T.ps)) (by omega) hf (by omega);obtain ⟨f1, f2, f3, f4⟩ := hV.flush hon;have hne : L.next = endN L'.head.first rs := by rw [hh]; exact h.next
 obtain ⟨z, L2, t1, t2, t3, t4, t5, t6, t7, t8⟩ := f2.trim f3 (by rw [hh]; exact hg) hrs;rw [<- hne] at t1 t8;have hmore := trim_more (n := L.next) f2.wf f3 (vers_flush y 0) h.size3 f2.fit (L := L');rw [t1] at hmore;refine ⟨z, L2, ?_, t2, t3, by omega, hmore.1, (hkd.trans (fQ hV.wf)).trans hmore.2, by omega, by rw [t6, hh], by rw [t7, hh], t8⟩;unfold rG ckAll;rw [Nat.sub_zero, e];simp only [ne_eq, not_true_eq_false, if_false];rw [f1];simp only [not_true_eq_false, if_false];rw [t1]
def GoodP (p : Pr) : Prop := zO p.1 /\ zO p.2 /\ 0 < p.1.length /\ p.1.length <= 64 /\ p.2.length <= 1024
structure TabV (x : Dsk) (first size : Nat) (L : LogS) (T : TblS) (m : Nat) : Prop where
 on : x.on
 cap : CapOf (size - 2) T.cap
 least : 83 <= size
 live : T.live = zU T.ps
 fallen : T.fallen = 0
 room : zU T.ps <= T.cap
 free : uR (zU T.ps) <= L.free size
 next : L.next <= m * 200000 + 200000
 gen : L.head.gen <= m + 10
 epoch : L.head.epoch <= m + 10
 vers : x.vers (m * 200 + 100000)
 pend : T.pending <= m
 rise : yQ (zS T.ps)
 good : ∀ p ∈ T.ps, GoodP p
 view : ∃ rs ps0 css, LogV x first size L rs /\ rs.map Prod.fst = wS ps0 css 0 /\ T.ps = allP ps0 css /\ yQ (zS ps0) /\ (∀ p ∈ ps0, GoodP p) /\
  (∀ cs ∈ css, cs ≠ [] /\ cs.length <= 80 /\ ∀ c ∈ cs, c.good = true /\ zO c.key /\ zO c.value /\ c.value.length <= 1024) /\ ∀ i, i <= css.length -> zU (allP ps0 (css.take i)) <= T.cap
theorem recB_norm (cs : List Chg) : recB (cs.map Chg.norm) = recB cs := by
 unfold recB;rw [List.length_map, List.flatMap_map]
 congr 2
 funext c
 exact chgB_norm c
theorem norm_good (c : Chg) : c.norm.good = c.good := by
 unfold Chg.norm
 split
 . rename_i h; unfold Chg.good; simp [h]
 . rfl
theorem good_norm {cs : List Chg} (hbad : ¬ badB cs) (hv : ∀ c ∈ cs, zO c.key /\ zO c.value) : ∀ c ∈ cs.map Chg.norm, c.good = true /\ zO c.key /\ zO c.value /\ c.value.length <= 1024 := λ c hc => by
 obtain ⟨c0, hc0, rfl⟩ := List.mem_map.1 hc;obtain ⟨g1, g2, g3⟩ := (fK hbad).2 c0 hc0;obtain ⟨v1, v2⟩ := hv c0 hc0;refine ⟨by rw [norm_good]; unfold Chg.good; simp [g1, g2, g3], by rw [norm_key]; exact v1, ?_⟩;unfold Chg.norm
 split
 . exact ⟨λ b hb => (by cases hb), by simp⟩
 . rename_i h;exact ⟨v2, g3.resolve_left h⟩
theorem fC (ps : List Pr) (css : List (List Chg)) (cs : List Chg) : allP ps (css ++ [cs]) = xH (allP ps css) cs := by unfold allP; rw [List.foldl_append]; rfl
theorem tblRecs_snoc (ps : List Pr) (css : List (List Chg)) (cs : List Chg) : wS ps (css ++ [cs]) 0 = wS ps css 0 ++ [recB cs] := by
 unfold wS;simp
theorem tblRecs_nil (ps : List Pr) : wS ps [] 0 = pG (wI ps) := by unfold wS; simp
theorem tblRecs_ne (ps : List Pr) (css : List (List Chg)) : wS ps css 0 ≠ [] := λ e => by
 have h := congrArg List.length e;have := jC (wI ps).length;unfold wS at h;simp only [List.length_append, wP, List.length_nil] at h;omega
theorem state_on {x : Dsk} (on : x.on) {T : TblS} (h : T.fallen = 0) : T.state x.off = T := by
 unfold TblS.state;rw [on.off, if_neg (by simp)]
theorem TabV.fine {x : Dsk} {first size : Nat} {L : LogS} {T : TblS} {m : Nat} (h : TabV x first size L T m) (hs : size <= 65536) (hm : m <= 4000000) : T.fine := by
 have := h.cap.le;have := h.pend;exact ⟨h.live, h.room, by omega, by omega⟩
theorem good_chg {ps : List Pr} (hr : yQ (zS ps)) (h : ∀ p ∈ ps, GoodP p) {c : Chg} (hg : c.good = true) (hk : zO c.key) (hv : zO c.value) : ∀ p ∈ chgP ps c, GoodP p := λ p hp => by
 unfold Chg.good at hg;simp only [Bool.and_eq_true, decide_eq_true_eq, Bool.or_eq_true] at hg
 cases hgo : c.gone with
 | true =>
  rw [<- iO hr, hgo] at hp;have : ∀ (k v : List Int) (l : List Pr) (q : Pr), q ∈ putF k v true l -> q ∈ l := by
   intro k v l
   induction l with
   | nil => intro q hq; simp [putF] at hq
   | cons p l ih =>
    intro q hq;unfold putF at hq
    split at hq
    . exact List.mem_cons_of_mem _ (ih q hq)
    . rw [if_neg (by simp)] at hq;rcases List.mem_cons.1 hq with rfl | hq
      . exact List.mem_cons_self
      . exact List.mem_cons_of_mem _ (ih q hq)
  exact h p (this _ _ _ _ hp)
 | false =>
  rw [hgo] at hg;rw [<- iO hr] at hp;rcases kD hp with rfl | hp
  . exact ⟨hk, hv, hg.1.1, hg.1.2, hg.2.resolve_left (by decide)⟩
  . exact h p hp
theorem good_chgs {cs : List Chg} : ∀ {ps : List Pr}, yQ (zS ps) -> (∀ p ∈ ps, GoodP p) -> (∀ c ∈ cs, c.good = true /\ zO c.key /\ zO c.value) -> ∀ p ∈ xH ps cs, GoodP p := by
 induction cs with
 | nil => exact λ _ h _ => h
 | cons c cs ih =>
  intro ps hr h hc;obtain ⟨h1, h2, h3⟩ := hc c List.mem_cons_self;exact ih (ps := chgP ps c) (rise_chg hr) (good_chg hr h h1 h2 h3) λ d hd => hc d (List.mem_cons_of_mem _ hd)
theorem goods_of {cs : List Chg} (hbad : ¬ badB cs) (hv : ∀ c ∈ cs, zO c.key /\ zO c.value) : ∀ c ∈ cs, c.good = true /\ zO c.key /\ zO c.value := λ c hc => by
 obtain ⟨g1, g2, g3⟩ := (fK hbad).2 c hc;exact ⟨by unfold Chg.good; simp [g1, g2, g3], hv c hc⟩
theorem fits_cap {size c : Nat} (h83 : 83 <= size) (h : CapOf (size - 2) c) : 2 * uR c + 79 <= size - 2 := by
 have := cap_ge (by omega) h;rcases h.fit with e | e
 . omega
 . exact e
theorem TabV.comAp {x : Dsk} {first size : Nat} {L : LogS} {T : TblS} {m : Nat} (h : TabV x first size L T m) (hs : size <= 65536) (hm : m <= 4000000) {cs : List Chg} (h0 : cs ≠ []) (hbad : ¬ badB cs) (hv : ∀ c ∈ cs, zO c.key /\ zO c.value) (hl : (recB cs).length <= 8192)
 (hc : zU (xH T.ps cs) <= T.cap) (hf : need (recB cs).length + uR (zU (xH T.ps cs)) <= L.free size) :
 ∃ y L', TT.comAp x first size L T cs = (y, L', ⟨T.cap, xH T.ps cs, zU (xH T.ps cs), T.pending + 1, 0⟩, 0) /\ TabV y first size L' ⟨T.cap, xH T.ps cs, zU (xH T.ps cs), T.pending + 1, 0⟩ (m + 1) /\ y.dur.length = x.dur.length /\ oN first size x y := by
 obtain ⟨rs, ps0, css, hV, hrec, hps, hr0, hg0, hcs, hcap⟩ := h.view;have hn := h.next;have hfr : L.free size <= 65536 := by unfold LogS.free; omega
 have hst := hV.order;obtain ⟨y, e, hV2, hon, hyl⟩ := hV.append h.on (rec := recB cs) hl (by omega) (by omega);have hv1 := appendR_vers (first := first) (size := size) (L := L) (rec := recB cs) h.vers;have hk1 := jY (x := x) (first := first) (size := size) (L := L) (rec := recB cs) hV.size3;rw [e] at hv1 hk1;refine ⟨y, ⟨L.head, L.next + need (recB cs).length, L.starts ++ [L.next], L.epochs ++ [L.head.epoch], false⟩, ?_, ?_, hyl, hk1⟩;rotate_left
 . refine { on := hon, cap := h.cap, least := h.least, live := rfl, fallen := rfl, room := hc, free := ?_, next := ?_, gen := Nat.le_succ_of_le h.gen, epoch := Nat.le_succ_of_le h.epoch, vers := λ i => Nat.le_trans (hv1 i) (by show m * 200 + 100000 + 79 <= (m + 1) * 200 + 100000; omega), pend := Nat.succ_le_succ h.pend, rise := lO h.rise cs, good := good_chgs h.rise h.good (goods_of hbad hv), view := ?_ }
   . unfold LogS.free at hf ⊢;simp only;omega
   . have := mR (recB cs).length;show L.next + need (recB cs).length <= (m + 1) * 200000 + 200000;omega
   . refine ⟨_, ps0, css ++ [cs.map Chg.norm], hV2, ?_, ?_, hr0, hg0, λ ds hd => ?_, λ i hi => ?_⟩
     . rw [List.map_append, hrec, tblRecs_snoc, recB_norm];rfl
     . rw [fC, jH, <- hps]
     . rcases List.mem_append.1 hd with hd | hd
       . exact hcs ds hd
       . rw [List.mem_singleton.1 hd];exact ⟨by simpa using h0, by rw [List.length_map]; exact (fK hbad).1, good_norm hbad hv⟩
     . rcases Nat.lt_or_ge css.length i with hlt | hge
       . have : i = (css ++ [cs.map Chg.norm]).length := by rw [List.length_append, List.length_singleton] at hi ⊢; omega
         rw [this, List.take_length, fC, jH, <- hps];exact hc
       . rw [List.take_append_of_le_length hge];exact hcap i hge
 . unfold TT.comAp;rw [e];simp only [ne_eq, not_true_eq_false, if_false]
theorem TabV.ckpt {x : Dsk} {first size : Nat} {L : LogS} {T : TblS} {m : Nat} (h : TabV x first size L T m) (hs : size <= 65536) (hm : m <= 4000000) :
 ∃ y L', rG x first size L T 0 L.next = (y, L', { T with pending := 0 }, 0) /\ TabV y first size L' { T with pending := 0 } (m + 1) /\ y.dur.length = x.dur.length /\ oN first size x y /\ L'.free size = size - 2 - uR (zU T.ps) := by
 obtain ⟨rs, ps0, css, hV, hrec, hps, hr0, hg0, hcs, hcap⟩ := h.view;have hn := h.next;have hgen := h.gen;have hro := h.room;have hcl := h.cap.le;have hfr : L.free size <= 65536 := by unfold LogS.free; omega
 have hrs : rs ≠ [] := λ e => tblRecs_ne ps0 css (by rw [<- hrec, e]; rfl);obtain ⟨y, L', e, hV2, hon, hyl, hvv, hkd, hnx, hge, hep, hfi⟩ := ckpt_on hV h.on hrs T (by omega) h.free (by omega) (by omega);have hfits := fits_cap h.least h.cap;have hmono := pF h.room (by omega);have hfree : L'.free size = size - 2 - uR (zU T.ps) := by unfold LogS.free; omega
 have hcfr := h.free;refine ⟨y, L', e, ?_, hyl, hkd, hfree⟩;refine { on := hon, cap := h.cap, least := h.least, live := h.live, fallen := h.fallen, room := h.room, free := by show uR (zU T.ps) <= _; omega, next := by omega, gen := by omega, epoch := by have := h.epoch; omega, vers := λ i => Nat.le_trans (hvv i) (Nat.zero_le _), pend := Nat.zero_le _, rise := h.rise, good := h.good, view := ?_ };refine ⟨_, T.ps, [], hV2, ?_, rfl, h.rise, h.good, (λ cs hc => by cases hc), λ i hi => ?_⟩
 . rw [tblRecs_nil, <- ckRcs_fst (wI T.ps) L.head.epoch, xA]
 . rw [List.take_nil];exact h.room
inductive ComOn (x : Dsk) (first size : Nat) (L : LogS) (T : TblS) (m : Nat) (cs : List Chg) : Dsk -> LogS -> TblS -> Int -> Prop
 | none : cs = [] -> ComOn x first size L T m cs x L T 0
 | size : cs ≠ [] -> 8192 < (recB cs).length -> ComOn x first size L T m cs x L T 81
 | full : cs ≠ [] -> T.cap < zU (xH T.ps cs) -> ComOn x first size L T m cs x L T 2
 | ok {y : Dsk} {L' : LogS} {p : Nat} : cs ≠ [] -> zU (xH T.ps cs) <= T.cap -> TabV y first size L' ⟨T.cap, xH T.ps cs, zU (xH T.ps cs), p, 0⟩ (m + 2) -> (p = T.pending + 1 \/ p = 1) -> y.dur.length = x.dur.length -> oN first size x y ->
  ComOn x first size L T m cs y L' ⟨T.cap, xH T.ps cs, zU (xH T.ps cs), p, 0⟩ 0
theorem TabV.mono {x : Dsk} {first size : Nat} {L : LogS} {T : TblS} {m n : Nat} (h : TabV x first size L T m) (hn : m <= n) : TabV x first size L T n :=
 ⟨h.on, h.cap, h.least, h.live, h.fallen, h.room, h.free, Nat.le_trans h.next (Nat.add_le_add_right (Nat.mul_le_mul_right _ hn) _), Nat.le_trans h.gen (Nat.add_le_add_right hn _), Nat.le_trans h.epoch (Nat.add_le_add_right hn _), λ i => Nat.le_trans (h.vers i) (Nat.add_le_add_right (Nat.mul_le_mul_right _ hn) _), Nat.le_trans h.pend hn, h.rise, h.good, h.view⟩
theorem TabV.commit {x : Dsk} {first size : Nat} {L : LogS} {T : TblS} {m : Nat} (h : TabV x first size L T m) (hs : size <= 65536) (hm : m <= 3000000) {cs : List Chg} (hbad : ¬ badB cs) (hv : ∀ c ∈ cs, zO c.key /\ zO c.value) :
 ComOn x first size L T m cs (wG x first size L T cs).1 (wG x first size L T cs).2.1 (wG x first size L T cs).2.2.1 (wG x first size L T cs).2.2.2 := by
 unfold wG;rw [if_neg hbad, state_on h.on h.fallen, if_neg (by rw [h.fallen]; simp)]
 split
 . rename_i h0; exact .none h0
 . rename_i h0
   split
   . rename_i h1; exact .size h0 h1
   . rename_i h1
     split
     . rename_i h2; exact .full h0 h2
     . rename_i h2;have hcl := h.cap.le;have hfits := fits_cap h.least h.cap;have hma := pF (show zU (xH T.ps cs) <= T.cap by omega) (by omega);have hmb := pF h.room (by omega);have hnl := mR (recB cs).length;unfold comGo;by_cases hck : L.free size < need (recB cs).length + uR (zU (xH T.ps cs))
       . obtain ⟨y, L', e, hT, hyl, hkd, hfree⟩ := h.ckpt hs (by omega);have e1 : nD x first size L T cs = (y, L', { T with pending := 0 }, 0) := by unfold nD; rw [if_pos hck, e]
         obtain ⟨z, L2, e2, hT2, hzl, hkd2⟩ := hT.comAp hs (by omega) h0 hbad hv (by omega) (show zU (xH T.ps cs) <= T.cap by omega) (by show _ + uR (zU (xH T.ps cs)) <= _; omega);rw [e1];simp only [ne_eq, not_true_eq_false, if_false];rw [e2];exact .ok h0 (by omega) hT2 (.inr rfl) (hzl.trans hyl) (hkd.trans hkd2)
       . have e1 : nD x first size L T cs = (x, L, T, 0) := by unfold nD; rw [if_neg hck]
         obtain ⟨z, L2, e2, hT2, hzl, hkd2⟩ := h.comAp hs (by omega) h0 hbad hv (by omega) (by omega) (by omega);rw [e1];simp only [ne_eq, not_true_eq_false, if_false];rw [e2];exact .ok h0 (by omega) (hT2.mono (by omega)) (.inl rfl) hzl hkd2
structure tV where
 room : Nat
 epoch : Nat
 dead : Bool
 was : List (List Pr)
def tV.now (K : tV) : List Pr := K.was.getLastD []
structure KBk where
 kb : Nat
 g : Nat
 o : Nat
 cap : Nat
def kAll (b : Bks) (k : LBk) (q : TBk) (z : KBk) (j : Nat) : Prop := allB b k q j \/ j = z.kb \/ j = z.g
structure KSys (w : World) (b : Bks) (x : Dsk) (N first size : Nat) (k : LBk) (L : LogS) (q : TBk) (T : TblS) (z : KBk) (K : tV) : Prop where
 sys : TSys w b x N first size k L q T
 cells : w.heap[z.kb]? = some (.cells (rT b.d q.t size (.slice (some ⟨z.g, z.o, none⟩) K.was.length z.cap) K.room K.epoch K.dead) 30 (0, 0))
 was : rZ w (λ j => allB b k q j \/ j = z.kb) z.g z.o z.cap K.was
 apart : ¬ allB b k q z.kb
 far : 10 <= z.kb /\ 10 <= z.g
section
variable {w w' w1 w2 : World} {b : Bks} {x x' : Dsk} {N N' first size : Nat} {k : LBk} {L L' : LogS} {q : TBk} {T T' : TblS} {z : KBk} {K K' : tV}
theorem KSys.ne (h : KSys w b x N first size k L q T z K) : z.g ≠ z.kb /\ ¬ allB b k q z.g := ⟨λ e => h.was.far (.inr e), λ e => h.was.far (.inl e)⟩
theorem KSys.lt (h : KSys w b x N first size k L q T z K) : ∀ j, kAll b k q z j -> j < w.heap.size := by
 rintro j (hj | rfl | rfl)
 . exact h.sys.lt j hj
 . exact zI h.cells
 . exact h.was.lt
theorem KSys.below (h : KSys w b x N first size k L q T z K) (hb : Below w.heap.size w w') : KSys w' b x N first size k L q T z K := ⟨h.sys.below hb, zK hb h.cells, h.was.below hb, h.apart, h.far⟩
theorem KSys.mono {M : Nat} (h : KSys w b x N first size k L q T z K) (hm : N <= M) : KSys w b x M first size k L q T z K := ⟨h.sys.mono hm, h.cells, h.was, h.apart, h.far⟩
theorem KSys.cs (h : KSys w b x N first size k L q T z K) : w.cell? ⟨z.kb, 0, none⟩ = some (.pointer (some ⟨b.d, 0, none⟩)) /\ w.cell? ⟨z.kb, 1, none⟩ = some (.pointer (some ⟨q.t, 0, none⟩)) /\ w.cell? ⟨z.kb, 2, none⟩ = some (.int .i64 size) /\
 w.cell? ⟨z.kb, 3, none⟩ = some (.slice (some ⟨z.g, z.o, none⟩) K.was.length z.cap) /\ w.cell? ⟨z.kb, 4, none⟩ = some (.int .i64 K.room) /\ w.cell? ⟨z.kb, 5, none⟩ = some (.int .u64 K.epoch) /\ w.cell? ⟨z.kb, 6, none⟩ = some (.bool K.dead) /\ ∀ j, w.frozen? ⟨z.kb, j, none⟩ = false := by
 have := h.cells;unfold rT at this;simp [World.cell?, World.frozen?, this]
def tW (w : World) (b : Bks) (k : LBk) (q : TBk) (z : KBk) (x' : Dsk) (N' first size : Nat) (L' : LogS) (T' : TblS) (K' : tV) (w' : World) : Prop :=
 ∃ (b' : Bks) (k' : LBk) (q' : TBk) (z' : KBk), b'.d = b.d /\ k'.l = k.l /\ q'.t = q.t /\ z'.kb = z.kb /\ (∀ j, kAll b' k' q' z' j -> kAll b k q z j \/ w.heap.size <= j) /\ Ext (kAll b k q z) w w' /\ KSys w' b' x' N' first size k' L' q' T' z' K'
theorem tW.trans {b1 : Bks} {k1 : LBk} {q1 : TBk} {z1 : KBk} (hd : b1.d = b.d) (hl : k1.l = k.l) (ht : q1.t = q.t) (hz : z1.kb = z.kb) (ha : ∀ j, kAll b1 k1 q1 z1 j -> kAll b k q z j \/ w.heap.size <= j) (hX : Ext (kAll b k q z) w w1) (h2 : tW w1 b1 k1 q1 z1 x' N' first size L' T' K' w2) : tW w b k q z x' N' first size L' T' K' w2 := by
 obtain ⟨b2, k2, q2, z2, d2, l2, t2, y2, a2, X2, S2⟩ := h2;refine ⟨b2, k2, q2, z2, d2.trans hd, l2.trans hl, t2.trans ht, y2.trans hz, λ j hj => ?_, hX.trans X2 λ j hj h => ?_, S2⟩
 . rcases a2 j hj with h | h
   . exact ha j h
   . exact .inr (Nat.le_trans hX.size h)
 . rcases ha j h with h | h
   . exact h
   . omega
theorem tW.of_below (hb : Below w.heap.size w w1) (h2 : tW w1 b k q z x' N' first size L' T' K' w2) : tW w b k q z x' N' first size L' T' K' w2 :=
 .trans rfl rfl rfl rfl (λ j h => .inl h) (Ext.of_below hb) h2
theorem tW.below (h : tW w b k q z x' N' first size L' T' K' w1) (hb : Below w1.heap.size w1 w2) : tW w b k q z x' N' first size L' T' K' w2 := by
 obtain ⟨b2, k2, q2, z2, d2, l2, t2, y2, a2, X2, S2⟩ := h;exact ⟨b2, k2, q2, z2, d2, l2, t2, y2, a2, X2.trans (Ext.of_below (S := λ _ => False) hb) λ _ _ e => e.elim, S2.below hb⟩
theorem KSys.tabledZ (h : KSys w b x N first size k L q T z K) (hP : xF w b k q x' N' first size L' T' w') : ∃ (b' : Bks) (k' : LBk) (q' : TBk), b'.d = b.d /\ k'.l = k.l /\ q'.t = q.t /\ (∀ j, allB b' k' q' j -> allB b k q j \/ w.heap.size <= j) /\ Ext (allB b k q) w w' /\ KSys w' b' x' N' first size k' L' q' T' z K := by
 obtain ⟨b2, k2, q2, hd, hl, ht, ha, hX, hS⟩ := hP;have hkb := zI h.cells;have hne : ∀ j, j < w.heap.size -> ¬ allB b k q j -> ¬ allB b2 k2 q2 j := λ j hj hn e => (ha j e).elim hn λ e => by omega
 refine ⟨b2, k2, q2, hd, hl, ht, ha, hX, ⟨hS, ?_, ?_, hne _ hkb h.apart, h.far⟩⟩
 . rw [hd, ht];exact hX.heap h.cells h.apart
 . refine ((h.was.mono (G := λ j => (allB b k q j \/ allB b2 k2 q2 j) \/ j = z.kb) λ j hj => ?_).ext hX λ j hj => .inl (.inl hj)).mono λ j hj => .inl (hj.imp .inr id);rcases hj with (hj | hj) | hj
   . exact .inl (.inl hj)
   . exact (ha j hj).imp .inl id
   . exact .inl (.inr hj)
theorem oF {b2 : Bks} {k2 : LBk} {q2 : TBk} (ha : ∀ j, allB b2 k2 q2 j -> allB b k q j \/ w.heap.size <= j) : ∀ j, kAll b2 k2 q2 z j -> kAll b k q z j \/ w.heap.size <= j := λ j hj => by
 rcases hj with hj | hj
 . exact (ha j hj).imp .inl id
 . exact .inl (.inr hj)
structure qD (w : World) (b : Bks) (k : LBk) (q : TBk) (z : KBk) (w' : World) (b' : Bks) (k' : LBk) (q' : TBk) (z' : KBk) : Prop where
 d : b'.d = b.d
 l : k'.l = k.l
 t : q'.t = q.t
 kb : z'.kb = z.kb
 all : ∀ j, kAll b' k' q' z' j -> kAll b k q z j \/ w.heap.size <= j
 ext : Ext (kAll b k q z) w w'
theorem qD.refl (w : World) (b : Bks) (k : LBk) (q : TBk) (z : KBk) : qD w b k q z w b k q z := ⟨rfl, rfl, rfl, rfl, λ _ h => .inl h, Ext.refl _ _⟩
theorem qD.trans {b1 b2 : Bks} {k1 k2 : LBk} {q1 q2 : TBk} {z1 z2 : KBk} (h : qD w b k q z w1 b1 k1 q1 z1) (h2 : qD w1 b1 k1 q1 z1 w2 b2 k2 q2 z2) : qD w b k q z w2 b2 k2 q2 z2 :=
 ⟨h2.d.trans h.d, h2.l.trans h.l, h2.t.trans h.t, h2.kb.trans h.kb, λ j hj => by
  rcases h2.all j hj with e | e
  . exact h.all j e
  . exact .inr (Nat.le_trans h.ext.size e), h.ext.trans h2.ext λ j hj e => by
  rcases h.all j e with e | e
  . exact e
  . omega⟩
theorem qD.below {b1 : Bks} {k1 : LBk} {q1 : TBk} {z1 : KBk} (h : qD w b k q z w1 b1 k1 q1 z1) (hb : Below w1.heap.size w1 w2) : qD w b k q z w2 b1 k1 q1 z1 :=
 ⟨h.d, h.l, h.t, h.kb, h.all, h.ext.trans (Ext.of_below (S := λ _ => False) hb) λ _ _ e => e.elim⟩
theorem qD.post {b1 : Bks} {k1 : LBk} {q1 : TBk} {z1 : KBk} (h : qD w b k q z w1 b1 k1 q1 z1) (hS : KSys w1 b1 x' N' first size k1 L' q1 T' z1 K') : tW w b k q z x' N' first size L' T' K' w1 :=
 ⟨b1, k1, q1, z1, h.d, h.l, h.t, h.kb, h.all, h.ext, hS⟩
theorem tW.link (h : tW w b k q z x' N' first size L' T' K' w1) : ∃ b1 k1 q1 z1, qD w b k q z w1 b1 k1 q1 z1 /\ KSys w1 b1 x' N' first size k1 L' q1 T' z1 K' := by
 obtain ⟨b1, k1, q1, z1, d1, l1, t1, y1, a1, X1, S1⟩ := h;exact ⟨b1, k1, q1, z1, ⟨d1, l1, t1, y1, a1, X1⟩, S1⟩
theorem qD.tabled {b2 : Bks} {k2 : LBk} {q2 : TBk} (hd : b2.d = b.d) (hl : k2.l = k.l) (ht : q2.t = q.t) (ha : ∀ j, allB b2 k2 q2 j -> allB b k q j \/ w.heap.size <= j) (hX : Ext (allB b k q) w w') : qD w b k q z w' b2 k2 q2 z :=
 ⟨hd, hl, ht, rfl, oF ha, hX.mono λ j _ e => .inl e⟩
theorem qD.rowed {g o cap : Nat} {v : Value} (hX : Ext (· = z.g) w w1) (hg : g = z.g \/ w.heap.size <= g) : qD w b k q z (w1.setCell ⟨z.kb, 3, none⟩ v) b k q ⟨z.kb, g, o, cap⟩ := by
 have hX2 : Ext (· = z.kb) w1 (w1.setCell ⟨z.kb, 3, none⟩ v) := Ext.setCell (S := (· = z.kb)) (p := ⟨z.kb, 3, none⟩) rfl _;refine ⟨rfl, rfl, rfl, rfl, λ j hj => ?_, (hX.mono (S' := kAll b k q z) λ j _ e => .inr (.inr e)).trans hX2 λ j _ e => .inr (.inl e)⟩;rcases hj with hj | hj | hj
 . exact .inl (.inl hj)
 . exact .inl (.inr (.inl hj))
 . simp only at hj;subst hj;exact hg.imp (λ e => .inr (.inr e)) id
theorem KSys.headed (h : KSys w b x N first size k L q T z K) (j : Nat) (u : Value) (K' : tV) (hw : K'.was = K.was) (hc : (rT b.d q.t size (.slice (some ⟨z.g, z.o, none⟩) K.was.length z.cap) K.room K.epoch K.dead).setIfInBounds j u = rT b.d q.t size (.slice (some ⟨z.g, z.o, none⟩) K'.was.length z.cap) K'.room K'.epoch K'.dead) :
 tW w b k q z x N first size L T K' (w.setCell ⟨z.kb, j, none⟩ u) := by
 have hX : Ext (· = z.kb) w (w.setCell ⟨z.kb, j, none⟩ u) := Ext.setCell (S := (· = z.kb)) (p := ⟨z.kb, j, none⟩) rfl u;refine ⟨b, k, q, z, rfl, rfl, rfl, rfl, λ j h => .inl h, hX.mono λ j _ e => .inr (.inl e), ⟨h.sys.ext hX λ j e => by subst e; exact ⟨h.far.1, h.apart⟩, ?_, ?_, h.apart, h.far⟩⟩
 . have := yB (j := j) h.cells u;rw [hc] at this;exact this
 . rw [hw];exact h.was.ext hX λ j e => .inr e
theorem KSys.rowedK (h : KSys w b x N first size k L q T z K) (hX : Ext (· = z.g) w w1) {g o cap : Nat} {was : List (List Pr)} (hW : rZ w1 (λ j => allB b k q j \/ j = z.kb) g o cap was) (hg : g = z.g \/ w.heap.size <= g) :
 KSys (w1.setCell ⟨z.kb, 3, none⟩ (.slice (some ⟨g, o, none⟩) was.length cap)) b x N first size k L q T ⟨z.kb, g, o, cap⟩ { K with was := was } := by
 obtain ⟨hn1, hn2⟩ := h.ne;have h10 := h.sys.lsys.sys.pkg.lt;have hX2 : Ext (· = z.kb) w1 (w1.setCell ⟨z.kb, 3, none⟩ (.slice (some ⟨g, o, none⟩) was.length cap)) := Ext.setCell (S := (· = z.kb)) (p := ⟨z.kb, 3, none⟩) rfl _;have hS1 := h.sys.ext hX λ j e => by subst e; exact ⟨h.far.2, hn2⟩
 refine ⟨hS1.ext hX2 λ j e => by subst e; exact ⟨h.far.1, h.apart⟩, ?_, ?_, h.apart, h.far.1, ?_⟩
 . have := yB (j := 3) (hX.heap h.cells hn1.symm) (.slice (some ⟨g, o, none⟩) was.length cap);exact this
 . exact hW.ext hX2 λ j e => .inr e
 . rcases hg with rfl | hg
   . exact h.far.2
   . show 10 <= g; omega
theorem KSys.rowed (h : KSys w b x N first size k L q T z K) (hX : Ext (· = z.g) w w1) {g o cap : Nat} {was : List (List Pr)} (hW : rZ w1 (λ j => allB b k q j \/ j = z.kb) g o cap was) (hg : g = z.g \/ w.heap.size <= g) :
 tW w b k q z x N first size L T { K with was := was } (w1.setCell ⟨z.kb, 3, none⟩ (.slice (some ⟨g, o, none⟩) was.length cap)) := (qD.rowed hX hg).post (h.rowedK hX hW hg)
end
theorem tV.now_at {K : tV} (h : K.was ≠ []) : K.was[K.was.length - 1]? = some K.now := by
 unfold tV.now;rw [<- List.getLast?_eq_getElem?, List.getLastD_eq_getLast?, List.getLast?_eq_some_getLast h];rfl
theorem now_any {b : Bks} {x : Dsk} {N first size : Nat} {k : LBk} {L : LogS} {q : TBk} {T : TblS} {z : KBk} {K : tV} (w : World) (h : KSys w b x N first size k L q T z K) (h0 : K.was ≠ []) (hn : K.was.length <= 549755813) :
 Calls Tryz.prog 20 #[.pointer (some ⟨z.kb, 0, none⟩)] w λ e w' => ∃ u, e = .returned u /\ vR w' (kAll b k q z) u K.now /\ Below w.heap.size w w' := by
 obtain ⟨-, -, -, c3, -⟩ := h.cs;obtain ⟨u, c4, hu⟩ := h.was.at' _ _ (tV.now_at h0);have hu2 : vR w (kAll b k q z) u K.now := hu.mono λ j hj => .inl (by
  rcases hj with hj | hj | hj
  . exact .inl (.inl hj)
  . exact .inl (.inr hj)
  . exact .inr hj)
 have hpos : 0 < K.was.length := List.length_pos_iff.2 h0;have HU := zB hu2;obtain ⟨n, hnn⟩ : ∃ n, K.was.length = n + 1 := ⟨K.was.length - 1, by omega⟩;rw [hnn] at c3 hn c4;rw [show n + 1 - 1 = n from rfl] at c4;obtain ⟨au, cu, hus⟩ := hu.shape;clear h hu hu2 hnn hpos h0;subst hus;go_enter Tryz.func20, Tryz.ntmps20
 go_wp2_with fail
 refine zY (λ _ => none) fol (by kernel_rfl) (λ W hW hh => ?_);clear hh;have r3 := zV hW c3;have r4 := zV hW c4
 repeat ((first | refine lxM ?_ | refine lxF ?_ | refine zM rfl ?_); simp only [zD])
 refine zZ ?_;clear r3 r4
 go_wp2_with fail
 go_ret
 exact ⟨_, rfl, HU.out.below hW, hW⟩
end Go.Proofs.YtbjofbhhnmehgaaGreatDoor.TT
