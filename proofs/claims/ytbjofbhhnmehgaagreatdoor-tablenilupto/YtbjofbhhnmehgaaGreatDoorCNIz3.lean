
/-
 seglog.place: piece.
-/
import Derived.Test.YtbjofbhhnmehgaaGreatDoorCNIz2
import Derived.Test.YtbjofbhhnmehgaaGreatDoorCNIz1
import Derived.Test.YtbjofbhhnmehgaaGreatDoorCNIz0
set_option linter.unusedSimpArgs false
set_option linter.unusedVariables false
set_option maxHeartbeats 2000000
set_option maxRecDepth 100000
open Go.IntWalk (toNatUp iteOmega)
namespace Go.Proofs.YtbjofbhhnmehgaaGreatDoor.TT
open Go.RowKit Go.RG Go.Hp Go.Proofs.YtbjofbhhnmehgaaGreatDoor
def Win (w : World) (base : Nat) (v : Value) (xs : List Value) : Prop := ∃ g o c L, v = .slice (some ⟨g, o, none⟩) xs.length c /\ base <= g /\ Row w g 5 L /\ xs.length <= c /\ c <= maxLen /\ o + c <= L.length /\ (L.drop o).take xs.length = xs
theorem Win.below {w w' : World} {base : Nat} {v : Value} {xs : List Value} (h : Win w base v xs) (hb : Below w.heap.size w w') : Win w' base v xs := by
 obtain ⟨g, o, c, L, h1, h2, h3, h4⟩ := h;exact ⟨g, o, c, L, h1, h2, h3.below hb, h4⟩
theorem Win.base {w : World} {base base' : Nat} {v : Value} {xs : List Value} (h : Win w base v xs) (hb : base' <= base) : Win w base' v xs := by
 obtain ⟨g, o, c, L, h1, h2, h3⟩ := h;exact ⟨g, o, c, L, h1, Nat.le_trans hb h2, h3⟩
theorem Win.src {w : World} {base : Nat} {v : Value} {xs : List Value} (h : Win w base v xs) : Src w v xs := by
 obtain ⟨g, o, c, L, rfl, -, h3, h4, -, h6, h7⟩ := h;refine .inl ⟨g, o, c, rfl, h4, λ j u hu => ?_⟩;rw [h3.cell];have hj : j < xs.length := by
  rcases Nat.lt_or_ge j xs.length with h | h
  . exact h
  . rw [List.getElem?_eq_none h] at hu; cases hu
 rw [<- h7, List.getElem?_take_of_lt hj, List.getElem?_drop] at hu;exact hu
theorem win_of {w : World} {base g cap n : Nat} {bs : List Int} (h : w.ownsRow base 5 1 (.slice (some ⟨g, 0, none⟩) n cap) n (u8s bs)) {o d : Nat} (hd : o + d <= n) : Win w base (.slice (some ⟨g, o, none⟩) d (cap - o)) (u8s ((bs.take (o + d)).drop o)) := by
 have hl := sC h;rw [Nat.mul_one, zH] at hl;obtain ⟨L, hr, hL, ht, hn, hm⟩ := qJ h;rw [Nat.mul_one] at hL ht;have hlen : (u8s ((bs.take (o + d)).drop o)).length = d := by rw [zH, List.length_drop, List.length_take]; omega
 refine ⟨g, o, cap - o, L, by rw [hlen], (h.lt g rfl).1, hr, by rw [hlen]; omega, by omega, by omega, ?_⟩;rw [hlen, tL, qF, <- ht, List.take_take, Nat.min_eq_left hd, List.drop_take, Nat.add_sub_cancel_left]
def oB (t : List Int) (data : List Int) : qC := ⟨getN t 4 6, getN t 10 6, getN t 16 2, getN t 18 2, data⟩
def sJ (t : List Int) : Nat := 20 + min 104 (getN t 16 2 - getN t 18 2 * 104)
def xR (x : Dsk) (first size n : Nat) : Except Int qC := match wZ x (wY first size n) yP with
 | .error c => .error c
 | .ok t => if getN t 4 6 ≠ n \/ need (getN t 16 2) <= getN t 18 2 then .error 50 else
  if rC (t.drop (sJ t)) then .ok (oB t ((t.take (sJ t)).drop 20)) else .error 50
def PiecePost (r : Except Int qC) (B : Nat) (e : Ending) (w' : World) : Prop := match r with
 | .ok p => ∃ u, e = .returned (.tuple #[.agg #[.int .u64 p.num, .int .u64 p.epoch, .int .i64 p.bytes, .int .i64 p.index, u], .int .i64 0]) /\ Win w' B u (u8s p.data)
 | .error k => e = .returned (.tuple #[.agg #[.int .u64 0, .int .u64 0, .int .i64 0, .int .i64 0, .slice none 0 0], .int .i64 k])
theorem getN_lt {t : List Int} (h : zO t) (at' n : Nat) (hl : at' + n <= t.length) : getN t at' n < 256 ^ n := by
 have h1 := oX ((h.drop at').take n);have h2 : (List.take n (List.drop at' t)).length = n := by rw [List.length_take, List.length_drop]; omega
 rw [h2] at h1;have h3 := getN_cast h at' n;have h4 : (getN t at' n : Int) < 256 ^ n := by rw [h3]; exact h1.2
 have h5 : ((256 ^ n : Nat) : Int) = (256 : Int) ^ n := by rw [Int.natCast_pow]; rfl
 rw [<- h5] at h4;exact Int.ofNat_lt.1 h4
theorem tS {W : World} {g : Nat} {b0 b1 b2 b3 b4 : Value} {T : TypeId} (a0 a1 a2 a3 a4 : Value) (h : W.heap[g]? = some (.cells #[b0, b1, b2, b3, b4] T (0, 0))) :
 (((((W.setCell ⟨g, 0, none⟩ a0).setCell ⟨g, 1, none⟩ a1).setCell ⟨g, 2, none⟩ a2).setCell ⟨g, 3, none⟩ a3).setCell ⟨g, 4, none⟩ a4).heap[g]? = some (.cells #[a0, a1, a2, a3, a4] T (0, 0)) :=
 uB (i := 4) a4 (uB (i := 3) a3 (uB (i := 2) a2 (uB (i := 1) a1 (uB (i := 0) a0 h))))
theorem rF (W : World) (g : Nat) (a0 a1 a2 a3 a4 : Value) : Ext (· = g) W (((((W.setCell ⟨g, 0, none⟩ a0).setCell ⟨g, 1, none⟩ a1).setCell ⟨g, 2, none⟩ a2).setCell ⟨g, 3, none⟩ a3).setCell ⟨g, 4, none⟩ a4) :=
 ((((Ext.setCell (S := (· = g)) (p := ⟨g, 0, none⟩) rfl _).trans (Ext.setCell (S := (· = g)) (p := ⟨g, 1, none⟩) rfl _) (λ _ _ h => h)).trans (Ext.setCell (S := (· = g)) (p := ⟨g, 2, none⟩) rfl _) (λ _ _ h => h)).trans (Ext.setCell (S := (· = g)) (p := ⟨g, 3, none⟩) rfl _) (λ _ _ h => h)).trans (Ext.setCell (S := (· = g)) (p := ⟨g, 4, none⟩) rfl _) (λ _ _ h => h)
theorem piece_any (b : Bks) (x : Dsk) (first size n : Nat) (hn : n < 18446744073709551616) (h1 : 2 < size) (h2 : first + size <= x.dur.length) (w : World) (h : wQ w b x) (hk : x.ok) (hP : Pkg w) :
 Calls Tryz.prog 116 #[vH b first size, .int .u64 n] w λ e w' => PiecePost (xR x first size n) w.heap.size e w' /\ Below w.heap.size w w' := by
 have hlim := h.lim;have hri : wY first size n < x.dur.length := by
  have := Nat.mod_lt n (show 0 < size - 2 by omega);unfold wY;omega
 obtain ⟨hb, g0, g1⟩ := qV w (.cells #[.pointer (some ⟨b.d, 0, none⟩), .int .i64 first, .int .i64 size] 126) (.cells #[.int .u64 0, .int .u64 0, .int .i64 0, .int .i64 0, .slice none 0 0] 138);have HS := zB λ w' (hw : Below w.heap.size w w') => sealed_any b x first size (wY first size n) hri yP ⟨#[104, 108, 121, 80]⟩ rfl rfl uN.2 w' (h.below hw) hk (hP.below hw);have HP := zB hP; clear hP;have HR := zB λ w' => ring_any (some ⟨b.d, 0, none⟩) first size n w' h1 (by omega) (by omega) hn;have HD := zB (zC h hk); clear h hk;have hr0 : ∀ r, wZ x (wY first size n) yP = r -> xR x first size n = match r with
  | .error c => .error c
  | .ok t => if getN t 4 6 ≠ n \/ need (getN t 16 2) <= getN t 18 2 then .error 50 else
   if rC (t.drop (sJ t)) then .ok (oB t ((t.take (sJ t)).drop 20)) else .error 50 := λ r h => by unfold xR; rw [h]
 have Hr0 := zB hr0; clear hr0;unfold vH at HS ⊢;go_enter Tryz.func116, Tryz.ntmps116
 go_wp2_with fail
 generalize World.alloc (World.alloc w _) _ = w1 at hb g0 g1 ⊢;have c0 : w1.cell? ⟨w.heap.size, 0, none⟩ = some (.pointer (some ⟨b.d, 0, none⟩)) /\ w1.cell? ⟨w.heap.size, 1, none⟩ = some (.int .i64 first) /\ w1.cell? ⟨w.heap.size, 2, none⟩ = some (.int .i64 size) := by simp [World.cell?, g0]
 obtain ⟨p0, p1, p2⟩ := c0
 cases hr : wZ x (wY first size n) yP with
 | error c =>
  have Hr := zB (Hr0.out _ hr);have hc : (c != 0) = true := by rcases mN hr with rfl | rfl | rfl <;> rfl
  rw [hr] at HS;clear hr Hr0;refine zY (λ i => if i = 3 then some (λ v w' => v = .int .i64 (wY first size n)) else if i = 4 then some (λ v w' => v = .tuple #[.slice none 0 0, .int .i64 c]) else none) fol (by kernel_rfl) (λ W hW hh => ?_);clear hh;have q10 := zV hW p0;have q11 := zV hW p1;have q12 := zV hW p2
  repeat ((first | refine lxM ?_ | refine lxF ?_ | refine zM rfl ?_); simp only [zD])
  refine zW _ rfl (λ _ _ _ h _ => h) rfl (λ w1 hb1 hf1 => ?_) ?_
  . (unfold yE; go_simp; simp only [zN])
    refine (HR.out _).mono ?_;rintro e w' ⟨rfl, hbb⟩;exact ⟨_, rfl, hbb, rfl⟩
  rintro v9 W3 hB9 rfl;simp only [zD]
  repeat ((first | refine lxM ?_ | refine lxF ?_ | refine zM rfl ?_); simp only [zD])
  refine zW _ rfl (λ _ _ _ h _ => h) rfl (λ w1 hb1 hf1 => ?_) ?_
  . (unfold yE; go_simp; simp only [zN])
    refine (HS.out _ (zF hb (zF hW hb1))).mono ?_;rintro e w' ⟨hpost, hbb⟩;obtain rfl : e = _ := hpost;exact ⟨_, rfl, hbb, rfl⟩
  rintro v10 W4 hB10 rfl;simp only [zD]
  repeat ((first | refine lxM ?_ | refine lxF ?_ | refine zM rfl ?_); simp only [zD])
  refine zZ ?_;clear q10 q11 q12 HS HR;have hW4 : Below w1.heap.size w1 W4 := zF hW (zF hB9 hB10);have hB4 : Below w.heap.size w W4 := zF hb hW4;have g4 := zK hW4 g1;obtain ⟨z0, z1, z2, z3, z4⟩ := box5 g4;have f1 : ∀ j, (W4).frozen? ⟨w.heap.size + 1, j, none⟩ = false := λ j => by simp [World.frozen?, g4]
  have hset := tS (.int .u64 0) (.int .u64 0) (.int .i64 0) (.int .i64 0) (.slice none 0 0) g4;have hX := rF W4 (w.heap.size + 1) (.int .u64 0) (.int .u64 0) (.int .i64 0) (.int .i64 0) (.slice none 0 0);have HS := zB (zC hset hX);clear hset hX
  go_wp2_with fail
  have hse := HS.out.1;have hX := HS.out.2;clear HS z0 z1 z2 z3 z4 f1;generalize World.setCell _ ⟨w.heap.size + 1, 4, none⟩ _ = We at hX hse ⊢;have hBe : Below w.heap.size w We := hB4.trans (hX.to_belowAt hB4.size λ k hk => by omega);obtain ⟨d0, d1, d2, d3, d4⟩ := box5 hse;refine ⟨rfl, .tuple #[.agg #[.int .u64 0, .int .u64 0, .int .i64 0, .int .i64 0, .slice none 0 0], .int .i64 c], ?_, ?_⟩
  . simp [results, Tryz.f116, go_sem, d0, d1, d2, d3, d4]
  refine ⟨?_, hBe⟩;rw [Hr.out];rfl
 | ok t =>
  obtain ⟨hlt, hbt⟩ := gC HD.out.1 HD.out.2 hr;have Hr := zB (Hr0.out _ hr);rw [hr] at HS;clear hr Hr0;refine zY (λ i => if i = 3 then some (λ v w' => v = .int .i64 (wY first size n)) else if i = 4 then some (λ v w' => ∃ g c, v = .tuple #[.slice (some ⟨g, 0, none⟩) 124 c, .int .i64 0] /\ 124 <= c /\ w.heap.size + 1 < g /\ w'.ownsRow w.heap.size 5 1 (.slice (some ⟨g, 0, none⟩) 124 c) 124 (u8s t)) else none) fol (by kernel_rfl) (λ W hW hh => ?_);clear hh;have q10 := zV hW p0;have q11 := zV hW p1;have q12 := zV hW p2
  repeat ((first | refine lxM ?_ | refine lxF ?_ | refine zM rfl ?_); simp only [zD])
  refine zW _ rfl (λ _ _ _ h _ => h) rfl (λ w1 hb1 hf1 => ?_) ?_
  . (unfold yE; go_simp; simp only [zN])
    refine (HR.out _).mono ?_;rintro e w' ⟨rfl, hbb⟩;exact ⟨_, rfl, hbb, rfl⟩
  rintro v9 W3 hB9 rfl;simp only [zD]
  repeat ((first | refine lxM ?_ | refine lxF ?_ | refine zM rfl ?_); simp only [zD])
  refine zW _ rfl (by exact λ _ _ _ ⟨g, c, h1, h2, h4, h3⟩ hb => ⟨g, c, h1, h2, h4, yA h3 hb⟩) rfl (λ w1 hb1 hf1 => ?_) ?_
  . (unfold yE; go_simp; simp only [zN])
    have hBw := zF hb (zF hW hb1);refine (HS.out _ hBw).mono ?_;rintro e w' ⟨⟨u, rfl, hown⟩, hbb⟩;rw [hlt] at hown;obtain ⟨g, c, rfl, hg, -, hc, -⟩ := xB hown (by decide);have hz1 := zI g1;have hz2 := (zF hW hb1).size;exact ⟨_, rfl, hbb, g, c, rfl, hc, by omega, yC hown (λ k hk => Nat.le_trans hBw.size (hown.lt k hk).1)⟩
  rintro v10 W4 hB10 ⟨g, c, rfl, hcl, hgw, hown⟩;simp only [zD]
  repeat ((first | refine lxM ?_ | refine lxF ?_ | refine zM rfl ?_); simp only [zD])
  refine zZ ?_;clear q10 q11 q12 HS HR;have hW4 : Below w1.heap.size w1 W4 := zF hW (zF hB9 hB10);have hB4 : Below w.heap.size w W4 := zF hb hW4;have Hown := zB hown;have hsT := Src.of_owns hown;have HG := zB (λ W' (h : Below W4.heap.size W4 W') at' n h1 h2 => get_n at' n _ t hbt (by rw [hlt]; exact h1) (by rw [hlt]; decide) h2 W' (hsT.below h));have l1 := getN_lt hbt 16 2 (by rw [hlt]; decide);have l2 := getN_lt hbt 18 2 (by rw [hlt]; decide);have hP4 := HP.out.below hB4;obtain ⟨k1, k2⟩ := hP4.number;obtain ⟨k3, k4⟩ := hP4.pieceEpoch;obtain ⟨k5, k6⟩ := hP4.bytes;obtain ⟨k7, k8⟩ := hP4.index;have g1' := zK hW4 g1;have hs0 := hB4.size;have hs1 := zI g1';clear hP4 hown hsT
  go_wp2_with fail
  refine zR 16 (λ i => if i = 2 then some (λ v w' => v = .int .u64 (getN t 4 6)) else if i = 5 then some (λ v w' => v = .int .u64 (getN t 10 6)) else if i = 8 then some (λ v w' => v = .int .u64 (getN t 16 2)) else if i = 12 then some (λ v w' => v = .int .u64 (getN t 18 2)) else if i = 15 then some (λ v w' => ∃ n, v = .pointer (some ⟨n, 0, none⟩) /\ w.heap.size <= n /\ n ≠ w.heap.size + 1 /\ W4.heap.size <= n /\ w'.heap[n]? = some (.cells #[.int .u64 0, .int .u64 0, .int .i64 0, .int .i64 0, .slice none 0 0] 138 (0, 0))) else none) fol (by kernel_rfl) (λ V hV hh => ?_);clear hh;have q1 := zV hV k1;have q2 := zV hV k2;have q3 := zV hV k3;have q4 := zV hV k4;have q5 := zV hV k5;have q6 := zV hV k6;have q7 := zV hV k7;have q8 := zV hV k8;simp only [fT]
  repeat ((first | refine lxM ?_ | refine lxF ?_ | refine zM rfl ?_); simp only [zD])
  refine zW _ rfl (λ _ _ _ h _ => h) rfl (λ w1 hb1 hf1 => ?_) ?_
  . (unfold yE; go_simp; simp only [zN])
    refine (HG.out _ (zF hV hb1) 4 6 (by decide) (by decide)).mono ?_;rintro e w' ⟨rfl, hbb⟩;exact ⟨_, rfl, hbb, rfl⟩
  rintro v1 V1 hV1 rfl;simp only [zD]
  repeat ((first | refine lxM ?_ | refine lxF ?_ | refine zM rfl ?_); simp only [zD])
  refine zW _ rfl (λ _ _ _ h _ => h) rfl (λ w1 hb1 hf1 => ?_) ?_
  . (unfold yE; go_simp; simp only [zN])
    refine (HG.out _ (zF hV hb1) 10 6 (by decide) (by decide)).mono ?_;rintro e w' ⟨rfl, hbb⟩;exact ⟨_, rfl, hbb, rfl⟩
  rintro v1 V2 hV2 rfl;simp only [zD]
  repeat ((first | refine lxM ?_ | refine lxF ?_ | refine zM rfl ?_); simp only [zD])
  refine zW _ rfl (λ _ _ _ h _ => h) rfl (λ w1 hb1 hf1 => ?_) ?_
  . (unfold yE; go_simp; simp only [zN])
    refine (HG.out _ (zF hV hb1) 16 2 (by decide) (by decide)).mono ?_;rintro e w' ⟨rfl, hbb⟩;exact ⟨_, rfl, hbb, rfl⟩
  rintro v1 V3 hV3 rfl;simp only [zD]
  repeat ((first | refine lxM ?_ | refine lxF ?_ | refine zM rfl ?_); simp only [zD])
  refine zW _ rfl (λ _ _ _ h _ => h) rfl (λ w1 hb1 hf1 => ?_) ?_
  . (unfold yE; go_simp; simp only [zN])
    refine (HG.out _ (zF hV hb1) 18 2 (by decide) (by decide)).mono ?_;rintro e w' ⟨rfl, hbb⟩;exact ⟨_, rfl, hbb, rfl⟩
  rintro v1 V4 hV4 rfl;simp only [zD]
  repeat ((first | refine lxM ?_ | refine lxF ?_ | refine zM rfl ?_); simp only [zD])
  refine zW _ rfl (by exact λ _ _ _ ⟨n, h1, h2, h3, h5, h4⟩ hb => ⟨n, h1, h2, h3, h5, zK hb h4⟩) rfl (λ w1 hb1 hf1 => ?_) ?_
  . have hsz1 := (zF hV hb1).size
    (unfold yE; go_simp; simp only [zN])
    exact ⟨zQ _ _, _, rfl, by omega, by omega, by omega, World.alloc_heap_new _ _⟩
  rintro v5 V5 hV5 ⟨m, rfl, hm, hm1, hm4, gm⟩;simp only [zD]
  repeat ((first | refine lxM ?_ | refine lxF ?_ | refine zM rfl ?_); simp only [zD])
  refine zZ ?_;clear q1 q2 q3 q4 q5 q6 q7 q8 HG k1 k2 k3 k4 k5 k6 k7 k8;have hW5 : Below W4.heap.size W4 V5 := zF hV (zF hV1 (zF hV2 (zF hV3 (zF hV4 hV5))));have g6' := zK hW5 g1';have hB5 : Below w.heap.size w V5 := zF hB4 hW5;have hown5 := yA Hown.out hW5;have hgm : g ≠ m := λ e => by have := xD Hown.out (k := g) rfl; omega
  obtain ⟨z0, z1, z2, z3, z4⟩ := box5 gm;have fn : ∀ j, V5.frozen? ⟨m, j, none⟩ = false := λ j => by simp [World.frozen?, gm]
  have hset := tS (.int .u64 (getN t 4 6)) (.int .u64 (getN t 10 6)) (.int .i64 (getN t 16 2)) (.int .i64 (getN t 18 2)) (.slice none 0 0) gm;have hX := rF V5 m (.int .u64 (getN t 4 6)) (.int .u64 (getN t 10 6)) (.int .i64 (getN t 16 2)) (.int .i64 (getN t 18 2)) (.slice none 0 0);have HS := zB (zC hset hX);have H5 := zB (zC g6' hown5);clear hset hX Hown g1' g6' hown5
  go_wp2_with fail
  have hset := HS.out.1;have hX := HS.out.2;clear HS z0 z1 z2 z3 z4 fn gm;generalize World.setCell _ ⟨m, 4, none⟩ _ = V6 at hset hX ⊢;have hB6 : Below w.heap.size w V6 := hB5.trans (hX.to_belowAt hB5.size λ k hk => by omega);have g6 := hX.heap H5.out.1 (λ e => hm1 e.symm);have hown6 := xQ H5.out.2 hX (λ k e => by injection e with e; rw [<- e]; exact hgm);have Hown6 := zB hown6;have H6 := zB (zC g6 (zC hset hB6));obtain ⟨y0, y1, y2, y3, y4⟩ := box5 hset;clear hX H5 hown6 hset g6 hB6;by_cases hnum : getN t 4 6 = n
  . have e1 : ((getN t 4 6 : Int) != (n : Int)) = false := by rw [hnum]; simp
    by_cases hix : need (getN t 16 2) <= getN t 18 2
    . have Hr2 := zB (show xR x first size n = .error 50 by rw [Hr.out, if_pos (.inr hix)]);have hix' : (need (getN t 16 2) : Int) <= (getN t 18 2 : Int) := by omega
      clear hnum;refine zY (λ i => if i = 9 then some (λ v w' => v = .int .i64 (need (getN t 16 2))) else none) fol (by kernel_rfl) (λ U hU hh => ?_);clear hh;have q0 : ∀ w2, Below U.heap.size U w2 -> w2.cell? ⟨m, 0, none⟩ = some (.int .u64 (getN t 4 6)) := zV hU y0;have q2 : ∀ w2, Below U.heap.size U w2 -> w2.cell? ⟨m, 2, none⟩ = some (.int .i64 (getN t 16 2)) := zV hU y2;have q3 : ∀ w2, Below U.heap.size U w2 -> w2.cell? ⟨m, 3, none⟩ = some (.int .i64 (getN t 18 2)) := zV hU y3
      repeat ((first | refine lxM ?_ | refine lxF ?_ | refine zM rfl ?_); simp only [zD])
      refine zW _ rfl (λ _ _ _ h _ => h) rfl (λ w1 hb1 hf1 => ?_) ?_
      . (unfold yE; go_simp; simp only [zN])
        refine (qL (getN t 16 2) (by omega) _).mono ?_;rintro e w' ⟨rfl, rfl⟩;exact ⟨_, rfl, Below.refl _ _, rfl⟩
      rintro v1 U1 hU1 rfl;simp only [zD]
      repeat ((first | refine lxM ?_ | refine lxF ?_ | refine zM rfl ?_); simp only [zD])
      refine zZ ?_;have hWU := zF hU hU1;have g4 := zK hWU H6.out.1;have hB4 := zF H6.out.2.2 hWU;clear q0 q2 q3 y0 y1 y2 y3 y4;obtain ⟨z0, z1, z2, z3, z4⟩ := box5 g4;have f1 : ∀ j, (U1).frozen? ⟨w.heap.size + 1, j, none⟩ = false := λ j => by simp [World.frozen?, g4]
      have hset := tS (.int .u64 0) (.int .u64 0) (.int .i64 0) (.int .i64 0) (.slice none 0 0) g4;have hX := rF U1 (w.heap.size + 1) (.int .u64 0) (.int .u64 0) (.int .i64 0) (.int .i64 0) (.slice none 0 0);have HS := zB (zC hset hX);clear hset hX
      go_wp2_with fail
      have hse := HS.out.1;have hX := HS.out.2;clear HS z0 z1 z2 z3 z4 f1;generalize World.setCell _ ⟨w.heap.size + 1, 4, none⟩ _ = We at hX hse ⊢;have hBe : Below w.heap.size w We := hB4.trans (hX.to_belowAt hB4.size λ k hk => by omega);obtain ⟨d0, d1, d2, d3, d4⟩ := box5 hse;refine ⟨rfl, .tuple #[.agg #[.int .u64 0, .int .u64 0, .int .i64 0, .int .i64 0, .slice none 0 0], .int .i64 50], ?_, ?_⟩
      . simp [results, Tryz.f116, go_sem, d0, d1, d2, d3, d4]
      refine ⟨?_, hBe⟩;rw [Hr2.out];rfl
    . have hix' : ¬ ((need (getN t 16 2) : Int) <= (getN t 18 2 : Int)) := by omega
      have hr2 := Hr.out;rw [if_neg (by rintro (h | h); exact h hnum; exact hix h)] at hr2
      have Hr2 := zB hr2;clear hnum hr2;refine zY (λ i => if i = 9 then some (λ v w' => v = .int .i64 (need (getN t 16 2))) else none) fol (by kernel_rfl) (λ U hU hh => ?_);clear hh;have q0 : ∀ w2, Below U.heap.size U w2 -> w2.cell? ⟨m, 0, none⟩ = some (.int .u64 (getN t 4 6)) := zV hU y0;have q2 : ∀ w2, Below U.heap.size U w2 -> w2.cell? ⟨m, 2, none⟩ = some (.int .i64 (getN t 16 2)) := zV hU y2;have q3 : ∀ w2, Below U.heap.size U w2 -> w2.cell? ⟨m, 3, none⟩ = some (.int .i64 (getN t 18 2)) := zV hU y3
      repeat ((first | refine lxM ?_ | refine lxF ?_ | refine zM rfl ?_); simp only [zD])
      refine zW _ rfl (λ _ _ _ h _ => h) rfl (λ w1 hb1 hf1 => ?_) ?_
      . (unfold yE; go_simp; simp only [zN])
        refine (qL (getN t 16 2) (by omega) _).mono ?_;rintro e w' ⟨rfl, rfl⟩;exact ⟨_, rfl, Below.refl _ _, rfl⟩
      rintro v1 U1 hU1 rfl;simp only [zD]
      repeat ((first | refine lxM ?_ | refine lxF ?_ | refine zM rfl ?_); simp only [zD])
      refine zZ ?_;have hWU := zF hU hU1;clear q0 q2 q3;have hU1c := H6.out.2.1;have hB1 := zF H6.out.2.2 hWU;have hgU := zK hWU H6.out.1;have hmU := zK hWU H6.out.2.1;have hownU := yA Hown6.out hWU;obtain ⟨hn1, hn2⟩ : getN t 16 2 <= 8192 /\ getN t 18 2 * 104 <= getN t 16 2 := by
       unfold need at hix
       split at hix
       . exact ⟨by assumption, by omega⟩
       . omega
      obtain ⟨yb, hyb⟩ : ∃ yb, getN t 16 2 = yb := ⟨_, rfl⟩;obtain ⟨yi, hyi⟩ : ∃ yi, getN t 18 2 = yi := ⟨_, rfl⟩;have hpe : sJ t = 20 + min 104 (yb - yi * 104) := by unfold sJ; rw [hyb, hyi]
      rw [hyb, hyi] at hmU;rw [hyb] at hn1 hn2 ⊢;rw [hyi] at hn2 ⊢;obtain ⟨d, hd⟩ : ∃ d, min 104 (yb - yi * 104) = d := ⟨_, rfl⟩;rw [hd] at hpe;have hdI : (if (yb : Int) - (yi : Int) * 104 < 104 then (yb : Int) - (yi : Int) * 104 else 104) = (d : Int) := by rw [<- hd]; split <;> omega
      have hd1 : d <= 104 := by omega
      have Hpe := zB (zC hyb (zC hyi hpe));have HU := zB (zC hgU (zC hmU hownU));obtain ⟨y0, y1, y2, y3, y4⟩ := box5 hmU;clear hU1c hgU hmU hownU hyb hyi hpe hd hix hix' l1 l2;rw [Hpe.out.2.2] at Hr2;by_cases hc20 : c = 20 + d
      . obtain rfl : d = 104 := by omega
        obtain rfl : c = 124 := by omega
        have hnil : t.drop (20 + 104) = [] := List.drop_eq_nil_of_le (by rw [hlt]; decide);have HC := zB (gZ (.slice (some ⟨g, 0, none⟩) 0 0) (t.drop (20 + 104)) U1 (by
         rw [hnil];exact .inl ⟨g, 0, 0, rfl, Nat.le_refl _, λ j u hu => by simp [u8s] at hu⟩) (by rw [List.length_drop, hlt]; decide))
        clear hnil hc20
        go_wp2_with fail
        refine HC.out.mono ?_;rintro e w' ⟨rfl, rfl⟩;clear HC
        cases hcl2 : rC (t.drop (20 + 104))
        . have Hr3 := zB (show xR x first size n = .error 50 from Hr2.out.trans (by rw [hcl2, if_neg (by decide)]));have g4 := HU.out.1;have hB4 := hB1;clear hcl2 y0 y1 y2 y3 y4 hdI;obtain ⟨z0, z1, z2, z3, z4⟩ := box5 g4;have f1 : ∀ j, (U1).frozen? ⟨w.heap.size + 1, j, none⟩ = false := λ j => by simp [World.frozen?, g4]
          have hset := tS (.int .u64 0) (.int .u64 0) (.int .i64 0) (.int .i64 0) (.slice none 0 0) g4;have hX := rF U1 (w.heap.size + 1) (.int .u64 0) (.int .u64 0) (.int .i64 0) (.int .i64 0) (.slice none 0 0);have HS := zB (zC hset hX);clear hset hX
          go_wp2_with fail
          have hse := HS.out.1;have hX := HS.out.2;clear HS z0 z1 z2 z3 z4 f1;generalize World.setCell _ ⟨w.heap.size + 1, 4, none⟩ _ = We at hX hse ⊢;have hBe : Below w.heap.size w We := hB4.trans (hX.to_belowAt hB4.size λ k hk => by omega);obtain ⟨d0, d1, d2, d3, d4⟩ := box5 hse;refine ⟨rfl, .tuple #[.agg #[.int .u64 0, .int .u64 0, .int .i64 0, .int .i64 0, .slice none 0 0], .int .i64 50], ?_, ?_⟩
          . simp [results, Tryz.f116, go_sem, d0, d1, d2, d3, d4]
          refine ⟨?_, hBe⟩;rw [Hr3.out];rfl
        . have Hr3 := zB (show xR x first size n = .ok (oB t ((t.take (20 + 104)).drop 20)) from Hr2.out.trans (by rw [hcl2, if_pos rfl]));clear hcl2 Hr2;have gm := HU.out.2.1;have fm : ∀ j, U1.frozen? ⟨m, j, none⟩ = false := λ j => by simp [World.frozen?, gm]
          have hset := uB (i := 4) (.slice (some ⟨g, 20, none⟩) 104 104) gm;have hX := Ext.setCell (S := (· = m)) (w := U1) (p := ⟨m, 4, none⟩) rfl (.slice (some ⟨g, 20, none⟩) 104 104);have gr := hX.heap HU.out.1 (λ e => hm1 e.symm);have fr : ∀ j, (U1.setCell ⟨m, 4, none⟩ (.slice (some ⟨g, 20, none⟩) 104 104)).frozen? ⟨w.heap.size + 1, j, none⟩ = false := λ j => by simp [World.frozen?, gr]
          obtain ⟨e0, e1, e2, e3, e4⟩ := box5 hset;obtain ⟨z0, z1, z2, z3, z4⟩ := box5 gr;have hset2 := tS (.int .u64 (getN t 4 6)) (.int .u64 (getN t 10 6)) (.int .i64 yb) (.int .i64 yi) (.slice (some ⟨g, 20, none⟩) 104 104) gr;have hX2 := rF (U1.setCell ⟨m, 4, none⟩ (.slice (some ⟨g, 20, none⟩) 104 104)) (w.heap.size + 1) (.int .u64 (getN t 4 6)) (.int .u64 (getN t 10 6)) (.int .i64 yb) (.int .i64 yi) (.slice (some ⟨g, 20, none⟩) 104 104);have HS := zB (zC hset2 (zC hX hX2));clear hset hset2 hX hX2 gm gr hdI
          go_wp2_with fail
          obtain ⟨hset2, hX, hX2⟩ := HS.out;clear HS e0 e1 e2 e3 e4 z0 z1 z2 z3 z4 fr fm y0 y1 y2 y3 y4;generalize World.setCell _ ⟨w.heap.size + 1, 4, none⟩ _ = We at hset2 hX2 ⊢;have hXX := ext_two hX hX2;have hBe : Below w.heap.size w We := hB1.trans (hXX.to_belowAt hB1.size λ k hk h => by rcases h with h | h <;> omega)
          have hw := win_of (xQ HU.out.2.2 hXX (λ k e h => by
           have e : g = k := by injection e
           subst e;exact h.elim hgm λ h => by omega)) (o := 20) (d := 104) (by omega)
          obtain ⟨d0, d1, d2, d3, d4⟩ := box5 hset2;refine ⟨rfl, .tuple #[.agg #[.int .u64 (getN t 4 6), .int .u64 (getN t 10 6), .int .i64 yb, .int .i64 yi, .slice (some ⟨g, 20, none⟩) 104 104], .int .i64 0], ?_, ?_, hBe⟩
          . simp [results, Tryz.f116, go_sem, d0, d1, d2, d3, d4]
          . rw [Hr3.out];refine ⟨_, ?_, hw⟩;simp only [oB, Hpe.out.1, Hpe.out.2.1]
      . have hsD := iK (Src.of_owns HU.out.2.2) (m := 20 + d) (by rw [zH, hlt]; omega) (c - (20 + d)) (by rw [zH, hlt]; omega);rw [<- tL, zH, hlt, Nat.zero_add] at hsD;have HC := zB (gZ _ (t.drop (20 + d)) U1 hsD (by rw [List.length_drop, hlt]; omega));clear hsD
        go_wp2_with fail
        refine HC.out.mono ?_;rintro e w' ⟨rfl, rfl⟩;clear HC
        cases hcl2 : rC (t.drop (20 + d))
        . have Hr3 := zB (show xR x first size n = .error 50 from Hr2.out.trans (by rw [hcl2, if_neg (by decide)]));have g4 := HU.out.1;have hB4 := hB1;clear hcl2 y0 y1 y2 y3 y4 hdI;obtain ⟨z0, z1, z2, z3, z4⟩ := box5 g4;have f1 : ∀ j, (U1).frozen? ⟨w.heap.size + 1, j, none⟩ = false := λ j => by simp [World.frozen?, g4]
          have hset := tS (.int .u64 0) (.int .u64 0) (.int .i64 0) (.int .i64 0) (.slice none 0 0) g4;have hX := rF U1 (w.heap.size + 1) (.int .u64 0) (.int .u64 0) (.int .i64 0) (.int .i64 0) (.slice none 0 0);have HS := zB (zC hset hX);clear hset hX
          go_wp2_with fail
          have hse := HS.out.1;have hX := HS.out.2;clear HS z0 z1 z2 z3 z4 f1;generalize World.setCell _ ⟨w.heap.size + 1, 4, none⟩ _ = We at hX hse ⊢;have hBe : Below w.heap.size w We := hB4.trans (hX.to_belowAt hB4.size λ k hk => by omega);obtain ⟨d0, d1, d2, d3, d4⟩ := box5 hse;refine ⟨rfl, .tuple #[.agg #[.int .u64 0, .int .u64 0, .int .i64 0, .int .i64 0, .slice none 0 0], .int .i64 50], ?_, ?_⟩
          . simp [results, Tryz.f116, go_sem, d0, d1, d2, d3, d4]
          refine ⟨?_, hBe⟩;rw [Hr3.out];rfl
        . have Hr3 := zB (show xR x first size n = .ok (oB t ((t.take (20 + d)).drop 20)) from Hr2.out.trans (by rw [hcl2, if_pos rfl]));clear hcl2 Hr2;have gm := HU.out.2.1;have fm : ∀ j, U1.frozen? ⟨m, j, none⟩ = false := λ j => by simp [World.frozen?, gm]
          have hset := uB (i := 4) (.slice (some ⟨g, 20, none⟩) d (c - 20)) gm;have hX := Ext.setCell (S := (· = m)) (w := U1) (p := ⟨m, 4, none⟩) rfl (.slice (some ⟨g, 20, none⟩) d (c - 20));have gr := hX.heap HU.out.1 (λ e => hm1 e.symm);have fr : ∀ j, (U1.setCell ⟨m, 4, none⟩ (.slice (some ⟨g, 20, none⟩) d (c - 20))).frozen? ⟨w.heap.size + 1, j, none⟩ = false := λ j => by simp [World.frozen?, gr]
          obtain ⟨e0, e1, e2, e3, e4⟩ := box5 hset;obtain ⟨z0, z1, z2, z3, z4⟩ := box5 gr;have hset2 := tS (.int .u64 (getN t 4 6)) (.int .u64 (getN t 10 6)) (.int .i64 yb) (.int .i64 yi) (.slice (some ⟨g, 20, none⟩) d (c - 20)) gr;have hX2 := rF (U1.setCell ⟨m, 4, none⟩ (.slice (some ⟨g, 20, none⟩) d (c - 20))) (w.heap.size + 1) (.int .u64 (getN t 4 6)) (.int .u64 (getN t 10 6)) (.int .i64 yb) (.int .i64 yi) (.slice (some ⟨g, 20, none⟩) d (c - 20));have HS := zB (zC hset2 (zC hX hX2));clear hset hset2 hX hX2 gm gr hdI
          go_wp2_with fail
          obtain ⟨hset2, hX, hX2⟩ := HS.out;clear HS e0 e1 e2 e3 e4 z0 z1 z2 z3 z4 fr fm y0 y1 y2 y3 y4;generalize World.setCell _ ⟨w.heap.size + 1, 4, none⟩ _ = We at hset2 hX2 ⊢;have hXX := ext_two hX hX2;have hBe : Below w.heap.size w We := hB1.trans (hXX.to_belowAt hB1.size λ k hk h => by rcases h with h | h <;> omega)
          have hw := win_of (xQ HU.out.2.2 hXX (λ k e h => by
           have e : g = k := by injection e
           subst e;exact h.elim hgm λ h => by omega)) (o := 20) (d := d) (by omega)
          obtain ⟨d0, d1, d2, d3, d4⟩ := box5 hset2;refine ⟨rfl, .tuple #[.agg #[.int .u64 (getN t 4 6), .int .u64 (getN t 10 6), .int .i64 yb, .int .i64 yi, .slice (some ⟨g, 20, none⟩) d (c - 20)], .int .i64 0], ?_, ?_, hBe⟩
          . simp [results, Tryz.f116, go_sem, d0, d1, d2, d3, d4]
          . rw [Hr3.out];refine ⟨_, ?_, hw⟩;simp only [oB, Hpe.out.1, Hpe.out.2.1]
  . have e1 : ((getN t 4 6 : Int) != (n : Int)) = true := by rw [bne_iff_ne]; omega
    have Hr2 := zB (show xR x first size n = .error 50 by rw [Hr.out, if_pos (.inl hnum)]);clear hnum;refine zY (λ i => if i = 9 then some (λ v w' => v = .int .i64 (need (getN t 16 2))) else none) fol (by kernel_rfl) (λ U hU hh => ?_);clear hh;have q0 : ∀ w2, Below U.heap.size U w2 -> w2.cell? ⟨m, 0, none⟩ = some (.int .u64 (getN t 4 6)) := zV hU y0;have q2 : ∀ w2, Below U.heap.size U w2 -> w2.cell? ⟨m, 2, none⟩ = some (.int .i64 (getN t 16 2)) := zV hU y2;have q3 : ∀ w2, Below U.heap.size U w2 -> w2.cell? ⟨m, 3, none⟩ = some (.int .i64 (getN t 18 2)) := zV hU y3
    repeat ((first | refine lxM ?_ | refine lxF ?_ | refine zM rfl ?_); simp only [zD])
    refine zZ ?_;have g4 := zK hU H6.out.1;have hB4 := zF H6.out.2.2 hU;clear q0 q2 q3 y0 y1 y2 y3 y4;obtain ⟨z0, z1, z2, z3, z4⟩ := box5 g4;have f1 : ∀ j, (U).frozen? ⟨w.heap.size + 1, j, none⟩ = false := λ j => by simp [World.frozen?, g4]
    have hset := tS (.int .u64 0) (.int .u64 0) (.int .i64 0) (.int .i64 0) (.slice none 0 0) g4;have hX := rF U (w.heap.size + 1) (.int .u64 0) (.int .u64 0) (.int .i64 0) (.int .i64 0) (.slice none 0 0);have HS := zB (zC hset hX);clear hset hX
    go_wp2_with fail
    have hse := HS.out.1;have hX := HS.out.2;clear HS z0 z1 z2 z3 z4 f1;generalize World.setCell _ ⟨w.heap.size + 1, 4, none⟩ _ = We at hX hse ⊢;have hBe : Below w.heap.size w We := hB4.trans (hX.to_belowAt hB4.size λ k hk => by omega);obtain ⟨d0, d1, d2, d3, d4⟩ := box5 hse;refine ⟨rfl, .tuple #[.agg #[.int .u64 0, .int .u64 0, .int .i64 0, .int .i64 0, .slice none 0 0], .int .i64 50], ?_, ?_⟩
    . simp [results, Tryz.f116, go_sem, d0, d1, d2, d3, d4]
    refine ⟨?_, hBe⟩;rw [Hr2.out];rfl
theorem splice_take (L : List Value) (o n : Nat) (ys : List Value) (xs : List Value) (hx : (L.drop o).take n = xs) (hl : o + n + ys.length <= L.length) (hn : xs.length = n) : ((L.take (o + n) ++ ys ++ L.drop (o + n + ys.length)).drop o).take (n + ys.length) = xs ++ ys := by
 have e1 : (L.take (o + n)).length = o + n := by rw [List.length_take]; omega
 have e2 : (L.take (o + n)).drop o = xs := by rw [<- hx, List.drop_take, Nat.add_sub_cancel_left]
 rw [List.append_assoc, List.drop_append_of_le_length (by omega), e2, <- List.append_assoc];rw [List.take_append_of_le_length (by rw [List.length_append]; omega), List.take_of_length_le (by rw [List.length_append]; omega)]
theorem run_win_append {w : World} {base : Nat} {v : Value} {xs ys : List Value} {u : Value} (h : Win w base v xs) (hu : ∃ a m c, u = .slice (some a) m c) (hy : Src w u ys) (h1 : ∀ u ∈ ys, u.oneCell' = true) (hb : xs.length + ys.length <= 549755813888) (hbase : base <= w.heap.size) (ty : TypeId) :
 ∃ v' w', (Builtin.append_ #[52, 52] ty #[v, u]).run Tryz.prog w = .ok v' w' /\ Win w' base v' (xs ++ ys) /\ Below base w w' /\ ∀ (k : Nat) (o : Obj), w.heap[k]? = some o -> (∀ L : Array Value, o ≠ Obj.cells L 5 (0, 0)) -> w'.heap[k]? = some o := by
 obtain ⟨i0, hi, hz0, hz1, hz2⟩ := info_parts tR;have hsrc0 := h.src;obtain ⟨g, o, c, L, rfl, hg, hr, hc, hcm, hoc, ht⟩ := h;obtain ⟨a, m, c', rfl⟩ := hu;obtain ⟨g', o', c'', e1, hy2⟩ : ∃ g' o' c'', Value.slice (some a) m c' = .slice (some ⟨g', o', none⟩) ys.length c'' /\ ∀ j u, ys[j]? = some u -> w.cell? ⟨g', o' + j, none⟩ = some u := by
  rcases hy with ⟨g', o', c'', e1, -, hy⟩ | ⟨e1, -⟩
  . exact ⟨g', o', c'', e1, hy⟩
  . injection e1 with e1; cases e1
 injection e1 with e1 e2 e3;injection e1 with e1;subst e1 e2 e3;have hyc : ∀ j u, ys[j]? = some u -> w.cell? ((⟨g', o', none⟩ : Addr).add j) = some u := λ j u hu => by rw [Addr.add_lit]; exact hy2 j u hu
 by_cases hroom : xs.length + ys.length <= c
 . have hf := run_firstCells_some (P := Tryz.prog) w i0.size ys.length ⟨g', o', none⟩ ys.length c' ys (by rw [hz1, Nat.mul_one]) hyc;have hst := Go.run_storeCells_at Tryz.prog g (o + xs.length) 5 ys 0 L.toArray w hr (by simp; omega) h1;simp only [Nat.add_zero] at hst;refine ⟨.slice (some ⟨g, o, none⟩) (xs.length + ys.length) c, w.setRow g (L.take (o + xs.length) ++ ys ++ L.drop (o + xs.length + ys.length)).toArray, ?_, ?_, ?_, ?_⟩
   . rw [hz1] at hf;simp [Builtin.append_, run_underlying xW, sizeOf, typeInfo, hi, hz1, Builtin.lenOf, hroom, hf, Addr.add_lit, hst]
   . refine ⟨g, o, c, _, by rw [List.length_append], hg, pV hr _, by rw [List.length_append]; exact hroom, hcm, ?_, ?_⟩
     . simp only [List.length_append, List.length_take, List.length_drop]; omega
     . rw [List.length_append];exact splice_take L o xs.length ys xs ht (by omega) rfl
   . exact (sF w g _).to_belowAt hbase λ k hk => by omega
   . intro k ob hk hn;rw [setRow_other w g k _ (λ e => by subst e; rw [hr] at hk; injection hk with hk; exact hn _ hk.symm)];exact hk
 . have holds : ∀ j u, xs[j]? = some u -> w.cell? ((⟨g, o, none⟩ : Addr).add j) = some u := λ j u hu => by
    rw [Addr.add_lit];rcases hsrc0 with ⟨g1, o1, c1, e1, -, hs⟩ | ⟨e1, -⟩
    . injection e1 with e1;injection e1 with e1;injection e1 with e1 e2;subst e1 e2;exact hs j u hu
    . injection e1 with e1; cases e1
   have hgr := run_append_grow (P := Tryz.prog) w 52 ty 5 i0 (.int .u8 0) xW hi hz0 ⟨g, o, none⟩ xs.length c xs (by rw [hz1, Nat.mul_one]) holds ⟨g', o', none⟩ ys.length c' ys (by rw [hz1, Nat.mul_one]) hyc (by omega) (by omega) (growslice_fits (by omega) (by rw [hz2]; omega));have hge := grownCap_ge w (xs.length + ys.length) c 5;have hcm2 := grownCap_le_maxLen w (xs.length + ys.length) c 5 (by unfold maxLen; omega);refine ⟨_, _, hgr, ?_, ?_, ?_⟩
   . refine ⟨w.heap.size, 0, _, xs ++ ys ++ (Builtin.zeroCells (Value.int .u8 0).cells (grownCap w (xs.length + ys.length) c 5 - (xs.length + ys.length))).toList, by rw [List.length_append], hbase, ?_, by rw [List.length_append]; exact hge, hcm2, ?_, ?_⟩
     . have := heap_alloc_new w.drew (.cells (xs.toArray ++ ys.toArray ++ Builtin.zeroCells (Value.int .u8 0).cells (grownCap w (xs.length + ys.length) c 5 - (xs.length + ys.length))) 5);unfold Row;rw [show w.drew.heap.size = w.heap.size from rfl] at this;rw [this]
       congr 2
       apply Array.ext';simp
     . simp only [List.length_append, Array.length_toList, size_zeroCells];show _ <= xs.length + ys.length + _ * 1;omega
     . rw [List.drop_zero, List.take_append_of_le_length (Nat.le_refl _), List.take_length]
   . exact (((Below.refl _ w).mono hbase).drew).alloc (by simpa using hbase) _
   . intro k ob hk hn;exact zK (((Below.refl _ w).drew).alloc (Nat.le_refl _) _) hk
theorem Win.shape {w : World} {base : Nat} {v : Value} {xs : List Value} (h : Win w base v xs) : ∃ g o n c, v = .slice (some ⟨g, o, none⟩) n c := by
 obtain ⟨g, o, c, L, rfl, -⟩ := h;exact ⟨_, _, _, _, rfl⟩
def oM (x : Dsk) (first size n : Nat) (p0 : qC) : Nat -> Except Int (List Int)
 | 0 => .ok p0.data
 | k + 1 => match oM x first size n p0 k with
  | .error c => .error c
  | .ok d => match xR x first size (n + (k + 1)) with
   | .error c => .error c
   | .ok p => if p.index ≠ k + 1 \/ p.bytes ≠ p0.bytes \/ p.epoch ≠ p0.epoch then .error 50 else .ok (d ++ p.data)
def xL (x : Dsk) (first size n least most : Nat) : Except Int (List Int × Nat) := match xR x first size n with
 | .error c => .error c
 | .ok p0 => if p0.index ≠ 0 \/ p0.epoch < least \/ most < p0.epoch then .error 50 else match oM x first size n p0 (need p0.bytes - 1) with
  | .error c => .error c
  | .ok d => .ok (d, p0.epoch)
def RecPost (r : Except Int (List Int × Nat)) (B : Nat) (e : Ending) (w' : World) : Prop := match r with
 | .ok d => ∃ u, e = .returned (.tuple #[u, .int .u64 d.2, .int .i64 0]) /\ Win w' B u (u8s d.1)
 | .error k => k ≠ 0 /\ e = .returned (.tuple #[.slice none 0 0, .int .u64 0, .int .i64 k])
theorem lS {x : Dsk} {first size n : Nat} {p0 : qC} {c : Int} {k K : Nat} (h : oM x first size n p0 k = .error c) (hk : k <= K) : oM x first size n p0 K = .error c := by
 induction K with
 | zero => rw [Nat.le_zero.1 hk] at h; exact h
 | succ K ih =>
  rcases Nat.eq_or_lt_of_le hk with rfl | hk
  . exact h
  . unfold oM;rw [ih (Nat.lt_succ_iff.1 hk)]
theorem lY {x : Dsk} {first size n : Nat} {p : qC} (h : xR x first size n = .ok p) : p.data.length <= 104 /\ p.num = n /\ p.index < need p.bytes /\ p.bytes <= 8192 := by
 unfold xR at h
 split at h
 . cases h
 . rename_i t ht
   split at h
   . cases h
   . rename_i hc
     split at h
     . injection h with h;subst h;have h1 : ¬ need (getN t 16 2) <= getN t 18 2 := λ e => hc (.inr e);have h2 : getN t 4 6 = n := Classical.byContradiction λ e => hc (.inl e);refine ⟨?_, h2, Nat.lt_of_not_le h1, ?_⟩
       . simp only [oB, List.length_drop, List.length_take, sJ]; omega
       . show getN t 16 2 <= 8192;unfold need at h1
         split at h1
         . assumption
         . omega
     . cases h
theorem pieceR_err {x : Dsk} {first size n : Nat} {c : Int} (h : xR x first size n = .error c) : c ≠ 0 := by
 unfold xR at h
 split at h
 . rename_i e;injection h with h;subst h;rcases mN e with rfl | rfl | rfl <;> decide
 . split at h
   . injection h with h; subst h; decide
   . split at h
     . cases h
     . injection h with h; subst h; decide
theorem recUp_len {x : Dsk} {first size n : Nat} {p0 : qC} (h0 : p0.data.length <= 104) {k : Nat} {d : List Int} (h : oM x first size n p0 k = .ok d) : d.length <= 104 * (k + 1) := by
 induction k generalizing d with
 | zero => injection h with h; subst h; omega
 | succ k ih =>
  unfold oM at h
  split at h
  . cases h
  . rename_i d' hd'
    split at h
    . cases h
    . rename_i p hp
      split at h
      . cases h
      . injection h with h;subst h;have h1 := ih hd';have h2 := (lY hp).1;rw [List.length_append];omega
theorem qK (n : Nat) (h : n <= 8192) : 1 <= need n /\ need n <= 79 := by
 unfold need;rw [if_pos h];omega
theorem record_any (b : Bks) (x : Dsk) (first size n least most : Nat) (hn : n <= 9223372036854775807) (h1 : 2 < size) (h2 : first + size <= x.dur.length) (w : World) (h : wQ w b x) (hk : x.ok) (hP : Pkg w) :
 Calls Tryz.prog 82 #[vH b first size, .int .u64 n, .int .u64 least, .int .u64 most] w λ e w' => RecPost (xL x first size n least most) w.heap.size e w' /\ Below w.heap.size w w' := by
 have hb := zQ w (.cells #[.pointer (some ⟨b.d, 0, none⟩), .int .i64 first, .int .i64 size] 126);have g0 := World.alloc_heap_new w (.cells #[.pointer (some ⟨b.d, 0, none⟩), .int .i64 first, .int .i64 size] 126);have HI := zB λ w' (hw : Below w.heap.size w w') n' (hn' : n' < 18446744073709551616) => piece_any b x first size n' hn' h1 h2 w' (h.below hw) hk (hP.below hw);clear h hk hP;unfold vH at HI ⊢;go_enter Tryz.func82, Tryz.ntmps82
 go_wp2_with fail
 generalize World.alloc w _ = w1 at hb g0 ⊢;have c0 : w1.cell? ⟨w.heap.size, 0, none⟩ = some (.pointer (some ⟨b.d, 0, none⟩)) /\ w1.cell? ⟨w.heap.size, 1, none⟩ = some (.int .i64 first) /\ w1.cell? ⟨w.heap.size, 2, none⟩ = some (.int .i64 size) := by simp [World.cell?, g0]
 obtain ⟨p0, p1, p2⟩ := c0;refine (HI.out w1 hb n (by omega)).mono ?_;rintro e w2 ⟨hpost, hb2⟩;have hB2 := hb.trans (hb2.mono hb.size)
 cases hr : xR x first size n with
 | error c =>
  rw [hr] at hpost;obtain rfl : e = _ := hpost;have Hr := zB (show xL x first size n least most = .error c by unfold xL; rw [hr]);have hc0 := pieceR_err hr;have hc : (c != 0) = true := by simp [hc0]
  clear hr
  go_wp2_with fail
  refine ⟨rfl, .tuple #[.slice none 0 0, .int .u64 0, .int .i64 c], by simp [results, Tryz.f82, go_sem], ?_, ?_⟩
  . rw [Hr.out];exact ⟨hc0, rfl⟩
  . exact hB2.alloc (by have := hB2.size; simpa using this) _
 | ok q =>
  rw [hr] at hpost;obtain ⟨u, rfl, hw⟩ := hpost;obtain ⟨ug, uo, ul, uc, rfl⟩ := hw.shape;have hq := lY hr;have hnd := qK q.bytes hq.2.2.2;have hrr : xL x first size n least most = if q.index ≠ 0 \/ q.epoch < least \/ most < q.epoch then .error 50 else match oM x first size n q (need q.bytes - 1) with
   | .error c => .error c
   | .ok d => .ok (d, q.epoch) := by unfold xL; rw [hr]
  have HR := zB hrr;clear hr hrr p0 p1 p2;obtain ⟨qn, qe, qb, qi, qd⟩ := q;simp only at hq hnd hw ⊢;obtain ⟨hq1, rfl, hq3, hq4⟩ := hq;have hw := hw.base hb.size;obtain ⟨m, hm⟩ : ∃ m, w2.heap.size = m := ⟨_, rfl⟩;have hs2 := hB2.size;rw [hm] at hs2;have g0 := zK hb2 g0;have g3 := World.alloc_heap_new w2 (.cells #[.int .u64 qn, .int .u64 qe, .int .i64 qb, .int .i64 qi, .slice (some ⟨ug, uo, none⟩) ul uc] 138);have hb3 := zQ w2 (.cells #[.int .u64 qn, .int .u64 qe, .int .i64 qb, .int .i64 qi, .slice (some ⟨ug, uo, none⟩) ul uc] 138);have g0 := zK hb3 g0;have hw3 := hw.below hb3;clear hw;have hB3 := zF hB2 hb3;rw [hm] at g3;obtain ⟨k0, k1, k2, k3, k4⟩ := box5 g3;by_cases c1 : qi = 0
  . subst c1;by_cases c2 : qe < least
    . have c2' : (qe : Int) < (least : Int) := by omega
      have Hr := zB (HR.out.trans (if_pos (.inr (.inl c2))))
      go_wp2_with fail
      refine ⟨rfl, .tuple #[.slice none 0 0, .int .u64 0, .int .i64 50], by simp [results, Tryz.f82, go_sem], ?_, hB3⟩;rw [Hr.out];exact ⟨by decide, rfl⟩
    . have c2' : ¬ (qe : Int) < (least : Int) := by omega
      by_cases c3 : most < qe
      . have c3' : (most : Int) < (qe : Int) := by omega
        have Hr := zB (HR.out.trans (if_pos (.inr (.inr c3))))
        go_wp2_with fail
        refine ⟨rfl, .tuple #[.slice none 0 0, .int .u64 0, .int .i64 50], by simp [results, Tryz.f82, go_sem], ?_, hB3⟩;rw [Hr.out];exact ⟨by decide, rfl⟩
      . have c3' : ¬ (most : Int) < (qe : Int) := by omega
        have hrr := HR.out.trans (if_neg (by rintro (h | h | h); exact h rfl; exact c2 h; exact c3 h))
        simp only at hrr;have Hr := zB hrr;clear hrr HR
        go_wp2_with fail
        obtain ⟨q0, hq0⟩ : ∃ q0 : qC, (⟨qn, qe, qb, 0, qd⟩ : qC) = q0 := ⟨_, rfl⟩;have HQ := zB (show q0.bytes = qb /\ q0.epoch = qe /\ q0.data = qd by rw [<- hq0]; exact ⟨rfl, rfl, rfl⟩);rw [hq0] at Hr;clear hq0 k0 k1 k2 k3 k4;generalize World.alloc w2 _ = w3 at g3 g0 hb3 hB3 hw3 ⊢;clear hb2 hB2 hb3
        go_loopw [8, 12] (λ vr vi wr => ∃ (i : Nat) (d : List Int), vi = .int .i64 i /\ 1 <= i /\ i <= need qb /\ oM x first size qn q0 (i - 1) = .ok d /\ Win wr w.heap.size vr (u8s d) /\ Below w.heap.size w wr /\
         wr.heap[w.heap.size]? = some (.cells #[.pointer (some ⟨b.d, 0, none⟩), .int .i64 first, .int .i64 size] 126 (0, 0)) /\ wr.heap[m]? = some (.cells #[.int .u64 qn, .int .u64 qe, .int .i64 qb, .int .i64 0, .slice (some ⟨ug, uo, none⟩) ul uc] 138 (0, 0))) (λ _ vi _ => 100 - (intOf vi).toNat)
        case atStart => exact ⟨1, qd, rfl, Nat.le_refl _, hnd.1, by rw [<- HQ.out.2.2]; rfl, hw3, hB3, g0, g3⟩
        case round =>
         obtain ⟨i, d, rfl, hi1, hi2, hd, hwr, hB, e0, e3⟩ := hrel;clear hw3 hB3 g0 g3;obtain ⟨j, rfl⟩ : ∃ j, i = j + 1 := ⟨i - 1, by omega⟩;rw [Nat.add_sub_cancel] at hd;have hj : j + 1 <= 79 := by omega
         obtain ⟨k0, k1, k2, k3, k4⟩ := box5 e3;have p0 : wr.cell? ⟨w.heap.size, 0, none⟩ = some (.pointer (some ⟨b.d, 0, none⟩)) /\ wr.cell? ⟨w.heap.size, 1, none⟩ = some (.int .i64 first) /\ wr.cell? ⟨w.heap.size, 2, none⟩ = some (.int .i64 size) := by simp [World.cell?, e0]
         obtain ⟨p0, p1, p2⟩ := p0;have HN := zB (qL qb (by omega) wr);have Hwr := zB hwr; clear hwr;have Hd := zB hd; clear hd;by_cases hlt : j + 1 < need qb
         . have hii : (((j + 1 : Nat) : Int)) < (need qb : Int) := by omega
           go_wp2_with fail
           refine HN.out.mono ?_;rintro e w' ⟨rfl, rfl⟩;clear HN
           go_wp2_with fail
           rw [show (qn : Int) + ((j : Int) + 1) = ((qn + (j + 1) : Nat) : Int) by omega];refine (HI.out wr hB (qn + (j + 1)) (by omega)).mono ?_;rintro e w4 ⟨hpost, hb4⟩;have hB4 := hB.trans (hb4.mono hB.size);have hstep : oM x first size qn q0 (j + 1) = match xR x first size (qn + (j + 1)) with
            | .error c => .error c
            | .ok p => if p.index ≠ j + 1 \/ p.bytes ≠ q0.bytes \/ p.epoch ≠ q0.epoch then .error 50 else .ok (d ++ p.data) := by
            show (match oM x first size qn q0 j with | .error c => _ | .ok d => _) = _
            rw [Hd.out]
           rw [HQ.out.1, HQ.out.2.1] at hstep
           cases hr2 : xR x first size (qn + (j + 1)) with
           | error c =>
            rw [hr2] at hpost hstep;obtain rfl : e = _ := hpost;have hc0 := pieceR_err hr2;have hc : (c != 0) = true := by simp [hc0]
            have Hr2 := zB (show xL x first size qn least most = .error c by rw [Hr.out, lS hstep (show j + 1 <= need qb - 1 by omega)]);have hs4 := hB4.size;clear hr2 hstep
            go_wp2_with fail
            refine ⟨rfl, .tuple #[.slice none 0 0, .int .u64 0, .int .i64 c], by simp [results, Tryz.f82, go_sem], ?_, hB4.alloc hs4 _⟩;rw [Hr2.out];exact ⟨hc0, rfl⟩
           | ok p =>
            rw [hr2] at hpost hstep;have hp := lY hr2;have hdl := recUp_len (by rw [HQ.out.2.2]; exact hq1) Hd.out;obtain ⟨pn, pe, pb, pi, pd⟩ := p;obtain ⟨u, rfl, hw5⟩ := hpost;obtain ⟨vg, vo, vl, vc, rfl⟩ := hw5.shape;simp only at hstep hw5 hp ⊢;have hpd := hp.1;have hpb := hp.2.2.2;have hpi := hp.2.2.1;have hpn := (qK pb hpb).2;have hm2 : m < w4.heap.size := Nat.lt_of_lt_of_le (zI e3) hb4.size;have e0 := zK hb4 e0;have e3 := zK hb4 e3;have hwr := Hwr.out.below hb4;have hb5 := zQ w4 (.cells #[.int .u64 pn, .int .u64 pe, .int .i64 pb, .int .i64 pi, .slice (some ⟨vg, vo, none⟩) vl vc] 138);have e5 := World.alloc_heap_new w4 (.cells #[.int .u64 pn, .int .u64 pe, .int .i64 pb, .int .i64 pi, .slice (some ⟨vg, vo, none⟩) vl vc] 138);have e0 := zK hb5 e0;have e3 := zK hb5 e3;have hwr := hwr.below hb5;have hw5 := hw5.below hb5;have hB5 := zF hB4 hb5;obtain ⟨n0, n1, n2, n3, n4⟩ := box5 e5;obtain ⟨k0, k1, k2, k3, k4⟩ := box5 e3;have Hwr5 := zB (zC hwr hw5);clear hr2 hp hwr hw5 Hwr;by_cases c1 : pi = j + 1
            . by_cases c4 : pb = qb
              . by_cases c5 : pe = qe
                . have c5' : ((pe : Int) != (qe : Int)) = false := by rw [bne_eq_false_iff_eq]; omega
                  have c4' : ((pb : Int) != (qb : Int)) = false := by rw [bne_eq_false_iff_eq]; omega
                  have c1' : ((pi : Int) != ((j : Int) + 1)) = false := by rw [bne_eq_false_iff_eq]; omega
                  rw [if_neg (by rintro (h | h | h); exact h c1; exact h c4; exact h c5)] at hstep
                  have Hst := zB hstep;obtain ⟨v', w6, hrun, hw6, hb6, hkeep⟩ := run_win_append Hwr5.out.1 ⟨_, _, _, rfl⟩ Hwr5.out.2.src (yU _) (by rw [zH, zH]; omega) hB5.size 52;have hB6 := hB5.trans hb6;have e0 := hkeep _ _ e0 (by intro L h; injection h with _ h; exact absurd h (by decide));have e3 := hkeep _ _ e3 (by intro L h; injection h with _ h; exact absurd h (by decide));rw [<- xI] at hw6;have HE := zB (zC hw6 (zC hB6 (zC e0 e3)));have hne : j + 2 <= need qb := by omega
                  have Hne := zB hne;have Hrun := zB hrun;clear c1 c4 c5 hstep hw6 hB6 e0 e3 hb6 hkeep Hwr5 hB5 HI hne hrun
                  go_wp2_with (at_builtin; go_loud (refine yW rfl (yM (.tmp 78) (.tmp 80) 52 52 rfl Hrun.out) ?_))
                  refine ⟨⟨j + 2, d ++ pd, by simp; omega, by omega, Hne.out, Hst.out, HE.out.1, HE.out.2.1, HE.out.2.2.1, HE.out.2.2.2⟩, ?_⟩;show 100 - ((j : Int) + 1 + 1).toNat < 100 - ((j : Int) + 1).toNat;omega
                . have c5' : ((pe : Int) != (qe : Int)) = true := by rw [bne_iff_ne]; omega
                  have c4' : ((pb : Int) != (qb : Int)) = false := by rw [bne_eq_false_iff_eq]; omega
                  have c1' : ((pi : Int) != ((j : Int) + 1)) = false := by rw [bne_eq_false_iff_eq]; omega
                  rw [if_pos (.inr (.inr c5))] at hstep;clear c1 c4 c5;have Hr2 := zB (show xL x first size qn least most = .error 50 by rw [Hr.out, lS hstep (show j + 1 <= need qb - 1 by omega)]);clear hstep
                  go_wp2_with fail
                  refine ⟨rfl, .tuple #[.slice none 0 0, .int .u64 0, .int .i64 50], by simp [results, Tryz.f82, go_sem], ?_, hB5⟩;rw [Hr2.out];exact ⟨by decide, rfl⟩
              . have c4' : ((pb : Int) != (qb : Int)) = true := by rw [bne_iff_ne]; omega
                have c1' : ((pi : Int) != ((j : Int) + 1)) = false := by rw [bne_eq_false_iff_eq]; omega
                rw [if_pos (.inr (.inl c4))] at hstep;clear c1 c4;have Hr2 := zB (show xL x first size qn least most = .error 50 by rw [Hr.out, lS hstep (show j + 1 <= need qb - 1 by omega)]);clear hstep
                go_wp2_with fail
                refine ⟨rfl, .tuple #[.slice none 0 0, .int .u64 0, .int .i64 50], by simp [results, Tryz.f82, go_sem], ?_, hB5⟩;rw [Hr2.out];exact ⟨by decide, rfl⟩
            . have c1' : ((pi : Int) != ((j : Int) + 1)) = true := by rw [bne_iff_ne]; omega
              rw [if_pos (.inl c1)] at hstep;clear c1;have Hr2 := zB (show xL x first size qn least most = .error 50 by rw [Hr.out, lS hstep (show j + 1 <= need qb - 1 by omega)]);clear hstep
              go_wp2_with fail
              refine ⟨rfl, .tuple #[.slice none 0 0, .int .u64 0, .int .i64 50], by simp [results, Tryz.f82, go_sem], ?_, hB5⟩;rw [Hr2.out];exact ⟨by decide, rfl⟩
         . have hjn : need qb - 1 = j := by omega
           have hii : ¬ (((j + 1 : Nat) : Int)) < (need qb : Int) := by omega
           have Hr2 := zB (show xL x first size qn least most = .ok (d, qe) by rw [Hr.out, hjn, Hd.out]);clear hjn HI
           go_wp2_with fail
           refine HN.out.mono ?_;rintro e w' ⟨rfl, rfl⟩;clear HN
           go_wp2_with fail
           refine zY (λ _ => none) fol (by kernel_rfl) (λ W hW hh => ?_);clear hh;have q1 := zV hW k1
           repeat ((first | refine lxM ?_ | refine lxF ?_ | refine zM rfl ?_); simp only [zD])
           refine zZ ?_;have hwW := Hwr.out.below hW;have hBW := zF hB hW;clear q1
           go_wp2_with fail
           refine ⟨rfl, .tuple #[_, .int .u64 qe, .int .i64 0], by simp [results, Tryz.f82, go_sem]; rfl, ?_, hBW⟩;rw [Hr2.out];exact ⟨_, rfl, hwW⟩
  . have c1' : ((qi : Int) != 0) = true := by rw [bne_iff_ne]; omega
    have Hr := zB (HR.out.trans (if_pos (.inl c1)))
    go_wp2_with fail
    refine ⟨rfl, .tuple #[.slice none 0 0, .int .u64 0, .int .i64 50], by simp [results, Tryz.f82, go_sem], ?_, hB3⟩;rw [Hr.out];exact ⟨by decide, rfl⟩
def nums (l : List Nat) : List Value := l.map λ (n : Nat) => .int .u64 (n : Int)
theorem xE (l : List Nat) : (nums l).length = l.length := by simp [nums]
theorem iP (l : List Nat) : ∀ u ∈ nums l, u.oneCell' = true := by
 intro u hu;obtain ⟨b, -, rfl⟩ := List.mem_map.1 hu;rfl
theorem iQ {l : List Nat} {i : Nat} {n : Nat} (h : l[i]? = some n) : (nums l)[i]? = some (.int .u64 n) := by simp [nums, h]
def posU (l : List Nat) (x : Nat) : Nat := l.countP λ y => decide (y < x)
theorem rQ : ∀ {l : List Nat} {x i : Nat} (_ : i <= l.length) (_ : ∀ q n, q < i -> l[q]? = some n -> n < x) (_ : ∀ q n, i <= q -> l[q]? = some n -> x <= n), posU l x = i
 | [], x, i, hi, _, _ => by simp at hi; subst hi; rfl
 | y :: l, x, 0, _, _, h2 => by
  have h0 := h2 0 y (Nat.le_refl _) rfl;have := rQ (l := l) (x := x) (i := 0) (Nat.zero_le _) (λ q n hq => absurd hq (Nat.not_lt_zero _)) (λ q n _ hn => h2 (q + 1) n (Nat.zero_le _) (by simpa using hn));unfold posU at this ⊢;rw [List.countP_cons_of_neg (by simp; omega), this]
 | y :: l, x, i + 1, hi, h1, h2 => by
  have h0 := h1 0 y (Nat.succ_pos _) rfl;have := rQ (l := l) (x := x) (i := i) (by simpa using hi) (λ q n hq hn => h1 (q + 1) n (by omega) (by simpa using hn)) (λ q n hq hn => h2 (q + 1) n (by omega) (by simpa using hn));unfold posU at this ⊢;rw [List.countP_cons_of_pos (by simpa using h0), this]
theorem isNaN_any (x : Nat) (w : World) : Calls Tryz.prog 120 #[.int .u64 x] w λ e w' => e = .returned (.bool false) /\ w = w' := by
 have h1 : ((x : Int) != (x : Int)) = false := by simp
 go_enter Tryz.func120, Tryz.ntmps120
 go_wp2_with fail
 go_ret
 exact ⟨rfl, rfl⟩
theorem cisNaN_any (x : Nat) (w : World) : Calls Tryz.prog 139 #[.int .u64 x] w λ e w' => e = .returned (.bool false) /\ w = w' := by
 have h1 : ((x : Int) != (x : Int)) = false := by simp
 go_enter Tryz.func139, Tryz.ntmps139
 go_wp2_with fail
 go_ret
 exact ⟨rfl, rfl⟩
theorem less_any (x y : Nat) (w : World) : Calls Tryz.prog 119 #[.int .u64 x, .int .u64 y] w λ e w' => e = .returned (.bool (decide (x < y))) /\ w = w' := by
 have L := cisNaN_any;go_enter Tryz.func119, Tryz.ntmps119
 go_wp2_with (go_at_call 139; refine (L _ _).mono ?_; rintro e w2 ⟨rfl, rfl⟩)
 go_ret
 exact ⟨rfl, rfl⟩
theorem gF {l : List Nat} (h : l.Pairwise (· < ·)) {i j a b : Nat} (hij : i < j) (ha : l[i]? = some a) (hb : l[j]? = some b) : a < b := by
 obtain ⟨hi, rfl⟩ := List.getElem?_eq_some_iff.1 ha;obtain ⟨hj, rfl⟩ := List.getElem?_eq_some_iff.1 hb;exact List.pairwise_iff_getElem.1 h i j hi hj hij
theorem nN (v : Value) (l : List Nat) (hr : l.Pairwise (· < ·)) (x : Nat) (w : World) (hv : Src w v (nums l)) (hl : l.length <= 1099511627776) :
 Calls Tryz.prog 91 #[v, .int .u64 x] w λ e w' => e = .returned (.tuple #[.int .i64 (posU l x), .bool (decide (x ∈ l))]) /\ Below w.heap.size w w' := by
 have L := less_any;have L2 := isNaN_any;obtain ⟨n, hn⟩ : ∃ n, l.length = n := ⟨_, rfl⟩;obtain ⟨a, c, rfl, -⟩ := hv.shape;rw [xE, hn] at hv ⊢;rw [hn] at hl;have Hn := zB hn; clear hn;have hcell : ∀ (i : Nat), i < n -> ∃ g o, a = some ⟨g, o, none⟩ /\ ∀ W, Below w.heap.size w W -> W.cell? ⟨g, o + i, none⟩ = some (.int .u64 ((l.getD i 0 : Nat) : Int)) := λ i hi => by
  rcases hv with ⟨g, o, c', e1, -, h⟩ | ⟨e1, e2⟩
  . injection e1 with e1 _ _;refine ⟨g, o, e1, λ W hW => zG hW (h i _ (iQ ?_))⟩;rw [List.getD_eq_getElem?_getD, List.getElem?_eq_getElem (by rw [Hn.out]; exact hi)];rfl
  . injection e1 with e1 e3 _;subst e3;omega
 have Hc := zB hcell; clear hcell hv;have hget : ∀ (i : Nat), i < n -> l[i]? = some (l.getD i 0) := λ i hi => by
  rw [List.getD_eq_getElem?_getD, List.getElem?_eq_getElem (by rw [Hn.out]; exact hi)]; rfl
 have Hg := zB hget; clear hget;go_enter Tryz.func91, Tryz.ntmps91
 go_wp2_with fail
 go_loopw [7, 8] (λ vi vj wr => ∃ i j : Nat, vi = .int .i64 i /\ vj = .int .i64 j /\ i <= j /\ j <= n /\ (∀ q y, q < i -> l[q]? = some y -> y < x) /\ (∀ q y, j <= q -> l[q]? = some y -> x <= y) /\ Below w.heap.size w wr)
  (λ vi vj _ => (intOf vj).toNat - (intOf vi).toNat)
 case atStart => exact ⟨0, n, rfl, rfl, by omega, by omega, λ q y hq _ => absurd hq (Nat.not_lt_zero _), λ q y hq hy => (by rw [List.getElem?_eq_none (by rw [Hn.out]; exact hq)] at hy; cases hy), Below.refl _ _⟩
 case round =>
  obtain ⟨i, j, rfl, rfl, hij, hjn, hlo, hhi, hB⟩ := hrel;have Hlo := zB hlo; clear hlo;have Hhi := zB hhi; clear hhi;by_cases hlt : i < j
  . obtain ⟨h, hh1, hh2, hhe⟩ : ∃ h : Nat, i <= h /\ h < j /\ ((i : Int) + (j : Int)) / 2 = (h : Int) := ⟨(i + j) / 2, by omega, by omega, by omega⟩;obtain ⟨g, o, rfl, hc⟩ := Hc.out h (by omega)
    replace hc := hc wr hB
    have hhn : (h : Int) < (n : Int) := by omega
    obtain ⟨y, hy⟩ : ∃ y, l.getD h 0 = y := ⟨_, rfl⟩;have hgy := Hg.out h (by omega);rw [hy] at hc hgy;have Hy := zB hgy; clear hgy hy;by_cases hyx : y < x
    . go_wp2_with (first | (rw [hhe]) | (go_at_call 119; refine (L _ _ _).mono ?_; rintro e w2 ⟨rfl, rfl⟩))
      refine ⟨⟨h + 1, j, by simp, rfl, by omega, by omega, λ q z hq hz => ?_, Hhi.out, hB⟩, by simp [intOf]; omega⟩;rcases Nat.lt_or_ge q h with hq1 | hq1
      . exact Nat.lt_trans (gF hr hq1 hz Hy.out) hyx
      . obtain rfl : q = h := by omega
        rw [Hy.out] at hz;injection hz with hz;omega
    . go_wp2_with (first | (rw [hhe]) | (go_at_call 119; refine (L _ _ _).mono ?_; rintro e w2 ⟨rfl, rfl⟩))
      refine ⟨⟨i, h, rfl, rfl, by omega, by omega, Hlo.out, λ q z hq hz => ?_, hB⟩, by simp [intOf]; omega⟩;rcases Nat.lt_or_ge h q with hq1 | hq1
      . have := gF hr hq1 Hy.out hz;omega
      . obtain rfl : q = h := by omega
        rw [Hy.out] at hz;injection hz with hz;omega
  . obtain rfl : j = i := by omega
    have hrank : posU l x = j := rQ (by rw [Hn.out]; exact hjn) Hlo.out Hhi.out;have Hrank := zB hrank; clear hrank;by_cases hin : j < n
    . obtain ⟨g, o, rfl, hc⟩ := Hc.out j hin
      replace hc := hc wr hB
      have hhn : (j : Int) < (n : Int) := by omega
      obtain ⟨y, hy⟩ : ∃ y, l.getD j 0 = y := ⟨_, rfl⟩;have hgy := Hg.out j (by omega);rw [hy] at hc hgy;have Hy := zB hgy; clear hgy hy;by_cases hyx : y = x
      . have hm : decide (x ∈ l) = true := by rw [decide_eq_true_iff, <- hyx]; exact List.mem_of_getElem? Hy.out
        have Hm := zB hm; clear hm;subst hyx
        go_wp2_with (go_at_call 120; refine (L2 _ _).mono ?_; rintro e w2 ⟨rfl, rfl⟩)
        go_ret2
        rw [Hrank.out, Hm.out];exact ⟨rfl, hB⟩
      . have hyx' : ((y : Int) == (x : Int)) = false := by rw [beq_eq_false_iff_ne]; omega
        have hm : decide (x ∈ l) = false := by
         rw [decide_eq_false_iff_not];intro hx;obtain ⟨q, hq⟩ := List.mem_iff_getElem?.1 hx;have h1 := Hhi.out j y (Nat.le_refl _) Hy.out;rcases Nat.lt_trichotomy q j with h2 | h2 | h2
         . exact absurd (Hlo.out q x h2 hq) (Nat.lt_irrefl _)
         . subst h2;rw [Hy.out] at hq;injection hq with hq;exact hyx hq
         . have := gF hr h2 Hy.out hq;omega
        have Hm := zB hm; clear hm
        go_wp2_with (go_at_call 120; refine (L2 _ _).mono ?_; rintro e w2 ⟨rfl, rfl⟩)
        go_ret2
        rw [Hrank.out, Hm.out];exact ⟨rfl, hB⟩
    . have hm : decide (x ∈ l) = false := by
       rw [decide_eq_false_iff_not];intro hx;obtain ⟨q, hq⟩ := List.mem_iff_getElem?.1 hx;have h3 := (List.getElem?_eq_some_iff.1 hq).1;rw [Hn.out] at h3;exact absurd (Hlo.out q x (by omega) hq) (Nat.lt_irrefl _)
      have Hm := zB hm; clear hm;have hhn : ¬ (j : Int) < (n : Int) := by omega
      go_wp2_with (go_at_call 120; refine (L2 _ _).mono ?_; rintro e w2 ⟨rfl, rfl⟩)
      go_ret2
      rw [Hrank.out, Hm.out];exact ⟨rfl, hB⟩
end Go.Proofs.YtbjofbhhnmehgaaGreatDoor.TT
namespace Go.RG
open Go.RowKit
structure Grow where
 r : World -> World -> Prop
 refl : ∀ w, r w w
 trans : ∀ {a b c : World}, r a b -> r b c -> r a c
section
variable (ρ : Grow)
def Spec.stab (S : Spec) : Prop := ∀ v w w', S v w -> ρ.r w w' -> S v w'
def zX.stab (Γ : zX) : Prop := ∀ t, Spec.stab ρ (Γ t)
theorem Spec.any_stab : Spec.stab ρ Spec.any := λ _ _ _ _ _ => trivial
theorem zX.empty_stab : zX.stab ρ zX.empty := λ _ _ _ _ _ _ => trivial
variable {ρ}
theorem zX.set_stab {Γ : zX} {d : Option Tmp} {S : Spec} (h : zX.stab ρ Γ) (hS : Spec.stab ρ S) : zX.stab ρ (Γ.set d S) := by
 intro t;unfold zX.set
 split
 . exact hS
 . exact h t
theorem zX.ok_gr {Γ : zX} {a : Act} {w w' : World} (h : Γ.ok a w) (hs : zX.stab ρ Γ) (hb : ρ.r w w') : Γ.ok a w' :=
 λ t ht => hs t _ _ _ (h t ht) hb
end
abbrev mdA : Region.Mode := .any
def tA (ops : Array Oper) (o : Oper) : List Tmp := o.after.toList.filterMap λ e => if Region.binds mdA e then (ops[e.on]?).bind (·.dst) else none
def Aft (ops : Array Oper) : Prop := ∀ (i j : Nat) (oi oj : Oper) (d : Tmp), ops[i]? = some oi -> ops[j]? = some oj -> oi.dst = some d -> d ∈ tA ops oj -> ∃ e ∈ oj.after, Region.binds mdA e = true /\ e.on = i
def aftB (ops : Array Oper) : Bool := (List.range ops.size).all λ i => (List.range ops.size).all λ j => match (ops[i]?).bind (·.dst), ops[j]? with
 | some d, some oj => !(tA ops oj).contains d || Region.waitsFor mdA ops j i
 | _, _ => true
theorem aftB_spec {ops : Array Oper} (h : aftB ops = true) : Aft ops := by
 intro i j oi oj d hi hj hd hm;have h1 := List.all_eq_true.1 h i (List.mem_range.2 (Array.getElem?_eq_some_iff.1 hi).1);have h2 := List.all_eq_true.1 h1 j (List.mem_range.2 (Array.getElem?_eq_some_iff.1 hj).1);simp only [hi, hj, Option.bind_some, hd, Bool.or_eq_true, Bool.not_eq_true', List.contains_eq_mem, decide_eq_false_iff_not] at h2;rcases h2 with h2 | h2
 . exact absurd hm h2
 . obtain ⟨ok, hok, e, he, hb, hon⟩ := Region.waitsFor_spec h2;obtain rfl : ok = oj := Option.some.inj (hok.symm.trans hj);exact ⟨e, he, hb, hon⟩
def kH (ops : Array Oper) (o : Oper) (Γ : zX) (a : Act) (w : World) : Prop := ∀ t, t ∈ o.looksAt ops \/ t ∈ tA ops o -> t < a.tmps.size -> Γ t (a.tmps.getD t undef) w
theorem facts2_put {ops : Array Oper} {oi oj : Oper} {Γ : zX} {S : Spec} {a : Act} {v : Value} {w : World} (h : ∀ d, oi.dst = some d -> d ∉ oj.looksAt ops) (h2 : ∀ d, oi.dst = some d -> d ∉ tA ops oj) :
 kH ops oj (Γ.set oi.dst S) (a.put oi.dst v) w ↔ kH ops oj Γ a w := by
 unfold kH;constructor
 . intro hf t ht hlt;have hne : oi.dst ≠ some t := λ e => ht.elim (h t e) (h2 t e);have := hf t ht (by rw [Act.size_put]; exact hlt)
   rwa [Act.getD_put_ne hne, zX.set, if_neg hne] at this
 . intro hf t ht hlt;have hne : oi.dst ≠ some t := λ e => ht.elim (h t e) (h2 t e);rw [Act.size_put] at hlt;have := hf t ht hlt
   rwa [Act.getD_put_ne hne, zX.set, if_neg hne]
inductive Kindx where
 | small
 | make (S : (Nat -> Value) -> Spec)
 | big
 | late (R : Spec)
def Kindx.isBig : Kindx -> Bool
 | .big => true
 | _ => false
structure Sidesx (ops : Array Oper) (kd : Nat -> Kindx) (l n : Nat) : Prop where
 sel : ∀ (j : Nat) (o : Oper) cs b, ops[j]? = some o -> o.op ≠ .select cs b
 head : ∀ i, i < n -> ∀ listed, HeadInv mdA ops n listed -> listed.getD i true = false -> ∀ j ∈ Region.ready mdA ops listed, j < n
 ahead : ∀ i, i < n -> i ≠ l -> (kd i).isBig = true \/ pI ops mdA l ops.size i = true
 late : ∃ R, kd l = .late R
 others : ∀ i, i < n -> i ≠ l -> ∀ R, kd i ≠ .late R
def seen (ops : Array Oper) (o : Oper) (a : Act) (t : Nat) : Value := if t ∈ o.looksAt ops \/ t ∈ tA ops o then a.tmps.getD t undef else undef
theorem uQ {ops : Array Oper} {o : Oper} {a : Act} {t : Nat} {v : Value} (h : t ∈ o.looksAt ops \/ t ∈ tA ops o) (hv : a.tmps.getD t undef = v) : seen ops o a t = v := (if_pos h).trans hv
theorem pT {ops : Array Oper} {oi oj : Oper} {a : Act} {v : Value} (h : ∀ d, oi.dst = some d -> d ∉ oj.looksAt ops) (h2 : ∀ d, oi.dst = some d -> d ∉ tA ops oj) : seen ops oj (a.put oi.dst v) = seen ops oj a := by
 funext t
 unfold seen;by_cases ht : t ∈ oj.looksAt ops \/ t ∈ tA ops oj
 . rw [if_pos ht, if_pos ht, Act.getD_put_ne];intro e;exact ht.elim (h t e) (h2 t e)
 . rw [if_neg ht, if_neg ht]
section
variable (ρ : Grow) (P : Program) (ops : Array Oper) (base : World)
def YFx (Γ : zX) (o : Oper) (a : Act) (v : Value) : Prop :=
 (Region.wanted o (yielded ops a.tmps) = true /\ ∀ w, ρ.r base w -> kH ops o Γ a w -> (execOp a.eval o).run P w = .ok (.value v) w) \/
 (Region.wanted o (yielded ops a.tmps) = false /\ v = undef)
def YMx (Γ : zX) (o : Oper) (a : Act) (S : Spec) : Prop :=
 Region.wanted o (yielded ops a.tmps) = true /\ Spec.stab ρ S /\
 ∀ w, ρ.r base w -> kH ops o Γ a w -> yE P o a w λ v w' => ρ.r w w' /\ S v w'
variable (CB : World -> Prop) (kd : Nat -> Kindx)
def xK (i : Nat) (o : Oper) (K : zX -> Act -> World -> Prop) (Γ : zX) (a : Act) (w : World) : Prop :=
 match kd i with
 | .small => ∃ v, YFx ρ P ops base Γ o a v /\ K (Γ.set o.dst Spec.any) (a.put o.dst v) w
 | .make S => YMx ρ P ops base Γ o a (S (seen ops o a)) /\ ∀ v w', ρ.r w w' -> S (seen ops o a) v w' -> K (Γ.set o.dst (S (seen ops o a))) (a.put o.dst v) w'
 | .big => ∃ v, YB P ops CB o a v /\ K (Γ.set o.dst Spec.any) (a.put o.dst v) w
 | .late _ => Region.wanted o (yielded ops a.tmps) = true /\ ∃ R : Spec, yE P o a w (λ v w' => CB w' /\ R v w') /\ ∀ v w', CB w' -> R v w' -> K Γ (a.put o.dst v) w'
def rxAny (n : Nat) (L : Array Bool -> Act -> World -> Prop) : Nat -> Array Bool -> zX -> Act -> World -> Prop
 | 0, listed, _, a, w => L listed a w
 | f + 1, listed, Γ, a, w =>
  Region.ready mdA ops listed ≠ [] /\ ∀ i ∈ Region.ready mdA ops listed, i < n /\ ∃ o, ops[i]? = some o /\
   xK ρ P ops base CB kd i o (rxAny n L f (listed.setIfInBounds i true)) Γ a w
def oL (Q : Act -> World -> Prop) : List Oper -> Nat -> zX -> Act -> World -> Prop
 | [], _, _, a, w => Q a w
 | o :: rest, k, Γ, a, w => xK ρ P ops base CB kd k o (oL Q rest (k + 1)) Γ a w
end
section
variable {ρ : Grow} {P : Program} {ops : Array Oper} {base : World} {CB : World -> Prop} {kd : Nat -> Kindx} {l n : Nat}
theorem fD {oi oj : Oper} {Γ : zX} {S : Spec} {a : Act} {v u : Value} (hsj : ∀ cs b, oj.op ≠ .select cs b) (h : ∀ d, oi.dst = some d -> d ∉ oj.looksAt ops) (h2 : ∀ d, oi.dst = some d -> d ∉ tA ops oj) :
 YFx ρ P ops base (Γ.set oi.dst S) oj (a.put oi.dst v) u ↔ YFx ρ P ops base Γ oj a u := by
 unfold YFx;rw [wanted_put oj a oi.dst v h, execOp_put oj hsj a oi.dst v h];simp only [facts2_put h h2]
theorem jI {oi oj : Oper} {Γ : zX} {S T : Spec} {a : Act} {v : Value} (hsj : ∀ cs b, oj.op ≠ .select cs b) (h : ∀ d, oi.dst = some d -> d ∉ oj.looksAt ops) (h2 : ∀ d, oi.dst = some d -> d ∉ tA ops oj) :
 YMx ρ P ops base (Γ.set oi.dst S) oj (a.put oi.dst v) T ↔ YMx ρ P ops base Γ oj a T := by
 unfold YMx yE;rw [wanted_put oj a oi.dst v h, execOp_put oj hsj a oi.dst v h];simp only [facts2_put h h2]
theorem YFx_unique {o : Oper} {Γ Γ' : zX} {a : Act} {v u : Value} {w : World} (hC : ρ.r base w) (hf : kH ops o Γ a w) (hf' : kH ops o Γ' a w)
 (h : YFx ρ P ops base Γ o a v) (h' : YFx ρ P ops base Γ' o a u) : v = u := by
 rcases h with ⟨hw, h⟩ | ⟨hw, rfl⟩ <;> rcases h' with ⟨hw', h'⟩ | ⟨hw', rfl⟩
 . have e := (h w hC hf).symm.trans (h' w hC hf');injection e with e1 _;injection e1
 . rw [hw] at hw'; cases hw'
 . rw [hw] at hw'; cases hw'
 . rfl
structure Atx (ρ : Grow) (P : Program) (base : World) (CB : World -> Prop) (l : Nat) (listed : Array Bool) (Γ : zX) (a : Act) (w : World) : Prop where
 big : CB w
 one : listed.getD l false = false -> ρ.r base w /\ Γ.ok a w /\ (zX.stab ρ Γ)
theorem tStepx_mono {i : Nat} {o : Oper} {K K' : zX -> Act -> World -> Prop} {Γ : zX} {a : Act} {w : World} (h : ∀ Γ a w, K Γ a w -> K' Γ a w)
 (hh : xK ρ P ops base CB kd i o K Γ a w) : xK ρ P ops base CB kd i o K' Γ a w := by
 unfold xK at *
 split at hh
 . obtain ⟨v, h1, h2⟩ := hh; exact ⟨v, h1, h _ _ _ h2⟩
 . exact ⟨hh.1, λ v w' hb hS => h _ _ _ (hh.2 v w' hb hS)⟩
 . obtain ⟨v, h1, h2⟩ := hh; exact ⟨v, h1, h _ _ _ h2⟩
 . obtain ⟨h1, R, h2, h3⟩ := hh;exact ⟨h1, R, h2, λ v w' hb hS => h _ _ _ (h3 v w' hb hS)⟩
theorem Atx.small {listed : Array Bool} {Γ : zX} {a : Act} {w : World} {i : Nat} {d : Option Tmp} {v : Value} (h : Atx ρ P base CB l listed Γ a w) (hi : i ≠ l) : Atx ρ P base CB l (listed.setIfInBounds i true) (Γ.set d Spec.any) (a.put d v) w :=
 ⟨h.big, λ hl => by
  rw [sO hi] at hl;obtain ⟨h1, h2, h3⟩ := h.one hl;exact ⟨h1, zX.ok_set (S := Spec.any) h2 trivial, zX.set_stab h3 (Spec.any_stab ρ)⟩⟩
theorem Atx.make {listed : Array Bool} {Γ : zX} {a : Act} {w w' : World} {i : Nat} {d : Option Tmp} {v : Value} {S : Spec} (h : Atx ρ P base CB l listed Γ a w) (hun : listed.getD l false = false) (hi : i ≠ l)
 (hsub : ∀ w, ρ.r base w -> CB w) (hb : ρ.r w w') (hS : S v w') (hs : Spec.stab ρ S) : Atx ρ P base CB l (listed.setIfInBounds i true) (Γ.set d S) (a.put d v) w' := by
 obtain ⟨h1, h2, h3⟩ := h.one hun;exact ⟨hsub _ (ρ.trans h1 hb), λ _ => ⟨ρ.trans h1 hb, zX.ok_set (zX.ok_gr h2 h3 hb) hS, zX.set_stab h3 hs⟩⟩
theorem Atx.late {listed : Array Bool} {Γ Γ' : zX} {a a' : Act} {w' : World} (hl : l < listed.size) (h : CB w') : Atx ρ P base CB l (listed.setIfInBounds l true) Γ' a' w' :=
 ⟨h, λ hn => by simp [hl] at hn⟩
theorem iY {g : Nat} {L : Array Bool -> Act -> World -> Prop} {Q : Exit -> Act -> World -> Prop} (sd : Sidesx ops kd l n) (hln : l < n)
 (hsub : ∀ w, ρ.r base w -> CB w) (hL : ∀ listed a w, L listed a w -> wpAny P mdA ops Q g listed a w) :
 ∀ (f : Nat) (listed : Array Bool) (Γ : zX) (a : Act) (w : World), HeadInv mdA ops n listed -> Atx ρ P base CB l listed Γ a w ->
  rxAny ρ P ops base CB kd n L f listed Γ a w -> wpAny P mdA ops Q (f + g) listed a w
 | 0, listed, Γ, a, w, _, _, h => by rw [Nat.zero_add]; exact hL _ _ _ h
 | f + 1, listed, Γ, a, w, inv, hat, h => by
  rw [show f + 1 + g = (f + g) + 1 by omega];refine ⟨λ h0 => absurd h0 h.1, λ i hi => ?_⟩;obtain ⟨hin, o, ho, hs⟩ := h.2 i hi;have hun := hQ (mem_ready.1 hi).1;have inv' := inv.set hi hin;have hgo := λ Γ' a' w' => iY sd hln hsub hL f (listed.setIfInBounds i true) Γ' a' w' inv';unfold wpOp;simp only [ho];unfold xK at hs;have hne : (∀ R, kd i ≠ .late R) -> i ≠ l := λ h e => by
   obtain ⟨R, hR⟩ := sd.late;exact h R (e ▸ hR)
  have hone : i ≠ l -> (kd i).isBig = false -> listed.getD l false = false := λ h1 h2 => by
   rcases sd.ahead i hin h1 with h | h
   . rw [h] at h2; cases h2
   . exact (wU inv _ i h hun).1
  split at hs
  . rename_i hk;have hil : i ≠ l := hne (λ R => by rw [hk]; intro h; cases h);obtain ⟨v, hy, hK⟩ := hs;obtain ⟨h1, h2, h3⟩ := hat.one (hone hil (by rw [hk]; rfl));have hnext := hgo _ _ _ (hat.small (d := o.dst) (v := v) hil) hK;rcases hy with ⟨hw, hr⟩ | ⟨hw, rfl⟩
    . rw [if_pos hw];refine .inl ?_;unfold Oper.wp;rw [hr w h1 (λ t _ ht => h2 t ht)];exact hnext
    . rw [if_neg (by simp [hw])];exact hnext
  . rename_i S hk;have hil : i ≠ l := hne (λ R => by rw [hk]; intro h; cases h);obtain ⟨⟨hw, hSs, hm⟩, hK⟩ := hs;have hlu := hone hil (by rw [hk]; rfl);obtain ⟨h1, h2, h3⟩ := hat.one hlu;rw [if_pos hw];refine .inl (tB (hm w h1 (λ t _ ht => h2 t ht)) λ v w' ⟨hb, hS⟩ => ?_);exact hgo _ _ _ (hat.make hlu hil hsub hb hS hSs) (hK v w' hb hS)
  . rename_i hk;have hil : i ≠ l := hne (λ R => by rw [hk]; intro h; cases h);obtain ⟨v, hy, hK⟩ := hs;have hnext := hgo _ _ _ (hat.small (d := o.dst) (v := v) hil) hK;rcases hy with ⟨hw, hr⟩ | ⟨hw, rfl⟩
    . rw [if_pos hw];refine .inl ?_;unfold Oper.wp;rw [hr w hat.big];exact hnext
    . rw [if_neg (by simp [hw])];exact hnext
  . rename_i R hk;have hil : i = l := by
     by_cases e : i = l
     . exact e
     . exact absurd hk (sd.others i hin e R)
    subst hil;obtain ⟨hw, R1, hm, hK⟩ := hs;rw [if_pos hw];refine .inl (tB hm λ v w' ⟨hb, hS⟩ => ?_);refine hgo _ _ _ (Atx.late (Γ := Γ) (a := a) ?_ hb) (hK v w' hb hS);rw [inv.size];exact (Array.getElem?_eq_some_iff.1 ho).1
theorem rx_first (aft : Aft ops) {i : Nat} {oi : Oper} {L : Array Bool -> Act -> World -> Prop} (sd : Sidesx ops kd l n) (hln : l < n) (hi : ops[i]? = some oi) (hin : i < n) (hil : i ≠ l)
 (hsub : ∀ w, ρ.r base w -> CB w) (hdone : ∀ listed a w, L listed a w -> ∀ j ∈ Region.ready mdA ops listed, n <= j) :
 ∀ (f : Nat) (listed : Array Bool) (Γ : zX) (a : Act) (w : World), HeadInv mdA ops n listed ->
  (∀ j oj, ops[j]? = some oj -> j ≠ i -> listed.getD j true = false -> (∀ e ∈ oj.after, Region.binds mdA e = true -> e.on ≠ i) -> oi.apart ops oj = true) ->
  i ∈ Region.ready mdA ops listed -> Atx ρ P base CB l listed Γ a w ->
  xK ρ P ops base CB kd i oi (rxAny ρ P ops base CB kd n L f (listed.setIfInBounds i true)) Γ a w -> rxAny ρ P ops base CB kd n L (f + 1) listed Γ a w := by
 -- what i's step leaves: at least one state pI it
 have ex : ∀ (K : zX -> Act -> World -> Prop) (listed : Array Bool) (Γ : zX) (a : Act) (w : World), HeadInv mdA ops n listed -> listed.getD i true = false -> Atx ρ P base CB l listed Γ a w ->
  xK ρ P ops base CB kd i oi K Γ a w -> ∃ Γ' a' w', K Γ' a' w' := by
  intro K listed Γ a w inv hun hat H;unfold xK at H
  split at H
  . obtain ⟨v, _, h⟩ := H; exact ⟨_, _, _, h⟩
  . rename_i S hk;obtain ⟨⟨_, _, hm⟩, hK⟩ := H;have hlu : listed.getD l false = false := by
     rcases sd.ahead i hin hil with h | h
     . rw [hk] at h; cases h
     . exact (wU inv _ i h (hQ hun)).1
    obtain ⟨h1, h2, _⟩ := hat.one hlu;obtain ⟨v, w', hb, hS⟩ := vS (hm w h1 (λ t _ ht => h2 t ht));exact ⟨_, _, _, hK v w' hb hS⟩
  . obtain ⟨v, _, h⟩ := H; exact ⟨_, _, _, h⟩
  . rename_i R hk; exact absurd hk (sd.others i hin hil R)
 intro f
 induction f with
 | zero =>
  intro listed Γ a w inv _ hr hat H;have hun := (mem_ready.1 hr).1;refine ⟨λ h => (by rw [h] at hr; cases hr), λ j hj => ?_⟩;have hjn : j < n := sd.head i hin listed inv hun j hj;refine ⟨hjn, ?_⟩;by_cases hji : j = i
  . subst hji; exact ⟨oi, hi, H⟩
  . exfalso
    obtain ⟨_, a', w', hL⟩ := ex _ listed Γ a w inv hun hat H;have := hdone _ _ _ hL j (ready_mono hj hji);omega
 | succ f ih =>
  intro listed Γ a w inv hfree hr hat H;have hun := (mem_ready.1 hr).1;refine ⟨λ h => (by rw [h] at hr; cases hr), λ j hj => ?_⟩;have hjn : j < n := sd.head i hin listed inv hun j hj;refine ⟨hjn, ?_⟩;by_cases hji : j = i
  . subst hji; exact ⟨oi, hi, H⟩
  obtain ⟨hjun, oj, hoj, hall⟩ := mem_ready.1 hj;refine ⟨oj, hoj, ?_⟩;have hnot : ∀ e ∈ oj.after, Region.binds mdA e = true -> e.on ≠ i := λ e he hb heq => by
   have h1 := hall e he hb;rw [heq, getD_both hun] at h1
   cases h1
  obtain ⟨ap1, ap2, ap3⟩ := Oper.apart_spec (hfree j oj hoj hji hjun hnot);have ap1x : ∀ d, oi.dst = some d -> d ∉ tA ops oj := λ d hd hm => by
   obtain ⟨e, he, hb, hon⟩ := aft i j oi oj d hi hoj hd hm;exact hnot e he hb hon
  have ap3x : ∀ d, oj.dst = some d -> d ∉ tA ops oi := λ d hd hm => by
   obtain ⟨e, he, hb, hon⟩ := aft j i oj oi d hoj hi hd hm;obtain ⟨_, oi', hoi', hall⟩ := mem_ready.1 hr;obtain rfl : oi' = oi := Option.some.inj (hoi'.symm.trans hi);have h1 := hall e he hb;rw [hon, getD_both hjun] at h1
   cases h1
  have hsi := λ cs b => sd.sel i oi cs b hi;have hsj := λ cs b => sd.sel j oj cs b hoj;have hfree' : ∀ k ok, ops[k]? = some ok -> k ≠ i -> (listed.setIfInBounds j true).getD k true = false ->
   (∀ e ∈ ok.after, Region.binds mdA e = true -> e.on ≠ i) -> oi.apart ops ok = true := λ k ok hk hki hun hno => by
   refine hfree k ok hk hki ?_ hno;by_cases hjk : j = k
   . subst hjk; exact hjun
   . rw [getD_set_ne true hjk] at hun; exact hun
  have inv' := inv.set hj hjn;have IH := λ Γ' a' w' => ih (listed.setIfInBounds j true) Γ' a' w' inv' hfree' (ready_mono hr (Ne.symm hji));have hjr := ready_mono hj hji;have hcomm : (listed.setIfInBounds j true).setIfInBounds i true = (listed.setIfInBounds i true).setIfInBounds j true := Array.setIfInBounds_comm _ _ hji;have hone : ∀ k, k < n -> k ≠ l -> (kd k).isBig = false -> listed.getD k true = false -> listed.getD l false = false /\ l ∉ Region.ready mdA ops listed := λ k h1 h2 h3 h4 => by
   rcases sd.ahead k h1 h2 with h | h
   . rw [h] at h3; cases h3
   . exact wU inv _ k h (hQ h4)
  -- j is the late one: then i is big
  by_cases hjl : j = l
  . subst hjl;obtain ⟨R, hR⟩ := sd.late
    cases hki : kd i with
    | late R' => exact absurd hki (sd.others i hin hil R')
    | small => exact absurd hj (hone i hin hil (by rw [hki]; rfl) hun).2
    | make S => exact absurd hj (hone i hin hil (by rw [hki]; rfl) hun).2
    | big =>
     unfold xK at H;rw [hki] at H;obtain ⟨v, hy, hK⟩ := H;obtain ⟨oj', hoj', hj1⟩ := (hK.2 j hjr).2;obtain rfl : oj' = oj := Option.some.inj (hoj'.symm.trans hoj);unfold xK at hj1 ⊢;rw [hR] at hj1 ⊢;obtain ⟨hw, R1, hm, hKj⟩ := hj1;refine ⟨by rw [wanted_put oj' a oi.dst v ap1] at hw; exact hw, R1, (kE hsj ap1).1 hm, λ u w' hb hT => ?_⟩;have hjs : j < listed.size := by rw [inv.size]; exact (Array.getElem?_eq_some_iff.1 hoj).1
     refine IH _ _ _ (Atx.late (Γ := Γ) (a := a) hjs hb) ?_;unfold xK;rw [hki];refine ⟨v, (rD hsi ap3).2 hy, ?_⟩;rw [hcomm, <- Act.put_comm a v u ap2];exact hKj u w' hb hT
  -- j is another one
  have hkj : ∀ R, kd j ≠ .late R := sd.others j hjn hjl
  -- one instance pI i, for what j comes to
  obtain ⟨Γ0, a0, w0, hK0⟩ := ex _ listed Γ a w inv hun hat H
  cases hki : kd i with
  | late R' => exact absurd hki (sd.others i hin hil R')
  | small =>
   unfold xK at H;rw [hki] at H;obtain ⟨v, hy, hK⟩ := H;obtain ⟨oj', hoj', hj1⟩ := (hK.2 j hjr).2;obtain rfl : oj' = oj := Option.some.inj (hoj'.symm.trans hoj);have hlu := (hone i hin hil (by rw [hki]; rfl) hun).1;have back : ∀ (Γ' : zX) (u : Value) (w' : World) (S : Spec), rxAny ρ P ops base CB kd n L f ((listed.setIfInBounds i true).setIfInBounds j true) ((Γ.set oi.dst Spec.any).set oj'.dst S) ((a.put oi.dst v).put oj'.dst u) w' ->
    xK ρ P ops base CB kd i oi (rxAny ρ P ops base CB kd n L f ((listed.setIfInBounds j true).setIfInBounds i true)) (Γ.set oj'.dst S) (a.put oj'.dst u) w' := by
    intro _ u w' S h;unfold xK;rw [hki];refine ⟨v, (fD hsi ap3 ap3x).2 hy, ?_⟩;rw [hcomm, <- Act.put_comm a v u ap2, <- zX.set_comm ap2]; exact h
   cases hkj' : kd j with
   | late R => exact absurd hkj' (hkj R)
   | small =>
    unfold xK at hj1 ⊢;rw [hkj'] at hj1 ⊢;obtain ⟨u, hyj, hKj⟩ := hj1;exact ⟨u, (fD hsj ap1 ap1x).1 hyj, IH _ _ _ (hat.small hjl) (back Γ u w Spec.any hKj)⟩
   | make T =>
    unfold xK at hj1 ⊢;rw [hkj'] at hj1 ⊢;rw [pT ap1 ap1x] at hj1;obtain ⟨hyj, hKj⟩ := hj1;have hyj' := (jI hsj ap1 ap1x).1 hyj;exact ⟨hyj', λ u w' hb hT => IH _ _ _ (hat.make hlu hjl hsub hb hT hyj'.2.1) (back Γ u w' _ (hKj u w' hb hT))⟩
   | big =>
    unfold xK at hj1 ⊢;rw [hkj'] at hj1 ⊢;obtain ⟨u, hyj, hKj⟩ := hj1;exact ⟨u, (rD hsj ap1).1 hyj, IH _ _ _ (hat.small hjl) (back Γ u w Spec.any hKj)⟩
  | big =>
   unfold xK at H;rw [hki] at H;obtain ⟨v, hy, hK⟩ := H;obtain ⟨oj', hoj', hj1⟩ := (hK.2 j hjr).2;obtain rfl : oj' = oj := Option.some.inj (hoj'.symm.trans hoj);have back : ∀ (Γ' : zX) (u : Value) (w' : World) (S : Spec), rxAny ρ P ops base CB kd n L f ((listed.setIfInBounds i true).setIfInBounds j true) ((Γ.set oi.dst Spec.any).set oj'.dst S) ((a.put oi.dst v).put oj'.dst u) w' ->
    xK ρ P ops base CB kd i oi (rxAny ρ P ops base CB kd n L f ((listed.setIfInBounds j true).setIfInBounds i true)) (Γ.set oj'.dst S) (a.put oj'.dst u) w' := by
    intro _ u w' S h;unfold xK;rw [hki];refine ⟨v, (rD hsi ap3).2 hy, ?_⟩;rw [hcomm, <- Act.put_comm a v u ap2, <- zX.set_comm ap2]; exact h
   cases hkj' : kd j with
   | late R => exact absurd hkj' (hkj R)
   | small =>
    unfold xK at hj1 ⊢;rw [hkj'] at hj1 ⊢;obtain ⟨u, hyj, hKj⟩ := hj1;exact ⟨u, (fD hsj ap1 ap1x).1 hyj, IH _ _ _ (hat.small hjl) (back Γ u w Spec.any hKj)⟩
   | make T =>
    have hlu := (hone j hjn hjl (by rw [hkj']; rfl) hjun).1;unfold xK at hj1 ⊢;rw [hkj'] at hj1 ⊢;rw [pT ap1 ap1x] at hj1;obtain ⟨hyj, hKj⟩ := hj1;have hyj' := (jI hsj ap1 ap1x).1 hyj;exact ⟨hyj', λ u w' hb hT => IH _ _ _ (hat.make hlu hjl hsub hb hT hyj'.2.1) (back Γ u w' _ (hKj u w' hb hT))⟩
   | big =>
    unfold xK at hj1 ⊢;rw [hkj'] at hj1 ⊢;obtain ⟨u, hyj, hKj⟩ := hj1;exact ⟨u, (rD hsj ap1).1 hyj, IH _ _ _ (hat.small hjl) (back Γ u w Spec.any hKj)⟩
  | make S =>
   have hlu := (hone i hin hil (by rw [hki]; rfl) hun).1;obtain ⟨h1, h2, h3⟩ := hat.one hlu;unfold xK at H;rw [hki] at H;obtain ⟨hy, hK⟩ := H;obtain ⟨vs, ws, hbs, hSs⟩ := vS (hy.2.2 w h1 (λ t _ ht => h2 t ht));obtain ⟨oj', hoj', hj1⟩ := ((hK vs ws hbs hSs).2 j hjr).2;obtain rfl : oj' = oj := Option.some.inj (hoj'.symm.trans hoj)
   cases hkj' : kd j with
   | late R => exact absurd hkj' (hkj R)
   | small =>
    unfold xK at hj1 ⊢;rw [hkj'] at hj1 ⊢;obtain ⟨u, hyj, hKj⟩ := hj1;have hyj' := (fD hsj ap1 ap1x).1 hyj;refine ⟨u, hyj', IH _ _ _ (hat.small hjl) ?_⟩;unfold xK;rw [hki];rw [pT ap3 ap3x];refine ⟨(jI hsi ap3 ap3x).2 hy, λ v w' hb hS => ?_⟩;rw [hcomm, <- Act.put_comm a v u ap2, <- zX.set_comm ap2];obtain ⟨oj'', hoj'', hj2⟩ := ((hK v w' hb hS).2 j hjr).2;obtain rfl : oj'' = oj' := Option.some.inj (hoj''.symm.trans hoj);unfold xK at hj2;rw [hkj'] at hj2;obtain ⟨u', hyj2, hKj2⟩ := hj2;obtain rfl : u = u' := YFx_unique h1 (λ t _ ht => h2 t ht) (λ t _ ht => h2 t ht) hyj' ((fD hsj ap1 ap1x).1 hyj2);exact hKj2
   | big =>
    unfold xK at hj1 ⊢;rw [hkj'] at hj1 ⊢;obtain ⟨u, hyj, hKj⟩ := hj1;have hyj' := (rD hsj ap1).1 hyj;refine ⟨u, hyj', IH _ _ _ (hat.small hjl) ?_⟩;unfold xK;rw [hki];rw [pT ap3 ap3x];refine ⟨(jI hsi ap3 ap3x).2 hy, λ v w' hb hS => ?_⟩;rw [hcomm, <- Act.put_comm a v u ap2, <- zX.set_comm ap2];obtain ⟨oj'', hoj'', hj2⟩ := ((hK v w' hb hS).2 j hjr).2;obtain rfl : oj'' = oj' := Option.some.inj (hoj''.symm.trans hoj);unfold xK at hj2;rw [hkj'] at hj2;obtain ⟨u', hyj2, hKj2⟩ := hj2;obtain rfl : u = u' := fE hat.big hyj' ((rD hsj ap1).1 hyj2);exact hKj2
   | make T =>
    unfold xK at hj1 ⊢;rw [hkj'] at hj1 ⊢;rw [pT ap1 ap1x] at hj1;obtain ⟨hyj, hKj⟩ := hj1;have hyj' := (jI hsj ap1 ap1x).1 hyj;refine ⟨hyj', λ u w' hb hT => IH _ _ _ (hat.make hlu hjl hsub hb hT hyj'.2.1) ?_⟩;unfold xK;rw [hki];rw [pT ap3 ap3x];refine ⟨(jI hsi ap3 ap3x).2 hy, λ v w'' hb2 hS => ?_⟩;rw [hcomm, <- Act.put_comm a v u ap2, <- zX.set_comm ap2];have hbb : ρ.r w w'' := ρ.trans hb hb2;obtain ⟨oj'', hoj'', hj2⟩ := ((hK v w'' hbb hS).2 j hjr).2;obtain rfl : oj'' = oj' := Option.some.inj (hoj''.symm.trans hoj);unfold xK at hj2;rw [hkj'] at hj2;rw [pT ap1 ap1x] at hj2;obtain ⟨_, hKj2⟩ := hj2;exact hKj2 u w'' (ρ.refl _) (hyj'.2.1 _ _ _ hT hb2)
theorem rx_lex (aft : Aft ops) {g : Nat} {Lq : Act -> World -> Prop} (sd : Sidesx ops kd l n) (hln : l + 1 = n) (L : Array Bool -> Act -> World -> Prop)
 (hsub : ∀ w, ρ.r base w -> CB w) (hdone : ∀ listed a w, L listed a w -> ∀ j ∈ Region.ready mdA ops listed, n <= j)
 (hend : ∀ listed a w, Region.seqB mdA ops g n listed = true -> Lq a w -> L listed a w) :
 ∀ (ls : List Oper) (k : Nat) (listed : Array Bool) (Γ : zX) (a : Act) (w : World), (∀ j, j < ls.length -> ls[j]? = ops[k + j]?) -> k + ls.length = n -> HeadInv mdA ops n listed ->
 Region.lexHead mdA ops g ls.length k listed = true -> Region.ready mdA ops ((List.range (n - 1)).foldl (λ l i => l.setIfInBounds i true) (Array.replicate ops.size false)) = [l] ->
 listed = (List.range k).foldl (λ l i => l.setIfInBounds i true) (Array.replicate ops.size false) ->
 (k <= l -> Atx ρ P base CB l listed Γ a w) -> oL ρ P ops base CB kd Lq ls k Γ a w ->
 rxAny ρ P ops base CB kd n L ls.length listed Γ a w
 | [], k, listed, Γ, a, w, _, hk, _, hB, _, _, _, h => by
  have : k = n := by simpa using hk
  subst this;exact hend _ _ _ (by simpa [Region.lexHead] using hB) h
 | o :: ls, k, listed, Γ, a, w, hl, hk, inv, hB, hlast, hlisted, hat, h => by
  have h0 : ops[k]? = some o := by simpa using (hl 0 (by simp)).symm
  simp only [List.length_cons, Region.lexHead, Bool.and_eq_true] at hB;obtain ⟨⟨hr, hf⟩, hB'⟩ := hB;have hkn : k < n := by simp only [List.length_cons] at hk; omega
  have hr' : k ∈ Region.ready mdA ops listed := by simpa using hr
  have hls : (List.range (k + 1)).foldl (λ l i => l.setIfInBounds i true) (Array.replicate ops.size false) = listed.setIfInBounds k true := by
   rw [List.range_succ, List.foldl_append, <- hlisted]; rfl
  have hgo := λ Γ' a' w' => rx_lex aft sd hln L hsub hdone hend ls (k + 1) (listed.setIfInBounds k true) Γ' a' w' (λ j hj => by have := hl (j + 1) (by simp; omega); simpa [Nat.add_assoc, Nat.add_comm 1 j] using this)
   (by simp only [List.length_cons] at hk; omega) (inv.set hr' hkn) hB' hlast hls.symm
  have h' : xK ρ P ops base CB kd k o (oL ρ P ops base CB kd Lq ls (k + 1)) Γ a w := h;by_cases hkl : k = l
  . -- the late one: nothing else is left
    subst hkl;have hrd : Region.ready mdA ops listed = [k] := by rw [hlisted]; rw [<- hln] at hlast; simpa using hlast
    refine ⟨by rw [hrd]; simp, λ j hj => ?_⟩;rw [hrd] at hj;obtain rfl : j = k := by simpa using hj
    refine ⟨hkn, o, h0, ?_⟩;exact tStepx_mono (λ Γ' a' w' h2 => hgo Γ' a' w' (λ hh => by omega) h2) h'
  . have hkl' : k < l := by omega
    refine rx_first aft sd (by omega) h0 hkn hkl hsub hdone ls.length listed Γ a w inv (Region.free_spec h0 hf) hr' (hat (by omega)) ?_;have hat' := hat (by omega);have hun := (mem_ready.1 hr').1;have hlu : listed.getD l false = false := by
     rcases sd.ahead k hkn hkl with hb | hb
     . -- by what stands listed
       rw [hlisted];have : ∀ m, m <= l -> ((List.range m).foldl (λ l i => l.setIfInBounds i true) (Array.replicate ops.size false)).getD l false = false := by
        intro m
        induction m with
        | zero => intro _; exact getD_replicate_false _ _
        | succ m ihm =>
         intro hm;rw [List.range_succ, List.foldl_append];simp only [List.foldl_cons, List.foldl_nil];rw [sO (by omega)];exact ihm (by omega)
       exact this k (by omega)
     . exact (wU inv _ k hb (hQ hun)).1
    unfold xK at h' ⊢
    split at h'
    . rename_i hkk;obtain ⟨v, h1, h2⟩ := h';exact ⟨v, h1, hgo _ _ _ (λ _ => hat'.small hkl) h2⟩
    . rename_i S hkk;exact ⟨h'.1, λ v w' hb hS => hgo _ _ _ (λ _ => hat'.make hlu hkl hsub hb hS h'.1.2.1) (h'.2 v w' hb hS)⟩
    . rename_i hkk;obtain ⟨v, h1, h2⟩ := h';exact ⟨v, h1, hgo _ _ _ (λ _ => hat'.small hkl) h2⟩
    . rename_i R hkk;exact absurd hkk (sd.others k hkn hkl R)
end
section
variable {P : Program} {id : Nat} {Q : Exit -> Act -> World -> Prop} {a : Act} {w : World} {ls : List Oper}
def sN (big : List Nat) (mk : Nat -> Option ((Nat -> Value) -> Spec)) (n : Nat) (R : Spec) (i : Nat) : Kindx :=
 if i = n - 1 then .late R else if big.contains i then .big else match mk i with
  | some S => .make S
  | none => .small
theorem xJ (ρ : Grow) (n : Nat) (big : List Nat) (mk : Nat -> Option ((Nat -> Value) -> Spec)) (CB : World -> Prop) (R : Spec) (hm : P.follows .mixedOrders = true) (hB : (lateB ls.toArray big n && aftB ls.toArray) = true)
 (hsub : ∀ b, b.heap = w.heap -> Below w.heap.size w b -> ∀ w', ρ.r b w' -> CB w')
 (h : ∀ b, Below w.heap.size w b -> b.heap = w.heap -> oL ρ P ls.toArray b CB (sN big mk n R) (λ a' w' => wpList P ls.toArray Q (ls.drop n) a' w') (ls.take n) 0 zX.empty a b) :
 (Code.region id ls.toArray true).wp P Q a w := by
 obtain ⟨hB, haft⟩ := Bool.and_eq_true_iff.1 hB;have aft := aftB_spec haft;simp only [lateB, Bool.and_eq_true, decide_eq_true_eq] at hB;obtain ⟨⟨⟨hB1, hpos⟩, hlast⟩, hbig⟩ := hB;simp only [Region.lexTailB, Bool.and_eq_true, decide_eq_true_eq] at hB1;obtain ⟨⟨⟨⟨hsel, hn⟩, hs⟩, hc⟩, hlex⟩ := hB1;have htl : (ls.take n).length = n := by simp at hn; simp; omega
 have hdl : (ls.drop n).length = ls.toArray.size - n := by simp
 have inv0 : HeadInv .any ls.toArray n (Array.replicate ls.toArray.size false) :=
  ⟨by simp, λ j oj _ hl => (by rw [getD_replicate_false] at hl; cases hl), λ t _ ht => getD_in (by simpa using ht) (getD_replicate_false _ _)⟩
 have sd : Sidesx ls.toArray (sN big mk n R) (n - 1) n := by
  refine ⟨Region.noSelect_spec hsel, λ i hin listed inv hun j hj => ?_, λ i hin hil => ?_, ⟨R, by simp [sN]⟩, λ i hin hil R' => ?_⟩
  . rcases Nat.lt_or_ge j n with h | h
    . exact h
    . exact absurd hj (tail_waits hs hc hn inv _ i rfl hin hun j h)
  . have := List.all_eq_true.1 hbig i (List.mem_range.2 (by omega));simp only [Bool.or_eq_true] at this;rcases this with h | h
    . left;unfold sN;rw [if_neg hil, if_pos h];rfl
    . exact .inr h
  . unfold sN;rw [if_neg hil]
    split
    . intro h; cases h
    . split <;> (intro h; cases h)
 have hw0 : Below w.heap.size w { w with drawn := w.drawn + 1 } := (Below.refl _ w).drew;have H := rx_lex (ρ := ρ) aft (g := ls.toArray.size - n) (Lq := λ a' w' => wpList P ls.toArray Q (ls.drop n) a' w') sd (by omega)
  (λ listed' a' w' => Region.seqB .any ls.toArray (ls.toArray.size - n) n listed' = true /\ wpList P ls.toArray Q (ls.drop n) a' w')
  (λ w' h' => hsub { w with drawn := w.drawn + 1 } rfl hw0 w' h') (λ listed a w hL => seqB_ready hL.1) (λ _ _ _ h1 h2 => ⟨h1, h2⟩)
  (ls.take n) 0 _ zX.empty a { w with drawn := w.drawn + 1 } (λ j hj => by
   have hj' : j < n := by rw [htl] at hj; exact hj
   simp [hj']) (by simpa using htl) inv0 (by rw [htl]; exact hlex) hlast rfl
  (λ _ => ⟨hsub { w with drawn := w.drawn + 1 } rfl hw0 _ (ρ.refl _), λ _ => ⟨ρ.refl _, zX.empty_ok _ _, (zX.empty_stab ρ)⟩⟩)
  (h { w with drawn := w.drawn + 1 } hw0 rfl)
 refine wp_region_any hm ?_;have := iY (ρ := ρ) (Q := Q) (g := ls.toArray.size - n) sd (by omega) (λ w' h' => hsub { w with drawn := w.drawn + 1 } rfl hw0 w' h') (λ listed a' w' hL => by
  have := wpAny_of_seq (Q' := Q) (ls.drop n) n listed a' w' (λ j => by simp [List.getElem?_drop]) (by rw [hdl]; exact hL.1) hL.2
  rwa [hdl] at this) _ _ _ _ _ inv0 ⟨hsub { w with drawn := w.drawn + 1 } rfl hw0 _ (ρ.refl _), λ _ => ⟨ρ.refl _, zX.empty_ok _ _, (zX.empty_stab ρ)⟩⟩ H
 rw [htl, show n + (ls.toArray.size - n) = ls.toArray.size by simp at hn; simp; omega] at this;exact this
variable {ρ : Grow} {ops : Array Oper} {b : World} {q : Act -> World -> Prop} {o : Oper} {rest : List Oper} {k : Nat} {Γ : zX} {CB : World -> Prop} {kd : Nat -> Kindx}
theorem oJ (h : q a w) : oL ρ P ops b CB kd q [] k Γ a w := h
theorem yZ (v : Value) (hs : kd k = .small) (hw : Region.wanted o (yielded ops a.tmps) = true)
 (h : ∀ w1, ρ.r b w1 -> kH ops o Γ a w1 -> (execOp a.eval o).run P w1 = .ok (.value v) w1)
 (hn : oL ρ P ops b CB kd q rest (k + 1) (Γ.set o.dst Spec.any) (a.put o.dst v) w) : oL ρ P ops b CB kd q (o :: rest) k Γ a w := by
 show xK _ _ _ _ _ _ _ _ _ _ _ _;unfold xK;rw [hs];exact ⟨v, .inl ⟨hw, h⟩, hn⟩
theorem rx_big (v : Value) (hs : kd k = .big) (hw : Region.wanted o (yielded ops a.tmps) = true) (h : ∀ w1, CB w1 -> (execOp a.eval o).run P w1 = .ok (.value v) w1)
 (hn : oL ρ P ops b CB kd q rest (k + 1) (Γ.set o.dst Spec.any) (a.put o.dst v) w) : oL ρ P ops b CB kd q (o :: rest) k Γ a w := by
 show xK _ _ _ _ _ _ _ _ _ _ _ _;unfold xK;rw [hs];exact ⟨v, .inl ⟨hw, h⟩, hn⟩
theorem rx_move (x : Operand) (ho : o.op = .move x \/ o.op = .assign x) (hs : kd k = .small \/ kd k = .big) (hw : Region.wanted o (yielded ops a.tmps) = true)
 (hn : oL ρ P ops b CB kd q rest (k + 1) (Γ.set o.dst Spec.any) (a.put o.dst (a.eval x)) w) : oL ρ P ops b CB kd q (o :: rest) k Γ a w := by
 rcases hs with hs | hs
 . exact yZ (a.eval x) hs hw (λ w1 _ _ => by rcases ho with h | h <;> simp [execOp, h]) hn
 . exact rx_big (a.eval x) hs hw (λ w1 _ => by rcases ho with h | h <;> simp [execOp, h]) hn
theorem rxM {x : Operand} (hn : oL ρ P ops b CB kd q rest (k + 1) (Γ.set o.dst Spec.any) (a.put o.dst (a.eval x)) w) (ho : o.op = .move x \/ o.op = .assign x := by first | exact .inl rfl | exact .inr rfl) (hs : kd k = .small \/ kd k = .big := by first | exact .inl rfl | exact .inr rfl) (hw : Region.wanted o (yielded ops a.tmps) = true := by exact rfl) : oL ρ P ops b CB kd q (o :: rest) k Γ a w := rx_move x ho hs hw hn
theorem rxF {v : Value} (hn : oL ρ P ops b CB kd q rest (k + 1) (Γ.set o.dst Spec.any) (a.put o.dst v) w) (hs : kd k = .small := by exact rfl) (hw : Region.wanted o (yielded ops a.tmps) = true := by exact rfl) (h : ∀ w1, ρ.r b w1 -> kH ops o Γ a w1 -> (execOp a.eval o).run P w1 = .ok (.value v) w1 := by intro w1 hb1 hf1; go_simp; (try simp (disch := omega) only [zE, toNatUp, iteOmega]); (try go_simp); rfl) : oL ρ P ops b CB kd q (o :: rest) k Γ a w := yZ v hs hw h hn
theorem xV (S : (Nat -> Value) -> Spec) (hs : kd k = .make S) (hst : Spec.stab ρ (S (seen ops o a))) (hw : Region.wanted o (yielded ops a.tmps) = true)
 (h : ∀ w1, ρ.r b w1 -> kH ops o Γ a w1 -> yE P o a w1 λ v w' => ρ.r w1 w' /\ S (seen ops o a) v w')
 (hn : ∀ v w', ρ.r w w' -> S (seen ops o a) v w' -> oL ρ P ops b CB kd q rest (k + 1) (Γ.set o.dst (S (seen ops o a))) (a.put o.dst v) w') : oL ρ P ops b CB kd q (o :: rest) k Γ a w := by
 show xK _ _ _ _ _ _ _ _ _ _ _ _;unfold xK;rw [hs];exact ⟨⟨hw, hst, h⟩, hn⟩
theorem sZ (R R0 : Spec) (hs : kd k = .late R0) (hw : Region.wanted o (yielded ops a.tmps) = true) (h : yE P o a w λ v w' => CB w' /\ R v w')
 (hn : ∀ v w', CB w' -> R v w' -> oL ρ P ops b CB kd q rest (k + 1) Γ (a.put o.dst v) w') : oL ρ P ops b CB kd q (o :: rest) k Γ a w := by
 show xK _ _ _ _ _ _ _ _ _ _ _ _;unfold xK;rw [hs];exact ⟨hw, R, h, hn⟩
theorem vA (hs : kd k = .small \/ kd k = .big) (hw : Region.wanted o (yielded ops a.tmps) = false)
 (hn : oL ρ P ops b CB kd q rest (k + 1) (Γ.set o.dst Spec.any) (a.put o.dst undef) w) : oL ρ P ops b CB kd q (o :: rest) k Γ a w := by
 show xK _ _ _ _ _ _ _ _ _ _ _ _;unfold xK;rcases hs with hs | hs <;> rw [hs] <;> exact ⟨undef, .inr ⟨hw, rfl⟩, hn⟩
end
end Go.RG
namespace Go.Hp
open Go.RowKit Go.RG
structure yL (S : Nat -> Nat -> Value -> Prop) (w w' : World) : Prop where
 os : w'.os = w.os
 tape : w'.tape = w.tape
 output : w'.output = w.output
 size : w.heap.size <= w'.heap.size
 block : ∀ k, k < w.heap.size -> w'.heap[k]? = w.heap[k]? \/ ((∃ j y, S k j y) /\ ∃ (L L' : List Value) (ty : TypeId), w.heap[k]? = some (.cells L.toArray ty (0, 0)) /\ w'.heap[k]? = some (.cells L'.toArray ty (0, 0)) /\ L'.length = L.length /\ ∀ j, L'[j]? = L[j]? \/ ∃ y, L'[j]? = some y /\ S k j y)
theorem yL.refl (S : Nat -> Nat -> Value -> Prop) (w : World) : yL S w w := ⟨rfl, rfl, rfl, Nat.le_refl _, λ _ _ => .inl rfl⟩
theorem yL.trans {S : Nat -> Nat -> Value -> Prop} {a b c : World} (h : yL S a b) (k : yL S b c) : yL S a c := by
 refine ⟨k.os.trans h.os, k.tape.trans h.tape, k.output.trans h.output, Nat.le_trans h.size k.size, λ i hi => ?_⟩;rcases h.block i hi with e1 | ⟨hs, L, L', ty, h1, h2, h3, h4⟩ <;> rcases k.block i (Nat.lt_of_lt_of_le hi h.size) with e2 | ⟨hs', M, M', ty', k1, k2, k3, k4⟩
 . exact .inl (e2.trans e1)
 . exact .inr ⟨hs', M, M', ty', e1.symm.trans k1, k2, k3, k4⟩
 . exact .inr ⟨hs, L, L', ty, h1, e2.trans h2, h3, h4⟩
 . have e := h2.symm.trans k1;injection e with e;injection e with e1 e2;have e1 := Array.toList_inj.2 e1;simp only at e1;subst e1 e2;refine .inr ⟨hs, L, M', ty, h1, k2, k3.trans h3, λ j => ?_⟩;rcases k4 j with e | h
   . rw [e]; exact h4 j
   . exact .inr h
theorem yL.of_below {S : Nat -> Nat -> Value -> Prop} {w w' : World} (h : Below w.heap.size w w') : yL S w w' := ⟨h.os, h.tape, h.output, h.size, λ k hk => .inl (h.block k hk)⟩
theorem yL.mono {S T : Nat -> Nat -> Value -> Prop} {w w' : World} (h : yL S w w') (hS : ∀ k j y, S k j y -> T k j y) : yL T w w' :=
 ⟨h.os, h.tape, h.output, h.size, λ k hk => (h.block k hk).imp id λ ⟨⟨j, y, e⟩, L, L', ty, h1, h2, h3, h4⟩ => ⟨⟨j, y, hS k j y e⟩, L, L', ty, h1, h2, h3, λ j => (h4 j).imp id λ ⟨y, e1, e2⟩ => ⟨y, e1, hS k j y e2⟩⟩⟩
theorem yL.ext {S : Nat -> Nat -> Value -> Prop} {w w' : World} (h : yL S w w') : Ext (λ k => ∃ j y, S k j y) w w' :=
 ⟨h.os, h.tape, h.output, h.size, λ k hk hn => (h.block k hk).elim id λ h => absurd h.1 hn⟩
theorem yL.cell {S : Nat -> Nat -> Value -> Prop} {w w' : World} (h : yL S w w') {p : Addr} {v : Value} (hc : w.cell? p = some v) (hn : ∀ j y, ¬ S p.block j y) : w'.cell? p = some v :=
 h.ext.cell_some hc λ ⟨j, y, e⟩ => hn j y e
theorem yL.heap {S : Nat -> Nat -> Value -> Prop} {w w' : World} (h : yL S w w') {k : Nat} {o : Obj} (hc : w.heap[k]? = some o) (hn : ∀ j y, ¬ S k j y) : w'.heap[k]? = some o :=
 h.ext.heap hc λ ⟨j, y, e⟩ => hn j y e
def vF (S : Nat -> Nat -> Value -> Prop) : Grow := ⟨yL S, yL.refl S, yL.trans⟩
theorem yL.owns {S : Nat -> Nat -> Value -> Prop} {w w' : World} (h : yL S w w') {base e size n : Nat} {v : Value} {xs : List Value} (ho : w.ownsRow base e size v n xs)
 (hS : ∀ k j y, v.ownBlock = some k -> S k j y -> n * size <= j \/ xs[j]? = some y) : w'.ownsRow base e size v n xs := by
 obtain ⟨h1, h2⟩ := ho;refine ⟨h1, ?_⟩;rcases h2 with h2 | ⟨g, cap, cur, rfl, hg, hh, hn, hc, hs, ht⟩
 . exact .inl h2
 . right;have hlt := zI hh;rcases h.block g hlt with e1 | ⟨-, L, L', ty, k1, k2, k3, k4⟩
   . exact ⟨g, cap, cur, rfl, hg, e1.trans hh, hn, hc, hs, ht⟩
   . rw [hh] at k1;injection k1 with k1;injection k1 with k1 k5;subst k1 k5;refine ⟨g, cap, L'.toArray, rfl, hg, k2, hn, hc, by simpa [k3] using hs, ?_⟩;simp only at ht hs ⊢;refine List.ext_getElem? λ j => ?_;rcases Nat.lt_or_ge j (n * size) with hj | hj
     . have e0 : L[j]? = xs[j]? := by rw [<- ht, List.getElem?_take_of_lt hj]
       rw [List.getElem?_take_of_lt hj];rcases k4 j with e | ⟨y, e, hy⟩
       . rw [e, e0]
       . rcases hS g j y rfl hy with h | h
         . omega
         . rw [e, h]
     . rw [List.getElem?_eq_none (by rw [List.length_take]; omega), List.getElem?_eq_none (by omega)]
section
variable {P : Program}
theorem sG (w : World) (B : Nat) (t ty e : TypeId) (i : TypeInfo) (z : Value) (size bytes : Nat) (ht : P.underlying t = some (.slice e)) (hi : P.info? e = some i) (hz : i.zero = some z)
 (hsize : i.size = size) (hby : i.bytes = bytes) (hzs : z.cells.size = size) (hsz : 0 < size)
 (v : Value) (n : Nat) (xs : List Value) (hown : w.ownsRow B e size v n xs) (a : Addr) (m c : Nat) (news : List Value) (hl : news.length = m * size) (hnews : ∀ j u, news[j]? = some u -> w.cell? (a.add j) = some u)
 (h1 : ∀ u ∈ news, u.oneCell' = true) (h63 : n + m <= maxLen) (hbytes : (n + m) * bytes <= 140737488355328) (hB : B <= w.heap.size) :
 ∃ v' w', (Builtin.append_ #[t, t] ty #[v, .slice (some a) m c]).run P w = .ok v' w' /\ w'.ownsRow B e size v' (n + m) (xs ++ news) /\
  yL (λ k j y => v.ownBlock = some k /\ n * size <= j /\ news[j - n * size]? = some y) w w' /\ (∀ k, v'.ownBlock = some k -> v.ownBlock = some k \/ w.heap.size <= k) := by
 rcases hown.2 with ⟨hv, hn0⟩ | ⟨g', cap, cur, hv, hg', hh, hnc, hcm, hcs, hct⟩
 . subst hv hn0;obtain ⟨v', w', r1, r2, r3, -⟩ := run_append_own (P := P) w w.heap.size t ty e i z size bytes ht hi hz hsize hby hzs hsz (.slice none 0 0) 0 xs (yC hown (λ k hk => by cases hk)) a m c news hl hnews h1 h63 hbytes (Nat.le_refl _);exact ⟨v', w', r1, yC r2 (λ k hk => Nat.le_trans hB (r2.lt k hk).1), .of_below ⟨r3.os, r3.tape, r3.output, r3.size, λ k hk => r3.block k hk (by intro h; cases h)⟩, λ k hk => .inr (r2.lt k hk).1⟩
 . subst hv;obtain ⟨v', w', hr, r2, r3, -⟩ := run_append_own (P := P) w B t ty e i z size bytes ht hi hz hsize hby hzs hsz _ n xs hown a m c news hl hnews h1 h63 hbytes hB;by_cases hroom : n + m <= cap
   . have hfit : n * size + news.length <= cur.size := by
      rw [hl, hcs, <- Nat.add_mul];exact Nat.mul_le_mul_right size hroom
     have hr2 := run_append_room (P := P) w t ty e i ht hi g' n cap cur hh a m c news (by rw [hl, hsize]) hnews h1 hroom (by rw [hsize]; exact hfit);rw [hr2] at hr;injection hr with hv hw;subst hv hw;refine ⟨_, _, hr2, r2, ?_, λ k hk => .inl hk⟩;have hlt := zI hh;rw [hsize] at *;refine ⟨rfl, rfl, rfl, by simp, λ k hk => ?_⟩;by_cases hkg : k = g'
     . subst hkg;rcases Nat.eq_zero_or_pos news.length with h0 | h0
       . left;obtain rfl := List.eq_nil_of_length_eq_zero h0;rw [setRow_heap w k cur _ e (0, 0) hh, hh];simp
       refine .inr ⟨⟨n * size, news[0], rfl, Nat.le_refl _, by simp⟩, cur.toList, _, e, by simpa using hh, setRow_heap w k cur _ e (0, 0) hh, ?_, λ j => ?_⟩
       . simp only [List.length_append, List.length_take, List.length_drop, Array.length_toList]; omega
       . have hc : (cur.toList.take (n * size)).length = n * size := by rw [List.length_take, Array.length_toList]; omega
         rcases Nat.lt_or_ge j (n * size) with hj | hj
         . left;rw [List.append_assoc, List.getElem?_append_left (by omega), List.getElem?_take_of_lt hj]
         . rcases Nat.lt_or_ge j (n * size + news.length) with hj2 | hj2
           . right;refine ⟨news[j - n * size], ?_, rfl, hj, List.getElem?_eq_getElem (by omega)⟩;rw [List.append_assoc, List.getElem?_append_right (by omega), hc, List.getElem?_append_left (by omega), List.getElem?_eq_getElem (by omega)]
           . left;rw [List.getElem?_append_right (by rw [List.length_append]; omega), List.length_append, hc, List.getElem?_drop]
             congr 1
             omega
     . exact .inl (setRow_other w g' k _ hkg)
   . have hr2 := run_append_grow (P := P) w t ty e i z ht hi hz ⟨g', 0, none⟩ n cap xs (by rw [hsize]; exact hown.1) (hown.cells (g := g') rfl) a m c news (by rw [hl, hsize]) hnews (by omega) (by unfold maxLen at h63; omega) (growslice_fits (by omega) (by rw [hby]; exact hbytes));rw [hr2] at hr;injection hr with hv hw;subst hv hw;refine ⟨_, _, hr2, r2, .of_below (((Below.refl _ w).drew).alloc (Nat.le_refl _) _), λ k hk => .inr ?_⟩;have hk : w.heap.size = k := Option.some.inj hk;omega
end
end Go.Hp
