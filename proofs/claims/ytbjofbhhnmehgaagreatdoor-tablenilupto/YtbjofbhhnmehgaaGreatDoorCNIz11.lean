
/-
 table: Walk.
-/
import Derived.Test.YtbjofbhhnmehgaaGreatDoorCNIz10
import Derived.Test.YtbjofbhhnmehgaaGreatDoorCNIz0
set_option linter.unusedSimpArgs false
set_option linter.unusedVariables false
set_option maxHeartbeats 4000000
set_option maxRecDepth 100000
open Go.IntWalk (toNatUp iteOmega)
namespace Go.Proofs.YtbjofbhhnmehgaaGreatDoor.TT
open Go.RowKit Go.RG Go.Hp Go.Proofs.YtbjofbhhnmehgaaGreatDoor
attribute [local go_sem] Oper.semAt_some
def kT (ps : List Pr) (hi : List Int) : Nat := if hi = [] then ps.length else posK (zS ps) hi
def walkR (ps : List Pr) (lo hi : List Int) : List Pr := (ps.take (kT ps hi)).drop (posK (zS ps) lo)
def oI (w : World) (B : Nat) (v : Value) (xs : List Value) : Prop := ∃ g c C, v = .slice (some ⟨g, 0, none⟩) xs.length c /\ B <= g /\ w.heap[g]? = some (.cells C 5 (C.size, C.size + 1)) /\ C.size = c /\ xs.length <= c /\ C.toList.take xs.length = xs
theorem oI.src {w : World} {B : Nat} {v : Value} {xs : List Value} (h : oI w B v xs) : Src w v xs := by
 obtain ⟨g, c, C, rfl, h2, h3, h4, h5, h6⟩ := h;refine .inl ⟨g, 0, c, rfl, h5, λ j u hu => ?_⟩;rw [Nat.zero_add, World.cell?, h3];have hj := (List.getElem?_eq_some_iff.1 hu).1;rw [<- h6, List.getElem?_take_of_lt hj] at hu;simpa using hu
theorem oI.cells {w : World} {B : Nat} {v : Value} {xs : List Value} (h : oI w B v xs) {j : Nat} (hj : v.ownBlock = some j) : B <= j /\ wR w j := by
 obtain ⟨g, c, C, rfl, h2, h3, -⟩ := h;obtain rfl := Option.some.inj hj;exact ⟨h2, _, h3, rfl⟩
theorem oI.base {w : World} {B B' : Nat} {v : Value} {xs : List Value} (h : oI w B v xs) (hB : B' <= B) : oI w B' v xs := by
 obtain ⟨g, c, C, h1, h2, h3⟩ := h;exact ⟨g, c, C, h1, Nat.le_trans hB h2, h3⟩
theorem conv_row (s : List Int) (w : World) (hb : zO s) : ∃ u W, Sem.run Tryz.prog (convert 9 52 (.string (strOfNums s))) w = .ok u W /\ oI W w.heap.size u (u8s s) /\ Below w.heap.size w W /\ ∃ g c, u = .slice (some ⟨g, 0, none⟩) s.length c := by
 have hge : s.length <= grownCap w (strOfNums s).size 0 5 := by
  have := grownCap_ge w (strOfNums s).size 0 5;rw [strOfNums_size] at this ⊢;omega
 have hsz : (Lib.bytesCells w 5 (strOfNums s)).size = grownCap w (strOfNums s).size 0 5 := by
  unfold Lib.bytesCells;simp [strOfNums_size] at hge ⊢;omega
 refine ⟨_, _, Lib.run_convert_string_bytes w 9 52 5 (strOfNums s) vZ xW (by kernel_rfl), ⟨w.heap.size, _, _, by rw [strOfNums_size, zH], Nat.le_refl _, Lib.bytesWorld_at_new w 5 (strOfNums s), by rw [hsz, strOfNums_size], ?_, ?_⟩, ⟨rfl, rfl, rfl, by rw [Lib.bytesWorld_size]; omega, λ k hk => Lib.bytesWorld_at_old _ _ _ _ hk⟩, ⟨_, _, by rw [strOfNums_size]⟩⟩
 . rw [zH];simpa [strOfNums_size] using hge
 . refine List.ext_getElem? λ j => ?_;rcases Nat.lt_or_ge j s.length with hj | hj
   . have h1 := Lib.bytesWorld_cell w 5 (strOfNums s) j (by rw [strOfNums_size]; exact hj);rw [World.cell?, Lib.bytesWorld_at_new] at h1;rw [List.getElem?_take_of_lt (by rw [zH]; exact hj)];have h2 : (Lib.bytesCells w 5 (strOfNums s))[j]? = some (.int .u8 ((strOfNums s).data.toList.getD j 0).toNat) := by simpa using h1
     rw [Array.getElem?_toList, h2];have h3 := hb _ (List.getElem_mem hj);simp [u8s, strOfNums_data, List.getD, hj];omega
   . rw [List.getElem?_eq_none (by rw [List.length_take, zH]; omega), List.getElem?_eq_none (by rw [zH]; exact hj)]
theorem make_rows (n : Nat) (hn : n <= 500000000) (w : World) : Sem.run Tryz.prog (Instr.makeSlice 66 (.int .i64 n) (.int .i64 n)) w = .ok (.slice (some ⟨w.heap.size, 0, none⟩) n n) (w.alloc (.cells (List.replicate n (.slice none 0 0)).toArray 52)) := by
 obtain ⟨i0, hi, hz0, hz1, hz2⟩ := info_parts info_bytes;have := run_make (P := Tryz.prog) w 66 52 i0 (.slice none 0 0) und_recs hi hz0 .i64 .i64 (n : Int) (n : Int) (by omega) (by omega) (by rw [hz2]; omega) (by omega);rw [hz1] at this;simp only [Int.toNat_natCast, Nat.mul_one] at this;have h2 := toList_madeCells_one (.slice none 0 0) n;have h3 : madeCells (Value.slice none 0 0).cells n = (List.replicate n (Value.slice none 0 0)).toArray := by
  rw [<- Array.toList_inj];exact h2
 rw [h3] at this;exact this
theorem pair_val {ps : List Pr} (hr : yQ (zS ps)) {p : Pr} (hp : p ∈ ps) : valP ps p.1 = p.2 := by
 obtain ⟨v, -, hm, hv⟩ := rA hr (tP hp);rw [hv];exact rA.snd_of_nodup (wO hr) hm hp
structure mG (w : World) (B gv n : Nat) (qs : List Pr) (vs : List Value) : Prop where
 row : Row w gv 52 (vs ++ List.replicate (n - vs.length) (.slice none 0 0))
 own : ∀ (i : Nat) (p : Pr) (v : Value), qs[i]? = some p -> vs[i]? = some v -> w.ownsRow B 5 1 v p.2.length (u8s p.2)
 ne : ∀ (i j : Nat) (v u : Value) (k : Nat), i < j -> vs[i]? = some v -> vs[j]? = some u -> v.ownBlock = some k -> u.ownBlock ≠ some k
 ng : ∀ v ∈ vs, v.ownBlock ≠ some gv
theorem mG.below {w w' : World} {B gv n : Nat} {qs : List Pr} {vs : List Value} (h : mG w B gv n qs vs) (hb : Below w.heap.size w w') : mG w' B gv n qs vs :=
 ⟨h.row.below hb, λ i p v h1 h2 => yA (h.own i p v h1 h2) hb, h.ne, h.ng⟩
theorem mG.put {w w1 : World} {B gv n : Nat} {qs : List Pr} {vs : List Value} {p : Pr} {v : Value} (h : mG w B gv n qs vs) (hl : vs.length < n) (hq : n <= qs.length) (hp : qs[vs.length]? = some p) (hb : Below w.heap.size w w1) (hB : B <= w.heap.size) (hgv : B <= gv) (hv : w1.ownsRow w.heap.size 5 1 v p.2.length (u8s p.2)) :
 mG (w1.setCell ⟨gv, vs.length, none⟩ v) B gv n qs (vs ++ [v]) := by
 have h1 := h.below hb;have hgw : gv < w.heap.size := zI h.row;have hX : Ext (· = gv) w1 (w1.setCell ⟨gv, vs.length, none⟩ v) := Ext.setCell (S := (· = gv)) (p := ⟨gv, vs.length, none⟩) rfl _;have hvn : ∀ k, v.ownBlock = some k -> w.heap.size <= k := λ k hk => (hv.lt k hk).1;refine ⟨?_, λ i p' u h2 h3 => ?_, λ i j u u' k hij h2 h3 h4 => ?_, λ u hu => ?_⟩
 . have hs := yB (j := vs.length) h1.row v;show (w1.setCell ⟨gv, vs.length, none⟩ v).heap[gv]? = _;rw [hs]
   congr 2
   rw [List.setIfInBounds_toArray]
   congr 1
   rw [List.set_append_right _ _ (Nat.le_refl _), Nat.sub_self, List.append_assoc]
   congr 1
   rw [List.length_append, List.length_singleton, show n - vs.length = (n - (vs.length + 1)) + 1 by omega, List.replicate_succ];rfl
 . rcases Nat.lt_or_ge i vs.length with hi | hi
   . rw [List.getElem?_append_left hi] at h3;have hne := h.ng u (List.mem_of_getElem? h3);exact xQ (h1.own i p' u h2 h3) hX λ k hk e => hne (e ▸ hk)
   . have : i = vs.length := by
      have := (List.getElem?_eq_some_iff.1 h3).1;simp at this;omega
     subst this;rw [List.getElem?_append_right (Nat.le_refl _), Nat.sub_self] at h3;simp at h3;subst h3;rw [hp] at h2;injection h2 with h2;subst h2;exact yC (xQ hv hX λ k hk e => by have := hvn k hk; omega) λ k hk => Nat.le_trans hB (hvn k hk)
 . have hj := (List.getElem?_eq_some_iff.1 h3).1;simp at hj;rw [List.getElem?_append_left (by omega)] at h2;rcases Nat.lt_or_ge j vs.length with hjl | hjl
   . rw [List.getElem?_append_left hjl] at h3;exact h.ne i j u u' k hij h2 h3 h4
   . have : j = vs.length := by omega
     subst this;rw [List.getElem?_append_right (Nat.le_refl _), Nat.sub_self] at h3;simp at h3;subst h3;have h5 := xD (h.own i _ u (List.getElem?_eq_getElem (by omega)) h2) h4;exact λ e => by have := hvn k e; omega
 . rcases List.mem_append.1 hu with hu | hu
   . exact h.ng u hu
   . rw [List.mem_singleton.1 hu];exact λ e => by have := hvn gv e; omega
def WalkOk (Pr' : World -> Nat -> Prop) (B : Nat) (qs : List Pr) (pre : List (Value × Value)) (x : Value × Value) (W : World) : Prop :=
 ∃ p, qs[pre.length]? = some p /\ oI W B x.1 (u8s p.1) /\ W.ownsRow B 5 1 x.2 p.2.length (u8s p.2) /\ (∀ j, x.1.ownBlock = some j \/ x.2.ownBlock = some j -> Pr' W j) /\ (∀ j, x.1.ownBlock = some j -> x.2.ownBlock ≠ some j) /\
  ∀ y ∈ pre, ∀ j, y.1.ownBlock = some j \/ y.2.ownBlock = some j -> x.1.ownBlock ≠ some j /\ x.2.ownBlock ≠ some j
theorem walk_seq (m : Nat) (d l : Nat) (q : TBk) (T : TblS) (lo hi : List Int) (w : World) (h : sH w d l q T) (hlo : zO lo) (hhi : zO hi) (hsum : zU T.ps <= 1000000000) (Bt Bl Bh : Nat) (hbt : w.cell? ⟨Bt, 0, none⟩ = some (.pointer (some ⟨q.t, 0, none⟩)))
 (hbl : w.cell? ⟨Bl, 0, none⟩ = some (.string (strOfNums lo))) (hbh : w.cell? ⟨Bh, 0, none⟩ = some (.string (strOfNums hi))) (inv : World -> Prop) (Pr' : World -> Nat -> Prop) (hG : GuardX inv Pr') (hn0 : inv w) :
 SeqX Fence.wide m Tryz.prog 67 #[.pointer (some ⟨Bt, 0, none⟩), .pointer (some ⟨Bl, 0, none⟩), .pointer (some ⟨Bh, 0, none⟩)] (λ x : Value × Value => #[x.1, x.2]) (λ x => pJ inv Pr' (λ j => x.1.ownBlock = some j \/ x.2.ownBlock = some j))
  (λ xs => xs.length = (walkR T.ps lo hi).length) (λ _ => True) (WalkOk Pr' w.heap.size (walkR T.ps lo hi)) w := by
 intro l' J Jx W hW hJ hJx hY hJ0;have hx := zG hW hbt;have hxl := zG hW hbl;have hxh := zG hW hbh;have hT := h.below hW;have hl2 := uY T.ps;obtain ⟨n, hn⟩ : ∃ n, T.ps.length = n := ⟨_, rfl⟩;have hcs := hT.cs;obtain ⟨-, -, -, c3, c4, -⟩ := hcs;have hks := hT.keys;have hkl : (zS T.ps).length = n := by rw [xM, hn]
 rw [hkl] at hks;obtain ⟨sa, sc, hqs, hsc, -⟩ := zP hks;rw [hqs] at c4 hks;have HKS := zB hks;have HT := zB hT;have Hn := zB (zC hn hkl);have hgood : ∀ k ∈ zS T.ps, zO k := λ k hk => by obtain ⟨v, hv⟩ := uG hk; exact (hT.good _ hv).1
 have hrise := hT.rise;have hn9 : n <= 500000000 := by omega
 have HBS := zB λ (x : List Int) (hxb : zO x) (W' : World) (hW' : Below W.heap.size W W') => qY (.slice sa n sc) (zS T.ps) hrise hgood x hxb W' (Src.of_owns (yA hks hW')) (by rw [hkl]; omega);have HY := zB hY;have HJ0 := zB hJ0;have hpl := posK_le (zS T.ps) lo;rw [hkl] at hpl;obtain ⟨at', hat⟩ : ∃ a, posK (zS T.ps) lo = a := ⟨_, rfl⟩;rw [hat] at hpl;have Hat := zB hat;clear h hT hbt hbl hbh hY hJ0 hks hqs hn hkl hat hgood hrise;refine callsIn_wide.2 ?_;show Calls Tryz.prog 67 #[.func (.yield l') #[] #[], .pointer (some ⟨Bt, 0, none⟩), .pointer (some ⟨Bl, 0, none⟩), .pointer (some ⟨Bh, 0, none⟩)] W _;go_enter Tryz.func67, Tryz.ntmps67
 go_wp2_with fail
 refine zY (λ i => if i = 5 then some (λ v _ => v = .tuple #[.int .i64 at', .bool (decide (lo ∈ zS T.ps))]) else none) fol (by kernel_rfl) (λ W2 hW2 hh => ?_);clear hh;have q1 := zV hW2 hx;have q2 := zV hW2 hxl;have q4 := zV hW2 c4
 repeat ((first | refine lxM ?_ | refine lxF ?_ | refine zM rfl ?_); simp only [zD])
 refine zW _ rfl (λ _ _ _ h _ => h) rfl (λ w1 hb1 hf1 => ?_) ?_
 . have hb1' := hb1
   (unfold yE; go_simp; simp only [zN])
   refine (HBS.out lo hlo _ (zF hW2 hb1')).mono ?_;rintro e w' ⟨rfl, hB⟩;rw [Hat.out];exact ⟨_, rfl, hB, rfl⟩
 rintro v3 W3 hB3 rfl;simp only [zD]
 repeat ((first | refine lxM ?_ | refine lxF ?_ | refine zM rfl ?_); simp only [zD])
 refine zZ ?_;have hBW := zF hW2 hB3;have hx := zG hBW hx;have hxh := zG hBW hxh;have c4 := zG hBW c4;have c3 := zG hBW c3;have HBW := zB hBW;clear q1 q2 q4 hW2 hB3 hBW hxl;by_cases hhe : hi = []
 . have hem : (strOfNums hi).toList.isEmpty = true := by rw [hhe]; simp [strOfNums, ByteArray.toList_eq]
   have hen : kT T.ps hi = n := by unfold kT; rw [if_pos hhe]; exact Hn.out.1
   have Hen := zB hen;clear hen hhe;by_cases hae : at' < n
   . have hae1 : ¬ (n : Int) <= (at' : Int) := by omega
     have hae2 : ¬ n <= at' := by omega
     go_wp2_with fail
     have hnn := Nat.le_refl n;obtain ⟨gs, sc0, hsl, -, -, -, -, hkc, -⟩ := xB HKS.out (by omega);injection hsl with hsl1 _ hsl3;subst hsl1 hsl3;obtain ⟨N, hN⟩ : ∃ N, n - at' = N := ⟨_, rfl⟩;obtain ⟨qs, hqs⟩ : ∃ qs, walkR T.ps lo hi = qs := ⟨_, rfl⟩;have hqe : qs = (T.ps.take n).drop at' := by rw [<- hqs]; unfold walkR; rw [Hen.out, Hat.out]
     have hqg : ∀ i, i < N -> qs[i]? = T.ps[at' + i]? := λ i hi => by rw [hqe, List.getElem?_drop, List.getElem?_take_of_lt (by omega)]
     have hql : qs.length = N := by rw [hqe, List.length_drop, List.length_take, Hn.out.1, Nat.min_eq_left hnn, hN]
     have hkql : (zS qs).length = N := by rw [xM, hql]
     have hCl := SS.clone_any ⟨gs, at', none⟩ N (sc - at') (strs (zS qs)) (by rw [rL, hkql, Nat.mul_one]) (iI _) (by omega) W3 (λ j u hu => by
      have hj := (List.getElem?_eq_some_iff.1 hu).1;rw [rL, hkql] at hj;have h1 := hkc (at' + j) (by omega);have h2 : (strs (zS T.ps))[at' + j]? = (strs (zS qs))[j]? := by
       unfold strs zS;rw [List.getElem?_map, List.getElem?_map, List.getElem?_map, List.getElem?_map, hqg j hj]
      rw [h2, hu] at h1;rw [Addr.add_lit];exact zG HBW.out h1)
     have HQ := zB (zC hqs (zC hqg (zC hql hkql)));have HCl := zB hCl;have hqm : ∀ p ∈ qs, p ∈ T.ps := λ p hp => by
      rw [hqe] at hp;exact List.mem_of_mem_take (List.mem_of_mem_drop hp)
     have HQM := zB hqm;have hN9 : N <= 500000000 := by omega
     have hN0 : 0 < N := by omega
     have HNN := zB hN;have hMk := λ W' => make_rows N hN9 W';clear hCl hkc hqs hqe hqg hql hkql hqm c4 hN;simp only [Option.map_some, Addr.add_lit, Nat.zero_add];rw [HNN.out];refine HCl.out.mono ?_;rintro e w6 ⟨vk, rfl, hok, -, hB6⟩;obtain ⟨ka, kc, rfl, -⟩ := zP hok;have hb7 := zQ w6 (.cells (List.replicate N (.slice none 0 0)).toArray 52);have g7 := World.alloc_heap_new w6 (.cells (List.replicate N (.slice none 0 0)).toArray 52);have hx0 := hx;have hx := zG hb7 (zG hB6 hx);have c3 := zG hb7 (zG hB6 c3);have hB67 := zF hB6 hb7;have hok7 := yA hok hb7;have hs7 : w6.heap.size < (w6.alloc (.cells (List.replicate N (.slice none 0 0)).toArray 52)).heap.size := by simp
     have HMK := zB (hMk w6);have hK6 : ∀ j, (Value.slice ka N kc).ownBlock = some j -> j < w6.heap.size := λ j hj => xD hok hj;have hsz6 := hB6.size;have hbt6 : Bt < w6.heap.size := Nat.lt_of_lt_of_le (Nat.lt_of_lt_of_le (block_lt_of_cell hx0) hsz6) (Nat.le_refl _);clear hMk HCl hb7 hB6 hok hx0;obtain ⟨w7, hw7⟩ : ∃ w7, w6.alloc (.cells (List.replicate N (.slice none 0 0)).toArray 52) = w7 := ⟨_, rfl⟩;rw [hw7] at g7 hx c3 hB67 hok7 hs7 HMK;obtain ⟨gv, hgv⟩ : ∃ g, w6.heap.size = g := ⟨_, rfl⟩;rw [hgv] at g7 hs7 HMK;clear hw7;have hB7 : Below W.heap.size W w7 := HBW.out.trans (hB67.mono HBW.out.size);have hkb : ∀ j, (Value.slice ka N kc).ownBlock = some j -> j < gv := λ j hj => by rw [<- hgv]; exact hK6 j hj
     have hWg : W.heap.size <= gv := by rw [<- hgv]; exact Nat.le_trans HBW.out.size hsz6
     have HB7 := zB (zC hB7 hok7);have HG7 := zB (show mG w7 gv gv N qs [] from ⟨by simpa [Row] using g7, λ i p v h1 h2 => by simp at h2, λ i j v u k h1 h2 => by simp at h2, λ v hv => (by cases hv)⟩);have hbtn : Bt < gv := by rw [<- hgv]; exact hbt6
     have hqtn : q.t < gv := by have := HT.out.lt q.t (.inl rfl); omega
     clear hB7 hok7 hB67 hK6 hsz6 hbt6 g7
     go_wp2_with (simp only [HMK.out])
     go_loopw [57] (λ vi wr => ∃ (i : Nat) (vs : List Value), vi = .int .i64 i /\ i <= N /\ vs.length = i /\ mG wr gv gv N qs vs /\ Ext (· = gv) w7 wr) (λ vi _ => N - (intOf vi).toNat)
     case atStart => exact ⟨0, [], rfl, Nat.zero_le _, rfl, HG7.out, Ext.refl _ _⟩
     case round =>
      obtain ⟨i, vs, rfl, hi, hvl, hVs, hXr⟩ := hrel;have hVs0 := hVs.row;have hBr : Below W.heap.size W wr := HB7.out.1.trans (hXr.to_belowAt HB7.out.1.size λ k hk e => by omega);by_cases hiN : i < N
      . have hiN' : (i : Int) < (N : Int) := by omega
        obtain ⟨p, hp⟩ : ∃ p, qs[i]? = some p := ⟨_, List.getElem?_eq_getElem (by rw [HQ.out.2.2.1]; exact hiN)⟩;have hpm := HQM.out p (List.mem_of_getElem? hp);obtain ⟨kg, kcc, hsl, -, -, -, -, hkc, -⟩ := xB HB7.out.2 hN0;injection hsl with hsl1 _ hsl3;subst hsl1 hsl3;have hks := hkc i (by omega);rw [pR (show (zS qs)[i]? = some p.1 by unfold zS; rw [List.getElem?_map, hp]; rfl)] at hks;have hkg : kg < gv := hkb kg rfl;have hks := hXr.cell_some hks (by show kg ≠ gv; omega);have hxr := hXr.cell_some hx (by show Bt ≠ gv; omega);have c3r := hXr.cell_some c3 (by show q.t ≠ gv; omega);have hTr := HT.out.below hBr;obtain ⟨hkbs, hvbs, hkl1, hvl1⟩ := HT.out.good p hpm;have hlk := hTr.map.look p.1 hkbs (by omega);have hval := hTr.val p.1;rw [pair_val HT.out.rise hpm] at hval;obtain ⟨va, vc, hsh, -⟩ := hval.shape;rw [hsh] at hval hlk;rw [zH] at hval hlk;have Hval := zB hval;have HV := zB (zC hVs (zC hXr (zC hBr (zC hp hvl))));have hgr := zI hVs.row;have hown0 : wr.ownsRow wr.heap.size 5 1 (.slice none 0 0) 0 [] := World.ownsRow_nil _ _ _ _;clear hval hsh hkc hVs hVs0 hXr hBr hTr hp hvl
        go_wp2_with (at_builtin; go_loud (refine xN rfl _ _ rfl wr.heap.size 0 _ _ [] (u8s p.2) rfl hown0 rfl Hval.out (yU _) (by rw [zH]; omega) (Nat.le_refl _) ?_; intro v2 w2 hown2 hg2; obtain ⟨ya, yc, rfl, -⟩ := zP hown2; have hrow2 := HV.out.1.row.below hg2; have hc2 : w2.cell? ⟨gv, i, none⟩ = some (.slice none 0 0) := (by rw [hrow2.cell, List.getElem?_append_right (by rw [HV.out.2.2.2.2]; exact Nat.le_refl _), HV.out.2.2.2.2, Nat.sub_self, List.getElem?_replicate, if_pos (by omega)]); have hf2 := hrow2.frozen i; have Hg2 := zB hg2; have Hown2 := zB hown2; clear hown2 hg2 hrow2))
        have hown := Hown2.out;rw [zH, Nat.zero_add, List.nil_append] at hown;have hput := HV.out.1.put (by rw [HV.out.2.2.2.2]; exact hiN) (by rw [HQ.out.2.2.1]; exact Nat.le_refl _) (by rw [HV.out.2.2.2.2]; exact HV.out.2.2.2.1) Hg2.out (by omega) (Nat.le_refl _) hown;rw [HV.out.2.2.2.2] at hput;refine ⟨⟨i + 1, vs ++ [.slice ya p.2.length yc], by simp, by omega, by rw [List.length_append, HV.out.2.2.2.2]; rfl, ?_, ?_⟩, ?_⟩
        . rw [zH];exact hput
        . exact (HV.out.2.1.trans (Ext.of_below (S := (· = gv)) Hg2.out) λ _ _ h => h).trans (Ext.setCell (S := (· = gv)) (p := ⟨gv, i, none⟩) rfl _) λ _ _ h => h
        . show N - ((i : Int) + 1).toNat < N - (i : Int).toNat;omega
      . obtain rfl : i = N := by omega
        have hiN' : ¬ (i : Int) < (i : Int) := by omega
        rw [hvl, Nat.sub_self, List.replicate_zero, List.append_nil] at hVs0
        go_wp2_with fail
        generalize wr = wA at *;have hinvW := (hG.fresh w W hn0 hW).1;have hwA := hBr.size;have hownA : wA.ownsRow W.heap.size 9 1 (.slice ka i kc) i (strs (zS qs)) := yC (xQ HB7.out.2 hXr λ k hk e => by have := hkb k hk; omega) λ k hk => Nat.le_trans HBW.out.size (HB7.out.2.lt k hk).1;have hK0 : nI inv Pr' (λ k => (Value.slice ka i kc).ownBlock = some k \/ k = gv \/ ∃ j v, 0 <= j /\ vs[j]? = some v /\ v.ownBlock = some k) wA wA := by
         have hAB : ∀ k, ((Value.slice ka i kc).ownBlock = some k \/ k = gv \/ ∃ j v, 0 <= j /\ vs[j]? = some v /\ v.ownBlock = some k) -> W.heap.size <= k /\ wR wA k := λ k hk => by
          rcases hk with hk | rfl | ⟨j, v, -, hv, hk⟩
          . exact ⟨(hownA.lt k hk).1, sD hownA hk⟩
          . exact ⟨hWg, _, hVs.row, rfl⟩
          . obtain ⟨p, hp⟩ : ∃ p, qs[j]? = some p := ⟨_, List.getElem?_eq_getElem (by rw [HQ.out.2.2.1, <- hvl]; exact (List.getElem?_eq_some_iff.1 hv).1)⟩;have ho := hVs.own j p v hp hv;exact ⟨Nat.le_trans hWg (ho.lt k hk).1, sD ho hk⟩
         refine ⟨(hG.fresh W wA hinvW hBr).1, λ k hk => ?_, λ k hk => (hAB k hk).2.lt, λ _ _ => rfl⟩;obtain ⟨h1, o, h2, h3⟩ := hAB k hk;exact (hG.fresh W wA hinvW hBr).2.2 k o h1 h2 h3
        have hJr : J [] wA := qT hJ HJ0.out hBr;have HVs := zB (zC hVs (zC hvl (zC hownA hVs0)));clear hVs hvl hownA hVs0 c3 hx;refine (wpIn_wide (n := m)).1 ?_
        gi_loopw [75] (λ vi wr => ∃ (j : Nat) (pre : List (Value × Value)), vi = .int .i64 j /\ j <= i /\ pre.length = j /\ J pre wr /\ nI inv Pr' (λ k => (Value.slice ka i kc).ownBlock = some k \/ k = gv \/ ∃ j' v, j <= j' /\ vs[j']? = some v /\ v.ownBlock = some k) wA wr /\ wA.heap.size <= wr.heap.size /\
         ∀ (t : Nat) (y : Value × Value), pre[t]? = some y -> vs[t]? = some y.2 /\ ∀ k, y.1.ownBlock = some k -> wA.heap.size <= k /\ k < wr.heap.size) (λ vi _ => i - (intOf vi).toNat)
        case atStart => exact ⟨0, [], rfl, Nat.zero_le _, rfl, hJr, hK0, Nat.le_refl _, λ t y h => by simp at h⟩
        case round =>
         obtain ⟨j, pre, rfl, hj, hpl, hJ1, hK1, hsw, hpre⟩ := hrel;by_cases hji : j < i
         . have hji' : (j : Int) < (i : Int) := by omega
           obtain ⟨p, hp⟩ : ∃ p, qs[j]? = some p := ⟨_, List.getElem?_eq_getElem (by rw [HQ.out.2.2.1]; exact hji)⟩;obtain ⟨v, hv⟩ : ∃ v, vs[j]? = some v := ⟨_, List.getElem?_eq_getElem (by rw [HVs.out.2.1]; exact hji)⟩;have hpm := HQM.out p (List.mem_of_getElem? hp);obtain ⟨hkbs, -, hkl1, hvl1⟩ := HT.out.good p hpm;obtain ⟨kg, kcc, hsl, -, -, -, -, hkc, -⟩ := xB HVs.out.2.2.1 hN0;injection hsl with hsl1 _ hsl3;subst hsl1 hsl3;have hks := hkc j (by omega);rw [pR (show (zS qs)[j]? = some p.1 by unfold zS; rw [List.getElem?_map, hp]; rfl)] at hks;have hks := hK1.cell (b := kg) (.inl rfl) hks;have hvc : wA.cell? ⟨gv, j, none⟩ = some v := by
            have h1 := HVs.out.1.row.cell j;rw [h1, HVs.out.2.1, Nat.sub_self, List.replicate_zero, List.append_nil, hv]
           have hvc := hK1.cell (b := gv) (.inr (.inl rfl)) hvc;have hownv := HVs.out.1.own j p v hp hv;have hvA : ∀ k, v.ownBlock = some k -> (Value.slice (some ⟨kg, 0, none⟩) i kc).ownBlock = some k \/ k = gv \/ ∃ j' v', j <= j' /\ vs[j']? = some v' /\ v'.ownBlock = some k := λ k hk => .inr (.inr ⟨j, v, Nat.le_refl _, hv, hk⟩);have hownr : wr.ownsRow gv 5 1 v p.2.length (u8s p.2) := yJ hownv λ k hk => hK1.eq k (hvA k hk);obtain ⟨u, W1, hcv, hcr, hbc, gu, cu, rfl⟩ := conv_row p.1 wr hkbs;have hvc := zG hbc hvc;have hK2 := hK1.below hG hbc;have hJ2 := qT hJ hJ1 hbc;have hwW := hW.size;have hul : ∀ k, (Value.slice (some ⟨gu, 0, none⟩) p.1.length cu).ownBlock = some k -> wr.heap.size <= k := λ k hk => (hcr.cells hk).1;have hvlt : ∀ k, v.ownBlock = some k -> k < wA.heap.size := λ k hk => xD hownv hk;have hok : WalkOk Pr' w.heap.size qs pre (.slice (some ⟨gu, 0, none⟩) p.1.length cu, v) W1 := by
            refine ⟨p, by rw [hpl]; exact hp, hcr.base (by omega), yC (yA hownr hbc) λ k hk => ?_, λ k hk => ?_, λ k hk e => ?_, λ y hy k hk => ?_⟩
            . have := (hownr.lt k hk).1; omega
            . rcases hk with hk | hk
              . obtain ⟨h1, o, h2, h3⟩ := hcr.cells hk;exact (hG.fresh wr W1 hK1.lo hbc).2.2 k o h1 h2 h3
              . exact hK2.pr k (hvA k hk)
            . have h1 := hul k hk; have h2 := hvlt k e; omega
            . obtain ⟨t, ht⟩ := List.mem_iff_getElem?.1 hy;have htl := (List.getElem?_eq_some_iff.1 ht).1;obtain ⟨h1, h2⟩ := hpre t y ht;rcases hk with hk | hk
              . have h3 := h2 k hk;exact ⟨λ e => by have := hul k e; omega, λ e => by have := hvlt k e; omega⟩
              . have h4 : k < wA.heap.size := by
                 obtain ⟨p', hp'⟩ : ∃ p', qs[t]? = some p' := ⟨_, List.getElem?_eq_getElem (by rw [HQ.out.2.2.1]; omega)⟩;exact xD (HVs.out.1.own t p' y.2 hp' h1) hk
                exact ⟨λ e => by have := hul k e; omega, HVs.out.1.ne t j y.2 v k (by omega) h1 hv hk⟩
           rw [<- HQ.out.1] at hok;obtain ⟨fn, tmps, assign, body, hy, hR⟩ := HY.out _ _ _ hJ2 hok;have hKX : ∀ k, ((Value.slice (some ⟨kg, 0, none⟩) i kc).ownBlock = some k \/ k = gv \/ ∃ j' v', j + 1 <= j' /\ vs[j']? = some v' /\ v'.ownBlock = some k) -> ¬ ((Value.slice (some ⟨gu, 0, none⟩) p.1.length cu).ownBlock = some k \/ v.ownBlock = some k) := λ k hk e => by
            have hk2 : k < wr.heap.size := hK1.lt k (hk.imp id λ h => h.imp id λ ⟨j', v', h1, h2⟩ => ⟨j', v', by omega, h2⟩);rcases e with e | e
            . have := hul k e; omega
            . rcases hk with hk | rfl | ⟨j', v', h1, h2, h3⟩
              . have h4 := hkb k hk;have h5 := (hownv.lt k e).1;omega
              . exact HVs.out.1.ng v (List.mem_of_getElem? hv) e
              . exact HVs.out.1.ne j j' v v' k (by omega) hv h2 e h3
           have hpre2 : ∀ W5 : World, W1.heap.size <= W5.heap.size -> ∀ (t : Nat) (y : Value × Value), (pre ++ [(Value.slice (some ⟨gu, 0, none⟩) p.1.length cu, v)])[t]? = some y -> vs[t]? = some y.2 /\ ∀ k, y.1.ownBlock = some k -> wA.heap.size <= k /\ k < W5.heap.size := λ W5 hs5 t y ht => by
            have hbs := hbc.size;rcases Nat.lt_or_ge t pre.length with hl | hl
            . rw [List.getElem?_append_left hl] at ht;obtain ⟨h1, h2⟩ := hpre t y ht;exact ⟨h1, λ k hk => by have := h2 k hk; omega⟩
            . have : t = pre.length := by
               have := (List.getElem?_eq_some_iff.1 ht).1;simp at this;omega
              subst this;rw [List.getElem?_append_right (Nat.le_refl _), Nat.sub_self] at ht;simp at ht;subst ht;rw [hpl];exact ⟨hv, λ k hk => by have h1 := hul k hk; have h2 := (hcr.cells hk).2.lt; omega⟩
           have HK2 := zB (zC (hK2.mono (A' := λ k => (Value.slice (some ⟨kg, 0, none⟩) i kc).ownBlock = some k \/ k = gv \/ ∃ j' v', j + 1 <= j' /\ vs[j']? = some v' /\ v'.ownBlock = some k) λ k hk => hk.imp id λ h => h.imp id λ ⟨j', v', h1, h2⟩ => ⟨j', v', by omega, h2⟩) (zC hKX (zC hpre2 (zC hbc.size hpl))));obtain ⟨va, vc, rfl, -⟩ := zP hownr;dsimp only at hy;clear hKX hpre2 hK2 hJ2 hok hownr hownv hvA hul hvlt hcr hkc hK1 hpre hp hv hpl hJ1
           gi_wp2_with fail
           refine ⟨λ h => (by cases h), hR.mono ?_⟩;rintro e W5 (⟨rfl, hJ5, hk5, -⟩ | ⟨rfl, hJx5, -⟩)
           . gi_wp2_with fail
             go_roundw
             case rel => exact ⟨j + 1, pre ++ [(.slice (some ⟨gu, 0, none⟩) p.1.length cu, .slice va p.2.length vc)], by simp, by omega, by rw [List.length_append, HK2.out.2.2.2.2]; rfl, hJ5, HK2.out.1.keep hk5 HK2.out.2.1, by have h1 := HK2.out.2.2.2.1; have h2 := hk5.size; omega, HK2.out.2.2.1 W5 hk5.size⟩
             case measure =>
              show i - ((j : Int) + 1).toNat < i - (j : Int).toNat;omega
           . gi_wp2_with fail
             refine bodyPost_ret (results_none rfl _ _ _) rfl ?_;exact ⟨⟨_, rfl⟩, .inr ⟨_, trivial, hJx5⟩⟩
         . obtain rfl : j = i := by omega
           have hji' : ¬ (j : Int) < (j : Int) := by omega
           gi_wp2_with fail
           go_end0
           exact ⟨⟨_, rfl⟩, .inl ⟨pre, by rw [HQ.out.1, HQ.out.2.2.1]; exact hpl, hJ1⟩⟩
   . have hae1 : (n : Int) <= (at' : Int) := by omega
     have hae2 : n <= at' := by omega
     go_wp2_with fail
     refine bodyPost_ret (results_none rfl _ _ _) rfl ?_;refine ⟨⟨_, rfl⟩, .inl ⟨[], ?_, qT hJ HJ0.out HBW.out⟩⟩;unfold walkR;rw [Hen.out, Hat.out];simp;omega
 . have hem : (strOfNums hi).toList.isEmpty = false := by
    cases hi with
    | nil => exact absurd rfl hhe
    | cons x l => simp [strOfNums, ByteArray.toList_eq]
   have hpe := posK_le (zS T.ps) hi;rw [Hn.out.2] at hpe;obtain ⟨en, hen⟩ : ∃ e, posK (zS T.ps) hi = e := ⟨_, rfl⟩;have hen' : kT T.ps hi = en := by unfold kT; rw [if_neg hhe]; exact hen
   have Hen := zB hen';have Hpe := zB hen;rw [hen] at hpe;clear hen hen' hhe
   go_wp2_with fail
   refine zY (λ i => if i = 5 then some (λ v _ => v = .tuple #[.int .i64 en, .bool (decide (hi ∈ zS T.ps))]) else none) fol (by kernel_rfl) (λ W4 hW4 hh => ?_);clear hh;have q1 := zV hW4 hx;have q2 := zV hW4 hxh;have q4 := zV hW4 c4
   repeat ((first | refine lxM ?_ | refine lxF ?_ | refine zM rfl ?_); simp only [zD])
   refine zW _ rfl (λ _ _ _ h _ => h) rfl (λ w1 hb1 hf1 => ?_) ?_
   . have hb1' := hb1
     (unfold yE; go_simp; simp only [zN])
     refine (HBS.out hi hhi _ (zF HBW.out (zF hW4 hb1'))).mono ?_;rintro e w' ⟨rfl, hB⟩;rw [Hpe.out];exact ⟨_, rfl, hB, rfl⟩
   rintro v5 W5 hB5 rfl;simp only [zD]
   repeat ((first | refine lxM ?_ | refine lxF ?_ | refine zM rfl ?_); simp only [zD])
   refine zZ ?_;have hBW2 := zF hW4 hB5;have hx := zG hBW2 hx;have c4 := zG hBW2 c4;have c3 := zG hBW2 c3;have HBW := zB (zF HBW.out hBW2);clear q1 q2 q4 hW4 hB5 hBW2;by_cases hae : at' < en
   . have hae1 : ¬ (en : Int) <= (at' : Int) := by omega
     have hae2 : ¬ en <= at' := by omega
     go_wp2_with fail
     have hnn := hpe;obtain ⟨gs, sc0, hsl, -, -, -, -, hkc, -⟩ := xB HKS.out (by omega);injection hsl with hsl1 _ hsl3;subst hsl1 hsl3;obtain ⟨N, hN⟩ : ∃ N, en - at' = N := ⟨_, rfl⟩;obtain ⟨qs, hqs⟩ : ∃ qs, walkR T.ps lo hi = qs := ⟨_, rfl⟩;have hqe : qs = (T.ps.take en).drop at' := by rw [<- hqs]; unfold walkR; rw [Hen.out, Hat.out]
     have hqg : ∀ i, i < N -> qs[i]? = T.ps[at' + i]? := λ i hi => by rw [hqe, List.getElem?_drop, List.getElem?_take_of_lt (by omega)]
     have hql : qs.length = N := by rw [hqe, List.length_drop, List.length_take, Hn.out.1, Nat.min_eq_left hnn, hN]
     have hkql : (zS qs).length = N := by rw [xM, hql]
     have hCl := SS.clone_any ⟨gs, at', none⟩ N (sc - at') (strs (zS qs)) (by rw [rL, hkql, Nat.mul_one]) (iI _) (by omega) W5 (λ j u hu => by
      have hj := (List.getElem?_eq_some_iff.1 hu).1;rw [rL, hkql] at hj;have h1 := hkc (at' + j) (by omega);have h2 : (strs (zS T.ps))[at' + j]? = (strs (zS qs))[j]? := by
       unfold strs zS;rw [List.getElem?_map, List.getElem?_map, List.getElem?_map, List.getElem?_map, hqg j hj]
      rw [h2, hu] at h1;rw [Addr.add_lit];exact zG HBW.out h1)
     have HQ := zB (zC hqs (zC hqg (zC hql hkql)));have HCl := zB hCl;have hqm : ∀ p ∈ qs, p ∈ T.ps := λ p hp => by
      rw [hqe] at hp;exact List.mem_of_mem_take (List.mem_of_mem_drop hp)
     have HQM := zB hqm;have hN9 : N <= 500000000 := by omega
     have hN0 : 0 < N := by omega
     have HNN := zB hN;have hMk := λ W' => make_rows N hN9 W';clear hCl hkc hqs hqe hqg hql hkql hqm c4 hN;simp only [Option.map_some, Addr.add_lit, Nat.zero_add];rw [HNN.out];refine HCl.out.mono ?_;rintro e w6 ⟨vk, rfl, hok, -, hB6⟩;obtain ⟨ka, kc, rfl, -⟩ := zP hok;have hb7 := zQ w6 (.cells (List.replicate N (.slice none 0 0)).toArray 52);have g7 := World.alloc_heap_new w6 (.cells (List.replicate N (.slice none 0 0)).toArray 52);have hx0 := hx;have hx := zG hb7 (zG hB6 hx);have c3 := zG hb7 (zG hB6 c3);have hB67 := zF hB6 hb7;have hok7 := yA hok hb7;have hs7 : w6.heap.size < (w6.alloc (.cells (List.replicate N (.slice none 0 0)).toArray 52)).heap.size := by simp
     have HMK := zB (hMk w6);have hK6 : ∀ j, (Value.slice ka N kc).ownBlock = some j -> j < w6.heap.size := λ j hj => xD hok hj;have hsz6 := hB6.size;have hbt6 : Bt < w6.heap.size := Nat.lt_of_lt_of_le (Nat.lt_of_lt_of_le (block_lt_of_cell hx0) hsz6) (Nat.le_refl _);clear hMk HCl hb7 hB6 hok hx0;obtain ⟨w7, hw7⟩ : ∃ w7, w6.alloc (.cells (List.replicate N (.slice none 0 0)).toArray 52) = w7 := ⟨_, rfl⟩;rw [hw7] at g7 hx c3 hB67 hok7 hs7 HMK;obtain ⟨gv, hgv⟩ : ∃ g, w6.heap.size = g := ⟨_, rfl⟩;rw [hgv] at g7 hs7 HMK;clear hw7;have hB7 : Below W.heap.size W w7 := HBW.out.trans (hB67.mono HBW.out.size);have hkb : ∀ j, (Value.slice ka N kc).ownBlock = some j -> j < gv := λ j hj => by rw [<- hgv]; exact hK6 j hj
     have hWg : W.heap.size <= gv := by rw [<- hgv]; exact Nat.le_trans HBW.out.size hsz6
     have HB7 := zB (zC hB7 hok7);have HG7 := zB (show mG w7 gv gv N qs [] from ⟨by simpa [Row] using g7, λ i p v h1 h2 => by simp at h2, λ i j v u k h1 h2 => by simp at h2, λ v hv => (by cases hv)⟩);have hbtn : Bt < gv := by rw [<- hgv]; exact hbt6
     have hqtn : q.t < gv := by have := HT.out.lt q.t (.inl rfl); omega
     clear hB7 hok7 hB67 hK6 hsz6 hbt6 g7
     go_wp2_with (simp only [HMK.out])
     go_loopw [57] (λ vi wr => ∃ (i : Nat) (vs : List Value), vi = .int .i64 i /\ i <= N /\ vs.length = i /\ mG wr gv gv N qs vs /\ Ext (· = gv) w7 wr) (λ vi _ => N - (intOf vi).toNat)
     case atStart => exact ⟨0, [], rfl, Nat.zero_le _, rfl, HG7.out, Ext.refl _ _⟩
     case round =>
      obtain ⟨i, vs, rfl, hi, hvl, hVs, hXr⟩ := hrel;have hVs0 := hVs.row;have hBr : Below W.heap.size W wr := HB7.out.1.trans (hXr.to_belowAt HB7.out.1.size λ k hk e => by omega);by_cases hiN : i < N
      . have hiN' : (i : Int) < (N : Int) := by omega
        obtain ⟨p, hp⟩ : ∃ p, qs[i]? = some p := ⟨_, List.getElem?_eq_getElem (by rw [HQ.out.2.2.1]; exact hiN)⟩;have hpm := HQM.out p (List.mem_of_getElem? hp);obtain ⟨kg, kcc, hsl, -, -, -, -, hkc, -⟩ := xB HB7.out.2 hN0;injection hsl with hsl1 _ hsl3;subst hsl1 hsl3;have hks := hkc i (by omega);rw [pR (show (zS qs)[i]? = some p.1 by unfold zS; rw [List.getElem?_map, hp]; rfl)] at hks;have hkg : kg < gv := hkb kg rfl;have hks := hXr.cell_some hks (by show kg ≠ gv; omega);have hxr := hXr.cell_some hx (by show Bt ≠ gv; omega);have c3r := hXr.cell_some c3 (by show q.t ≠ gv; omega);have hTr := HT.out.below hBr;obtain ⟨hkbs, hvbs, hkl1, hvl1⟩ := HT.out.good p hpm;have hlk := hTr.map.look p.1 hkbs (by omega);have hval := hTr.val p.1;rw [pair_val HT.out.rise hpm] at hval;obtain ⟨va, vc, hsh, -⟩ := hval.shape;rw [hsh] at hval hlk;rw [zH] at hval hlk;have Hval := zB hval;have HV := zB (zC hVs (zC hXr (zC hBr (zC hp hvl))));have hgr := zI hVs.row;have hown0 : wr.ownsRow wr.heap.size 5 1 (.slice none 0 0) 0 [] := World.ownsRow_nil _ _ _ _;clear hval hsh hkc hVs hVs0 hXr hBr hTr hp hvl
        go_wp2_with (at_builtin; go_loud (refine xN rfl _ _ rfl wr.heap.size 0 _ _ [] (u8s p.2) rfl hown0 rfl Hval.out (yU _) (by rw [zH]; omega) (Nat.le_refl _) ?_; intro v2 w2 hown2 hg2; obtain ⟨ya, yc, rfl, -⟩ := zP hown2; have hrow2 := HV.out.1.row.below hg2; have hc2 : w2.cell? ⟨gv, i, none⟩ = some (.slice none 0 0) := (by rw [hrow2.cell, List.getElem?_append_right (by rw [HV.out.2.2.2.2]; exact Nat.le_refl _), HV.out.2.2.2.2, Nat.sub_self, List.getElem?_replicate, if_pos (by omega)]); have hf2 := hrow2.frozen i; have Hg2 := zB hg2; have Hown2 := zB hown2; clear hown2 hg2 hrow2))
        have hown := Hown2.out;rw [zH, Nat.zero_add, List.nil_append] at hown;have hput := HV.out.1.put (by rw [HV.out.2.2.2.2]; exact hiN) (by rw [HQ.out.2.2.1]; exact Nat.le_refl _) (by rw [HV.out.2.2.2.2]; exact HV.out.2.2.2.1) Hg2.out (by omega) (Nat.le_refl _) hown;rw [HV.out.2.2.2.2] at hput;refine ⟨⟨i + 1, vs ++ [.slice ya p.2.length yc], by simp, by omega, by rw [List.length_append, HV.out.2.2.2.2]; rfl, ?_, ?_⟩, ?_⟩
        . rw [zH];exact hput
        . exact (HV.out.2.1.trans (Ext.of_below (S := (· = gv)) Hg2.out) λ _ _ h => h).trans (Ext.setCell (S := (· = gv)) (p := ⟨gv, i, none⟩) rfl _) λ _ _ h => h
        . show N - ((i : Int) + 1).toNat < N - (i : Int).toNat;omega
      . obtain rfl : i = N := by omega
        have hiN' : ¬ (i : Int) < (i : Int) := by omega
        rw [hvl, Nat.sub_self, List.replicate_zero, List.append_nil] at hVs0
        go_wp2_with fail
        generalize wr = wA at *;have hinvW := (hG.fresh w W hn0 hW).1;have hwA := hBr.size;have hownA : wA.ownsRow W.heap.size 9 1 (.slice ka i kc) i (strs (zS qs)) := yC (xQ HB7.out.2 hXr λ k hk e => by have := hkb k hk; omega) λ k hk => Nat.le_trans HBW.out.size (HB7.out.2.lt k hk).1;have hK0 : nI inv Pr' (λ k => (Value.slice ka i kc).ownBlock = some k \/ k = gv \/ ∃ j v, 0 <= j /\ vs[j]? = some v /\ v.ownBlock = some k) wA wA := by
         have hAB : ∀ k, ((Value.slice ka i kc).ownBlock = some k \/ k = gv \/ ∃ j v, 0 <= j /\ vs[j]? = some v /\ v.ownBlock = some k) -> W.heap.size <= k /\ wR wA k := λ k hk => by
          rcases hk with hk | rfl | ⟨j, v, -, hv, hk⟩
          . exact ⟨(hownA.lt k hk).1, sD hownA hk⟩
          . exact ⟨hWg, _, hVs.row, rfl⟩
          . obtain ⟨p, hp⟩ : ∃ p, qs[j]? = some p := ⟨_, List.getElem?_eq_getElem (by rw [HQ.out.2.2.1, <- hvl]; exact (List.getElem?_eq_some_iff.1 hv).1)⟩;have ho := hVs.own j p v hp hv;exact ⟨Nat.le_trans hWg (ho.lt k hk).1, sD ho hk⟩
         refine ⟨(hG.fresh W wA hinvW hBr).1, λ k hk => ?_, λ k hk => (hAB k hk).2.lt, λ _ _ => rfl⟩;obtain ⟨h1, o, h2, h3⟩ := hAB k hk;exact (hG.fresh W wA hinvW hBr).2.2 k o h1 h2 h3
        have hJr : J [] wA := qT hJ HJ0.out hBr;have HVs := zB (zC hVs (zC hvl (zC hownA hVs0)));clear hVs hvl hownA hVs0 c3 hx;refine (wpIn_wide (n := m)).1 ?_
        gi_loopw [75] (λ vi wr => ∃ (j : Nat) (pre : List (Value × Value)), vi = .int .i64 j /\ j <= i /\ pre.length = j /\ J pre wr /\ nI inv Pr' (λ k => (Value.slice ka i kc).ownBlock = some k \/ k = gv \/ ∃ j' v, j <= j' /\ vs[j']? = some v /\ v.ownBlock = some k) wA wr /\ wA.heap.size <= wr.heap.size /\
         ∀ (t : Nat) (y : Value × Value), pre[t]? = some y -> vs[t]? = some y.2 /\ ∀ k, y.1.ownBlock = some k -> wA.heap.size <= k /\ k < wr.heap.size) (λ vi _ => i - (intOf vi).toNat)
        case atStart => exact ⟨0, [], rfl, Nat.zero_le _, rfl, hJr, hK0, Nat.le_refl _, λ t y h => by simp at h⟩
        case round =>
         obtain ⟨j, pre, rfl, hj, hpl, hJ1, hK1, hsw, hpre⟩ := hrel;by_cases hji : j < i
         . have hji' : (j : Int) < (i : Int) := by omega
           obtain ⟨p, hp⟩ : ∃ p, qs[j]? = some p := ⟨_, List.getElem?_eq_getElem (by rw [HQ.out.2.2.1]; exact hji)⟩;obtain ⟨v, hv⟩ : ∃ v, vs[j]? = some v := ⟨_, List.getElem?_eq_getElem (by rw [HVs.out.2.1]; exact hji)⟩;have hpm := HQM.out p (List.mem_of_getElem? hp);obtain ⟨hkbs, -, hkl1, hvl1⟩ := HT.out.good p hpm;obtain ⟨kg, kcc, hsl, -, -, -, -, hkc, -⟩ := xB HVs.out.2.2.1 hN0;injection hsl with hsl1 _ hsl3;subst hsl1 hsl3;have hks := hkc j (by omega);rw [pR (show (zS qs)[j]? = some p.1 by unfold zS; rw [List.getElem?_map, hp]; rfl)] at hks;have hks := hK1.cell (b := kg) (.inl rfl) hks;have hvc : wA.cell? ⟨gv, j, none⟩ = some v := by
            have h1 := HVs.out.1.row.cell j;rw [h1, HVs.out.2.1, Nat.sub_self, List.replicate_zero, List.append_nil, hv]
           have hvc := hK1.cell (b := gv) (.inr (.inl rfl)) hvc;have hownv := HVs.out.1.own j p v hp hv;have hvA : ∀ k, v.ownBlock = some k -> (Value.slice (some ⟨kg, 0, none⟩) i kc).ownBlock = some k \/ k = gv \/ ∃ j' v', j <= j' /\ vs[j']? = some v' /\ v'.ownBlock = some k := λ k hk => .inr (.inr ⟨j, v, Nat.le_refl _, hv, hk⟩);have hownr : wr.ownsRow gv 5 1 v p.2.length (u8s p.2) := yJ hownv λ k hk => hK1.eq k (hvA k hk);obtain ⟨u, W1, hcv, hcr, hbc, gu, cu, rfl⟩ := conv_row p.1 wr hkbs;have hvc := zG hbc hvc;have hK2 := hK1.below hG hbc;have hJ2 := qT hJ hJ1 hbc;have hwW := hW.size;have hul : ∀ k, (Value.slice (some ⟨gu, 0, none⟩) p.1.length cu).ownBlock = some k -> wr.heap.size <= k := λ k hk => (hcr.cells hk).1;have hvlt : ∀ k, v.ownBlock = some k -> k < wA.heap.size := λ k hk => xD hownv hk;have hok : WalkOk Pr' w.heap.size qs pre (.slice (some ⟨gu, 0, none⟩) p.1.length cu, v) W1 := by
            refine ⟨p, by rw [hpl]; exact hp, hcr.base (by omega), yC (yA hownr hbc) λ k hk => ?_, λ k hk => ?_, λ k hk e => ?_, λ y hy k hk => ?_⟩
            . have := (hownr.lt k hk).1; omega
            . rcases hk with hk | hk
              . obtain ⟨h1, o, h2, h3⟩ := hcr.cells hk;exact (hG.fresh wr W1 hK1.lo hbc).2.2 k o h1 h2 h3
              . exact hK2.pr k (hvA k hk)
            . have h1 := hul k hk; have h2 := hvlt k e; omega
            . obtain ⟨t, ht⟩ := List.mem_iff_getElem?.1 hy;have htl := (List.getElem?_eq_some_iff.1 ht).1;obtain ⟨h1, h2⟩ := hpre t y ht;rcases hk with hk | hk
              . have h3 := h2 k hk;exact ⟨λ e => by have := hul k e; omega, λ e => by have := hvlt k e; omega⟩
              . have h4 : k < wA.heap.size := by
                 obtain ⟨p', hp'⟩ : ∃ p', qs[t]? = some p' := ⟨_, List.getElem?_eq_getElem (by rw [HQ.out.2.2.1]; omega)⟩;exact xD (HVs.out.1.own t p' y.2 hp' h1) hk
                exact ⟨λ e => by have := hul k e; omega, HVs.out.1.ne t j y.2 v k (by omega) h1 hv hk⟩
           rw [<- HQ.out.1] at hok;obtain ⟨fn, tmps, assign, body, hy, hR⟩ := HY.out _ _ _ hJ2 hok;have hKX : ∀ k, ((Value.slice (some ⟨kg, 0, none⟩) i kc).ownBlock = some k \/ k = gv \/ ∃ j' v', j + 1 <= j' /\ vs[j']? = some v' /\ v'.ownBlock = some k) -> ¬ ((Value.slice (some ⟨gu, 0, none⟩) p.1.length cu).ownBlock = some k \/ v.ownBlock = some k) := λ k hk e => by
            have hk2 : k < wr.heap.size := hK1.lt k (hk.imp id λ h => h.imp id λ ⟨j', v', h1, h2⟩ => ⟨j', v', by omega, h2⟩);rcases e with e | e
            . have := hul k e; omega
            . rcases hk with hk | rfl | ⟨j', v', h1, h2, h3⟩
              . have h4 := hkb k hk;have h5 := (hownv.lt k e).1;omega
              . exact HVs.out.1.ng v (List.mem_of_getElem? hv) e
              . exact HVs.out.1.ne j j' v v' k (by omega) hv h2 e h3
           have hpre2 : ∀ W5 : World, W1.heap.size <= W5.heap.size -> ∀ (t : Nat) (y : Value × Value), (pre ++ [(Value.slice (some ⟨gu, 0, none⟩) p.1.length cu, v)])[t]? = some y -> vs[t]? = some y.2 /\ ∀ k, y.1.ownBlock = some k -> wA.heap.size <= k /\ k < W5.heap.size := λ W5 hs5 t y ht => by
            have hbs := hbc.size;rcases Nat.lt_or_ge t pre.length with hl | hl
            . rw [List.getElem?_append_left hl] at ht;obtain ⟨h1, h2⟩ := hpre t y ht;exact ⟨h1, λ k hk => by have := h2 k hk; omega⟩
            . have : t = pre.length := by
               have := (List.getElem?_eq_some_iff.1 ht).1;simp at this;omega
              subst this;rw [List.getElem?_append_right (Nat.le_refl _), Nat.sub_self] at ht;simp at ht;subst ht;rw [hpl];exact ⟨hv, λ k hk => by have h1 := hul k hk; have h2 := (hcr.cells hk).2.lt; omega⟩
           have HK2 := zB (zC (hK2.mono (A' := λ k => (Value.slice (some ⟨kg, 0, none⟩) i kc).ownBlock = some k \/ k = gv \/ ∃ j' v', j + 1 <= j' /\ vs[j']? = some v' /\ v'.ownBlock = some k) λ k hk => hk.imp id λ h => h.imp id λ ⟨j', v', h1, h2⟩ => ⟨j', v', by omega, h2⟩) (zC hKX (zC hpre2 (zC hbc.size hpl))));obtain ⟨va, vc, rfl, -⟩ := zP hownr;dsimp only at hy;clear hKX hpre2 hK2 hJ2 hok hownr hownv hvA hul hvlt hcr hkc hK1 hpre hp hv hpl hJ1
           gi_wp2_with fail
           refine ⟨λ h => (by cases h), hR.mono ?_⟩;rintro e W5 (⟨rfl, hJ5, hk5, -⟩ | ⟨rfl, hJx5, -⟩)
           . gi_wp2_with fail
             go_roundw
             case rel => exact ⟨j + 1, pre ++ [(.slice (some ⟨gu, 0, none⟩) p.1.length cu, .slice va p.2.length vc)], by simp, by omega, by rw [List.length_append, HK2.out.2.2.2.2]; rfl, hJ5, HK2.out.1.keep hk5 HK2.out.2.1, by have h1 := HK2.out.2.2.2.1; have h2 := hk5.size; omega, HK2.out.2.2.1 W5 hk5.size⟩
             case measure =>
              show i - ((j : Int) + 1).toNat < i - (j : Int).toNat;omega
           . gi_wp2_with fail
             refine bodyPost_ret (results_none rfl _ _ _) rfl ?_;exact ⟨⟨_, rfl⟩, .inr ⟨_, trivial, hJx5⟩⟩
         . obtain rfl : j = i := by omega
           have hji' : ¬ (j : Int) < (j : Int) := by omega
           gi_wp2_with fail
           go_end0
           exact ⟨⟨_, rfl⟩, .inl ⟨pre, by rw [HQ.out.1, HQ.out.2.2.1]; exact hpl, hJ1⟩⟩
   . have hae1 : (en : Int) <= (at' : Int) := by omega
     have hae2 : en <= at' := by omega
     go_wp2_with fail
     refine bodyPost_ret (results_none rfl _ _ _) rfl ?_;refine ⟨⟨_, rfl⟩, .inl ⟨[], ?_, qT hJ HJ0.out HBW.out⟩⟩;unfold walkR;rw [Hen.out, Hat.out];simp;omega
end Go.Proofs.YtbjofbhhnmehgaaGreatDoor.TT
namespace Go.RG
open Go.RowKit
def fwdB (ops : Array Oper) : Bool := (List.range ops.size).all λ i => match ops[i]? with
 | some o => o.after.all λ e => !Region.binds .any e || decide (e.on < i)
 | none => true
theorem fwd_all {ops : Array Oper} (h : fwdB ops = true) {listed : Array Bool} (hs : listed.size = ops.size) (hr : Region.ready .any ops listed = []) : ∀ j, j < ops.size -> listed.getD j true = true := by
 intro j
 induction j using Nat.strongRecOn with
 | _ j ih =>
  intro hj
  cases hb : listed.getD j true with
  | true => rfl
  | false =>
   exfalso
   have ho : ops[j]? = some ops[j] := Array.getElem?_eq_getElem hj;have : j ∈ Region.ready .any ops listed := by
    refine mem_ready.2 ⟨hb, _, ho, λ e he hbd => ?_⟩;have h1 := List.all_eq_true.1 h j (List.mem_range.2 hj);rw [ho] at h1;have h2 := Array.all_eq_true_iff_forall_mem.1 h1 e he;simp only [hbd, Bool.not_true, Bool.false_or, decide_eq_true_eq] at h2;have h3 := ih e.on h2 (by omega);rw [Array.getD_eq_getD_getElem?] at h3 ⊢;have h4 : e.on < listed.size := by omega
    simp [h4] at h3 ⊢;exact h3
   rw [hr] at this
   cases this
section
variable {P : Program} {Q : Exit -> Act -> World -> Prop} {ls : List Oper}
theorem wpAny_of_inv (I : (Nat -> Bool) -> Act -> World -> Prop) (hf : fwdB ls.toArray = true)
 (hstep : ∀ (L : Nat -> Bool) (a : Act) (w : World) (i : Nat) (o : Oper), I L a w -> L i = false -> ls[i]? = some o -> (∀ e ∈ o.after, Region.binds .any e = true -> L e.on = true) ->
  (Region.wanted o (yielded ls.toArray a.tmps) = true /\ yE P o a w λ v w' => I (λ j => decide (j = i) || L j) (a.put o.dst v) w') \/ (Region.wanted o (yielded ls.toArray a.tmps) = false /\ I (λ j => decide (j = i) || L j) (a.put o.dst undef) w))
 (hend : ∀ (L : Nat -> Bool) (a : Act) (w : World), I L a w -> (∀ j, j < ls.length -> L j = true) -> Q .normal a w) :
 ∀ (fuel : Nat) (listed : Array Bool) (a : Act) (w : World), listed.size = ls.length -> (listed.toList.count false) <= fuel -> I (λ j => listed.getD j false) a w -> wpAny P .any ls.toArray Q fuel listed a w := by
 have key : ∀ (listed : Array Bool) (a : Act) (w : World), listed.size = ls.length -> I (λ j => listed.getD j false) a w -> Region.ready .any ls.toArray listed = [] -> Q .normal a w := λ listed a w hs hI hr => by
  refine hend _ a w hI λ j hj => ?_;have := fwd_all hf (by simpa using hs) hr j (by simpa using hj);rw [Array.getD_eq_getD_getElem?] at this ⊢;have h4 : j < listed.size := by omega
  simp [h4] at this ⊢;exact this
 intro fuel
 induction fuel with
 | zero =>
  intro listed a w hs hc hI;have hr : Region.ready .any ls.toArray listed = [] := by
   rw [List.eq_nil_iff_forall_not_mem];intro j hj;obtain ⟨h1, -⟩ := mem_ready.1 hj;have h2 : listed.toList.count false = 0 := by omega
   rw [List.count_eq_zero] at h2;rw [Array.getD_eq_getD_getElem?] at h1;rcases Nat.lt_or_ge j listed.size with h | h
   . simp [h] at h1;exact h2 (by rw [<- h1]; simp)
   . simp [h] at h1
  exact ⟨hr, key listed a w hs hI hr⟩
 | succ fuel ih =>
  intro listed a w hs hc hI;refine ⟨λ hr => key listed a w hs hI hr, λ i hi => ?_⟩;obtain ⟨h1, o, ho, h2⟩ := mem_ready.1 hi;have hil : i < listed.size := by
   rcases Nat.lt_or_ge i listed.size with h | h
   . exact h
   . rw [Array.getD_eq_getD_getElem?] at h1;simp [h] at h1
  have hLi : listed.getD i false = false := by
   rw [Array.getD_eq_getD_getElem?] at h1 ⊢;simp [hil] at h1 ⊢;exact h1
  have hset : (λ j => (listed.setIfInBounds i true).getD j false) = λ j => decide (j = i) || listed.getD j false := by
   funext j
   by_cases e : j = i
   . subst e;simp [Array.getD_eq_getD_getElem?, hil]
   . have e' : ¬ i = j := λ h => e h.symm;simp [Array.getD_eq_getD_getElem?, e, Array.getElem?_setIfInBounds, e']
  have hcount : (listed.setIfInBounds i true).toList.count false <= fuel := by
   have h3 : listed.toList[i]? = some false := by
    rw [Array.getElem?_toList, Array.getElem?_eq_getElem hil];rw [Array.getD_eq_getD_getElem?] at h1;simp [hil] at h1;rw [h1]
   rw [Array.toList_setIfInBounds];have h4 := List.count_set (a := true) (b := false) (l := listed.toList) (i := i) (by simpa using hil);have h5 : listed.toList[i] = false := by
    have := h3;rw [List.getElem?_eq_getElem (by simpa using hil)] at this;exact Option.some.inj this
   have h6 : 0 < List.count false listed.toList := List.count_pos_iff.2 (List.mem_of_getElem? h3);have h7 : (if (listed.toList[i] == false) = true then 1 else 0) = 1 := by rw [h5]; rfl
   have h8 : (if (true == false) = true then 1 else 0) = 0 := rfl;rw [h4, h7, h8];omega
  have hgo := λ a' w' h => ih (listed.setIfInBounds i true) a' w' (by simpa using hs) hcount (by rw [hset]; exact h);unfold wpOp;simp only [ho];rcases hstep _ a w i o hI hLi (by simpa using ho) h2 with ⟨hw, hm⟩ | ⟨hw, hI'⟩
  . rw [if_pos hw];exact .inl (tB hm λ v w' h => hgo _ _ h)
  . rw [if_neg (by simp [hw])];exact hgo _ _ hI'
theorem wp_region_inv {id : Nat} {a : Act} {w : World} (I : (Nat -> Bool) -> Act -> World -> Prop) (hm : P.follows .mixedOrders = true) (hf : fwdB ls.toArray = true)
 (h0 : ∀ b : World, b.heap = w.heap -> Below w.heap.size w b -> I (λ _ => false) a b)
 (hstep : ∀ (L : Nat -> Bool) (a : Act) (w : World) (i : Nat) (o : Oper), I L a w -> L i = false -> ls[i]? = some o -> (∀ e ∈ o.after, Region.binds .any e = true -> L e.on = true) ->
  (Region.wanted o (yielded ls.toArray a.tmps) = true /\ yE P o a w λ v w' => I (λ j => decide (j = i) || L j) (a.put o.dst v) w') \/ (Region.wanted o (yielded ls.toArray a.tmps) = false /\ I (λ j => decide (j = i) || L j) (a.put o.dst undef) w))
 (hend : ∀ (L : Nat -> Bool) (a : Act) (w : World), I L a w -> (∀ j, j < ls.length -> L j = true) -> Q .normal a w) :
 (Code.region id ls.toArray true).wp P Q a w := by
 refine wp_region_any hm ?_;refine wpAny_of_inv I hf hstep hend _ _ _ _ (by simp) ?_ ?_
 . simp [List.count_replicate_self]
 . have hb : I (λ _ => false) a { w with drawn := w.drawn + 1 } := h0 _ rfl (Below.refl _ w).drew;have : (λ j => (Array.replicate ls.toArray.size false).getD j false) = λ _ => false := by
    funext j
    simp [Array.getD_eq_getD_getElem?, Array.getElem?_replicate]
    split <;> rfl
   rw [this];exact hb
end
end Go.RG
namespace Go.Proofs.YtbjofbhhnmehgaaGreatDoor.TT
open Go.RowKit Go.RG Go.Hp Go.Proofs.YtbjofbhhnmehgaaGreatDoor
def WalkI (W0 : World) (p : Option Addr) (v1 v2 : Value) (lo hi : List Int) (B : Nat) (L : Nat -> Bool) (a : Act) (w : World) : Prop :=
 ∃ x7 x8 x9 x10 x11 x12, a = { tmps := #[.pointer p, v1, v2, .pointer (some ⟨B, 0, none⟩), undef, undef, .nilFunc, x7, x8, x9, x10, x11, x12, undef], defers := [] } /\ Below W0.heap.size W0 w /\ (L 0 = true -> x9 = v1) /\ (L 1 = true -> x10 = .string (strOfNums lo)) /\ (L 2 = true -> x11 = v2) /\ (L 3 = true -> x12 = .string (strOfNums hi)) /\
  (L 4 = true -> ∃ g, x7 = .pointer (some ⟨g, 0, none⟩) /\ W0.heap.size <= g /\ w.heap[g]? = some (.cells #[if L 6 then .string (strOfNums lo) else .string { data := #[] }] 9 (0, 0))) /\
  (L 5 = true -> ∃ g, x8 = .pointer (some ⟨g, 0, none⟩) /\ W0.heap.size <= g /\ w.heap[g]? = some (.cells #[if L 7 then .string (strOfNums hi) else .string { data := #[] }] 9 (0, 0))) /\ (L 4 = true -> L 5 = true -> x7 ≠ x8) /\ (L 6 = true -> L 4 = true) /\ (L 7 = true -> L 5 = true)
theorem eD (p : Option Addr) (v1 v2 : Value) (lo hi : List Int) (w : World) (h1 : Src w v1 (u8s lo)) (h2 : Src w v2 (u8s hi)) :
 Calls Tryz.prog 28 #[.pointer p, v1, v2] w λ e w' => ∃ Bt Bl Bh, e = .returned (.func (.func 67) #[] #[.pointer (some ⟨Bt, 0, none⟩), .pointer (some ⟨Bl, 0, none⟩), .pointer (some ⟨Bh, 0, none⟩)]) /\ w.heap.size <= Bt /\ w.heap.size <= Bl /\ w.heap.size <= Bh /\
  w'.cell? ⟨Bt, 0, none⟩ = some (.pointer p) /\ w'.cell? ⟨Bl, 0, none⟩ = some (.string (strOfNums lo)) /\ w'.cell? ⟨Bh, 0, none⟩ = some (.string (strOfNums hi)) /\ Below w.heap.size w w' := by
 have hmf : ∀ (fn : Fn) (first cap : Array Value) (w : World), (Instr.makeFunc fn first cap).run Tryz.prog w = .ok (.func fn first cap) w := λ _ _ _ _ => rfl;have hb0 := zQ w (.cells #[.pointer p] 26);have g0 := World.alloc_heap_new w (.cells #[.pointer p] 26);have H1 := zB (zC (h1.below hb0) (zC (h2.below hb0) (zC hb0 g0)));obtain ⟨a1, c1, rfl, -⟩ := h1.shape;obtain ⟨a2, c2, rfl, -⟩ := h2.shape;clear h1 h2 hb0 g0;go_enter Tryz.func28, Tryz.ntmps28
 go_wp2_with fail
 generalize hW0 : w.alloc (.cells #[.pointer p] 26) = W0 at H1 ⊢;refine wp_region_inv (WalkI W0 p (.slice a1 (u8s lo).length c1) (.slice a2 (u8s hi).length c2) lo hi w.heap.size) fol (by kernel_rfl) (λ b hb1 hb2 => ?_) (λ L a w1 i o hI hL ho haf => ?_) (λ L a w1 hI hall => ?_)
 . exact ⟨_, _, _, _, _, _, rfl, hb2, (λ h => by cases h), (λ h => by cases h), (λ h => by cases h), (λ h => by cases h), (λ h => by cases h), (λ h => by cases h), (λ h => by cases h), (λ h => by cases h), (λ h => by cases h)⟩
 . obtain ⟨x7, x8, x9, x10, x11, x12, rfl, hB, k0, k1, k2, k3, k4, k5, k6, k7, k8⟩ := hI;have hil : i < 8 := (List.getElem?_eq_some_iff.1 ho).1;left;rcases (show i = 0 \/ i = 1 \/ i = 2 \/ i = 3 \/ i = 4 \/ i = 5 \/ i = 6 \/ i = 7 by omega) with rfl | rfl | rfl | rfl | rfl | rfl | rfl | rfl <;> (simp only [List.getElem?_cons_zero, List.getElem?_cons_succ, Option.some.injEq] at ho; subst ho; refine ⟨rfl, ?_⟩; simp [Region.binds] at haf)
   . (unfold yE; go_simp; (try simp only [zN]); (try simp only [zD]))
     exact ⟨x7, x8, _, x10, x11, x12, rfl, hB, λ _ => rfl, by simpa using k1, by simpa using k2, by simpa using k3, by simpa using k4, by simpa using k5, by simpa using k6, by simpa using k7, by simpa using k8⟩
   . have hx9 := k0 haf;subst hx9;have hcv := sQ (H1.out.1.below hB)
     (unfold yE; go_simp; (try simp only [zN]); (try simp only [zD]))
     exact ⟨x7, x8, _, _, x11, x12, rfl, hB, by simp, λ _ => rfl, by simpa using k2, by simpa using k3, by simpa using k4, by simpa using k5, by simpa using k6, by simpa using k7, by simpa using k8⟩
   . (unfold yE; go_simp; (try simp only [zN]); (try simp only [zD]))
     exact ⟨x7, x8, x9, x10, _, x12, rfl, hB, by simpa using k0, by simpa using k1, λ _ => rfl, by simpa using k3, by simpa using k4, by simpa using k5, by simpa using k6, by simpa using k7, by simpa using k8⟩
   . have hx11 := k2 haf;subst hx11;have hcv := sQ (H1.out.2.1.below hB)
     (unfold yE; go_simp; (try simp only [zN]); (try simp only [zD]))
     exact ⟨x7, x8, x9, x10, _, _, rfl, hB, by simpa using k0, by simpa using k1, by simp, λ _ => rfl, by simpa using k4, by simpa using k5, by simpa using k6, by simpa using k7, by simpa using k8⟩
   . have hb1 := zQ w1 (.cells #[.string { data := #[] }] 9);have hg1 := World.alloc_heap_new w1 (.cells #[.string { data := #[] }] 9);have HH := zB (zC hb1 hg1);clear hb1 hg1
     (unfold yE; go_simp; (try simp only [zN]); (try simp only [zD]))
     have hL6 : L 6 = false := by cases h : L 6 with | false => rfl | true => exact absurd (k7 h) (by rw [hL]; decide)
     refine ⟨_, x8, x9, x10, x11, x12, rfl, zF hB HH.out.1, by simpa using k0, by simpa using k1, by simpa using k2, by simpa using k3, λ _ => ⟨w1.heap.size, rfl, hB.size, by simpa [hL6] using HH.out.2⟩, λ h => ?_, λ _ h e => ?_, by simp [hL6], by simpa using k8⟩
     . obtain ⟨g, e1, e2, e3⟩ := k5 (by simpa using h);exact ⟨g, e1, e2, by simpa using zK HH.out.1 e3⟩
     . obtain ⟨g, e1, e2, e3⟩ := k5 (by simpa using h);rw [e1] at e;injection e with e;injection e with e;injection e with e;have := zI e3;omega
   . have hb1 := zQ w1 (.cells #[.string { data := #[] }] 9);have hg1 := World.alloc_heap_new w1 (.cells #[.string { data := #[] }] 9);have HH := zB (zC hb1 hg1);clear hb1 hg1
     (unfold yE; go_simp; (try simp only [zN]); (try simp only [zD]))
     have hL7 : L 7 = false := by cases h : L 7 with | false => rfl | true => exact absurd (k8 h) (by rw [hL]; decide)
     refine ⟨x7, _, x9, x10, x11, x12, rfl, zF hB HH.out.1, by simpa using k0, by simpa using k1, by simpa using k2, by simpa using k3, λ h => ?_, λ _ => ⟨w1.heap.size, rfl, hB.size, by simpa [hL7] using HH.out.2⟩, λ h _ e => ?_, by simpa using k7, by simp [hL7]⟩
     . obtain ⟨g, e1, e2, e3⟩ := k4 (by simpa using h);exact ⟨g, e1, e2, by simpa using zK HH.out.1 e3⟩
     . obtain ⟨g, e1, e2, e3⟩ := k4 (by simpa using h);rw [e1] at e;injection e with e;injection e with e;injection e with e;have := zI e3;omega
   . have h0 : L 0 = true := by first | exact haf.1 | exact haf.2.2.2.2.2.2.2.1 | exact haf.2.2.2.2.2.2.2.2.1 | exact haf.2.1 | exact haf.2.2.1 | exact haf.2.2.2.1 | exact haf.2.2.2.2.1 | exact haf.2.2.2.2.2.1 | exact haf.2.2.2.2.2.2.1 | exact haf.2.2.2 | exact haf.2.2.2.2 | exact haf.2.2.2.2.2 | exact haf.2.2.2.2.2.2 | exact haf.2
     have h1 : L 1 = true := by first | exact haf.1 | exact haf.2.2.2.2.2.2.2.1 | exact haf.2.2.2.2.2.2.2.2.1 | exact haf.2.1 | exact haf.2.2.1 | exact haf.2.2.2.1 | exact haf.2.2.2.2.1 | exact haf.2.2.2.2.2.1 | exact haf.2.2.2.2.2.2.1 | exact haf.2.2.2 | exact haf.2.2.2.2 | exact haf.2.2.2.2.2 | exact haf.2.2.2.2.2.2 | exact haf.2
     have h4 : L 4 = true := by first | exact haf.1 | exact haf.2.2.2.2.2.2.2.1 | exact haf.2.2.2.2.2.2.2.2.1 | exact haf.2.1 | exact haf.2.2.1 | exact haf.2.2.2.1 | exact haf.2.2.2.2.1 | exact haf.2.2.2.2.2.1 | exact haf.2.2.2.2.2.2.1 | exact haf.2.2.2 | exact haf.2.2.2.2 | exact haf.2.2.2.2.2 | exact haf.2.2.2.2.2.2 | exact haf.2
     have h5 : L 5 = true := by first | exact haf.1 | exact haf.2.2.2.2.2.2.2.1 | exact haf.2.2.2.2.2.2.2.2.1 | exact haf.2.1 | exact haf.2.2.1 | exact haf.2.2.2.1 | exact haf.2.2.2.2.1 | exact haf.2.2.2.2.2.1 | exact haf.2.2.2.2.2.2.1 | exact haf.2.2.2 | exact haf.2.2.2.2 | exact haf.2.2.2.2.2 | exact haf.2.2.2.2.2.2 | exact haf.2
     have hx9 := k0 h0;subst hx9;obtain ⟨g, e1, e2, e3⟩ := k4 h4;obtain ⟨g', f1, f2, f3⟩ := k5 h5;have hx10 := k1 h1;have hne := k6 h4 h5;subst e1 f1 hx10;have hgg : g ≠ g' := λ e => hne (by rw [e]);rw [hL] at e3;simp only [Bool.false_eq_true, if_false] at e3;have hc := yV e3 0 _ rfl;have hf : w1.frozen? ⟨g, 0, none⟩ = false := by simp [World.frozen?, e3]
     have hs := yB (j := 0) e3 (.string (strOfNums lo));have hX : Ext (· = g) w1 (w1.setCell ⟨g, 0, none⟩ (.string (strOfNums lo))) := Ext.setCell (S := (· = g)) (p := ⟨g, 0, none⟩) rfl _;have HH := zB (zC hs hX);clear hs hX
     (unfold yE; go_simp; (try simp only [zN]); (try simp only [zD]))
     refine ⟨_, _, _, _, x11, x12, rfl, hB.trans (HH.out.2.to_belowAt hB.size λ k hk e => by omega), by simp, by simp, by simpa using k2, by simpa using k3, λ _ => ⟨g, rfl, e2, by simpa using HH.out.1⟩, λ _ => ⟨g', rfl, f2, by simpa using (HH.out.2.block _ (zI f3) (λ e => hgg e.symm)).trans f3⟩, λ _ _ => hne, by simpa using h4, by simpa using k8⟩
   . have h3 : L 3 = true := by first | exact haf.1 | exact haf.2.2.2.2.2.2.2.1 | exact haf.2.2.2.2.2.2.2.2.1 | exact haf.2.1 | exact haf.2.2.1 | exact haf.2.2.2.1 | exact haf.2.2.2.2.1 | exact haf.2.2.2.2.2.1 | exact haf.2.2.2.2.2.2.1 | exact haf.2.2.2 | exact haf.2.2.2.2 | exact haf.2.2.2.2.2 | exact haf.2.2.2.2.2.2 | exact haf.2
     have h4 : L 4 = true := by first | exact haf.1 | exact haf.2.2.2.2.2.2.2.1 | exact haf.2.2.2.2.2.2.2.2.1 | exact haf.2.1 | exact haf.2.2.1 | exact haf.2.2.2.1 | exact haf.2.2.2.2.1 | exact haf.2.2.2.2.2.1 | exact haf.2.2.2.2.2.2.1 | exact haf.2.2.2 | exact haf.2.2.2.2 | exact haf.2.2.2.2.2 | exact haf.2.2.2.2.2.2 | exact haf.2
     have h5 : L 5 = true := by first | exact haf.1 | exact haf.2.2.2.2.2.2.2.1 | exact haf.2.2.2.2.2.2.2.2.1 | exact haf.2.1 | exact haf.2.2.1 | exact haf.2.2.2.1 | exact haf.2.2.2.2.1 | exact haf.2.2.2.2.2.1 | exact haf.2.2.2.2.2.2.1 | exact haf.2.2.2 | exact haf.2.2.2.2 | exact haf.2.2.2.2.2 | exact haf.2.2.2.2.2.2 | exact haf.2
     have h0 : L 0 = true := by first | exact haf.1 | exact haf.2.2.2.2.2.2.2.1 | exact haf.2.2.2.2.2.2.2.2.1 | exact haf.2.1 | exact haf.2.2.1 | exact haf.2.2.2.1 | exact haf.2.2.2.2.1 | exact haf.2.2.2.2.2.1 | exact haf.2.2.2.2.2.2.1 | exact haf.2.2.2 | exact haf.2.2.2.2 | exact haf.2.2.2.2.2 | exact haf.2.2.2.2.2.2 | exact haf.2
     have h1 : L 1 = true := by first | exact haf.1 | exact haf.2.2.2.2.2.2.2.1 | exact haf.2.2.2.2.2.2.2.2.1 | exact haf.2.1 | exact haf.2.2.1 | exact haf.2.2.2.1 | exact haf.2.2.2.2.1 | exact haf.2.2.2.2.2.1 | exact haf.2.2.2.2.2.2.1 | exact haf.2.2.2 | exact haf.2.2.2.2 | exact haf.2.2.2.2.2 | exact haf.2.2.2.2.2.2 | exact haf.2
     have h2 : L 2 = true := by first | exact haf.1 | exact haf.2.2.2.2.2.2.2.1 | exact haf.2.2.2.2.2.2.2.2.1 | exact haf.2.1 | exact haf.2.2.1 | exact haf.2.2.2.1 | exact haf.2.2.2.2.1 | exact haf.2.2.2.2.2.1 | exact haf.2.2.2.2.2.2.1 | exact haf.2.2.2 | exact haf.2.2.2.2 | exact haf.2.2.2.2.2 | exact haf.2.2.2.2.2.2 | exact haf.2
     have hx9 := k0 h0;have hx10 := k1 h1;have hx11 := k2 h2;subst hx9 hx10 hx11;obtain ⟨g, e1, e2, e3⟩ := k4 h4;obtain ⟨g', f1, f2, f3⟩ := k5 h5;have hx12 := k3 h3;have hne := k6 h4 h5;subst e1 f1 hx12;have hgg : g ≠ g' := λ e => hne (by rw [e]);rw [hL] at f3;simp only [Bool.false_eq_true, if_false] at f3;have hc := yV f3 0 _ rfl;have hf : w1.frozen? ⟨g', 0, none⟩ = false := by simp [World.frozen?, f3]
     have hs := yB (j := 0) f3 (.string (strOfNums hi));have hX : Ext (· = g') w1 (w1.setCell ⟨g', 0, none⟩ (.string (strOfNums hi))) := Ext.setCell (S := (· = g')) (p := ⟨g', 0, none⟩) rfl _;have HH := zB (zC hs hX);clear hs hX
     (unfold yE; go_simp; (try simp only [zN]); (try simp only [zD]))
     refine ⟨_, _, _, _, _, _, rfl, hB.trans (HH.out.2.to_belowAt hB.size λ k hk e => by omega), by simp, by simp, by simp, by simp, λ _ => ⟨g, rfl, e2, by simpa using (HH.out.2.block _ (zI e3) hgg).trans e3⟩, λ _ => ⟨g', rfl, f2, by simpa using HH.out.1⟩, λ _ _ => hne, by simpa using k7, by simpa using h5⟩
 . obtain ⟨x7, x8, x9, x10, x11, x12, rfl, hB, k0, k1, k2, k3, k4, k5, k6, k7, k8⟩ := hI;have ha := λ j (hj : j < 8) => hall j hj;obtain ⟨g, e1, e2, e3⟩ := k4 (ha 4 (by decide));obtain ⟨g', f1, f2, f3⟩ := k5 (ha 5 (by decide));have hx9 := k0 (ha 0 (by decide));have hx10 := k1 (ha 1 (by decide));have hx11 := k2 (ha 2 (by decide));have hx12 := k3 (ha 3 (by decide));subst e1 f1 hx9 hx10 hx11 hx12;rw [ha 6 (by decide)] at e3;rw [ha 7 (by decide)] at f3;simp only [if_true] at e3 f3;have HE := zB (zC e2 (zC e3 (zC f2 (zC f3 hB))));clear k0 k1 k2 k3 k4 k5 k6 k7 k8 ha hall e2 e3 f2 f3 hB
   go_wp2_with fail
   go_ret
   have hs := H1.out.2.2.1.size;exact ⟨w.heap.size, g, g', rfl, Nat.le_refl _, by have := HE.out.1; omega, by have := HE.out.2.2.1; omega, zG HE.out.2.2.2.2 (yV H1.out.2.2.2 0 _ rfl), yV HE.out.2.1 0 _ rfl, yV HE.out.2.2.2.1 0 _ rfl, H1.out.2.2.1.trans (HE.out.2.2.2.2.mono hs)⟩
def pS (n lo hi : Int) : Int := lo + (if n < 0 then -(n + 1) else n) % (hi - lo + 1)
theorem lL (n : Int) {lo hi : Int} (h : lo <= hi) : lo <= pS n lo hi /\ pS n lo hi <= hi := by
 unfold pS;have h1 := Int.emod_nonneg (if n < 0 then -(n + 1) else n) (show hi - lo + 1 ≠ 0 by omega);have h2 := Int.emod_lt_of_pos (if n < 0 then -(n + 1) else n) (show 0 < hi - lo + 1 by omega);omega
theorem span_any (n lo hi : Int) (hn : -9223372036854775808 <= n /\ n <= 9223372036854775807) (hlo : 0 <= lo /\ lo <= hi /\ hi <= 1099511627776) (w : World) :
 Calls Tryz.prog 13 #[.int .i64 n, .int .i64 lo, .int .i64 hi] w λ e w' => e = .returned (.int .i64 (pS n lo hi)) /\ w = w' := by
 obtain ⟨h1, h2, h3⟩ := hlo;have e1 := IntWalk.i64_in (n + 1);have e2 := IntWalk.i64_in (-(n + 1));have e3 := IntWalk.i64_in (hi - lo) (by omega);have e4 := IntWalk.i64_in (hi - lo + 1) (by omega);have hne : ¬ hi - lo + 1 = 0 := by omega
 have Hsp := zB (lL n h2);by_cases h0 : n < 0
 . have e1 := e1 (by omega);have e2 := e2 (by omega);have hs : lo + -(n + 1).tmod (hi - lo + 1) = pS n lo hi := by
    unfold pS;rw [if_pos h0, <- Int.neg_tmod, Int.tmod_eq_emod_of_nonneg (by omega)]
   have Hs := zB hs;clear hs;go_enter Tryz.func13, Tryz.ntmps13
   go_wp2_with fail
   go_ret
   rw [Hs.out, IntWalk.wrap64_in _ (by have := Hsp.out; omega)];exact ⟨rfl, rfl⟩
 . have hs : lo + n % (hi - lo + 1) = pS n lo hi := by unfold pS; rw [if_neg h0]
   have Hs := zB hs;clear hs e1 e2;go_enter Tryz.func13, Tryz.ntmps13
   go_wp2_with fail
   go_ret
   rw [Hs.out, IntWalk.wrap64_in _ (by have := Hsp.out; omega)];exact ⟨rfl, rfl⟩
structure TChg where
 key : List Int
 value : List Int
 long : Int
 fill : Int
 gone : Bool
def iB (f : Int) (n : Nat) : List Int := (List.range n).map λ i : Nat => (f + ((i % 7 : Nat) : Int)) % 256
def TChg.val (c : TChg) : List Int := if c.value ≠ [] then c.value else iB c.fill (pS c.long 0 1100).toNat
def TChg.chg (c : TChg) : Chg := ⟨c.key, c.val, c.gone⟩
theorem nA (f : Int) (n : Nat) : (iB f n).length = n := by simp [iB]
theorem fillB_succ (f : Int) (n : Nat) : iB f (n + 1) = iB f n ++ [(f + ((n % 7 : Nat) : Int)) % 256] := by simp [iB, List.range_succ]
def obk : Value -> Option Nat
 | .slice (some a) (_ + 1) _ => some a.block
 | _ => none
theorem obk_own {v : Value} {j : Nat} (h : obk v = some j) : v.ownBlock = some j := by
 unfold obk at h
 split at h
 . exact h
 . cases h
def SrcE (w : World) (v : Value) (xs : List Value) : Prop := Src w v xs \/ (xs = [] /\ ∃ a c, v = .slice a 0 c)
theorem Src.e {w : World} {v : Value} {xs : List Value} (h : Src w v xs) : SrcE w v xs := .inl h
theorem SrcE.below {w w' : World} {v : Value} {xs : List Value} (h : SrcE w v xs) (hb : Below w.heap.size w w') : SrcE w' v xs := h.imp (·.below hb) id
theorem SrcE.shape {w : World} {v : Value} {xs : List Value} (h : SrcE w v xs) : ∃ a c, v = .slice a xs.length c /\ xs.length <= xs.length := by
 rcases h with h | ⟨rfl, a, c, rfl⟩
 . obtain ⟨a, c, e, -⟩ := h.shape;exact ⟨a, c, e, Nat.le_refl _⟩
 . exact ⟨a, c, rfl, Nat.le_refl _⟩
theorem SrcE.src {w : World} {v : Value} {xs : List Value} (h : SrcE w v xs) (hne : xs ≠ []) : Src w v xs := h.resolve_right λ e => hne e.1
theorem iJ {w w' : World} {v : Value} {xs : List Value} {S : Nat -> Prop} (h : Src w v xs) (hX : Ext S w w') (hS : ∀ j, obk v = some j -> ¬ S j) : Src w' v xs := by
 rcases h with ⟨g, o, c, rfl, hc, h⟩ | h
 . refine .inl ⟨g, o, c, rfl, hc, λ j u hu => hX.cell_some (h j u hu) (hS g ?_)⟩
   cases xs with
   | nil => simp at hu
   | cons x xs => rfl
 . exact .inr h
theorem SrcE.ext {w w' : World} {v : Value} {xs : List Value} {S : Nat -> Prop} (h : SrcE w v xs) (hX : Ext S w w') (hS : ∀ j, obk v = some j -> ¬ S j) : SrcE w' v xs := h.imp (iJ · hX hS) id
structure TChgV (c : TChg) (ka va : Value) (w : World) : Prop where
 key : SrcE w ka (u8s c.key)
 val : SrcE w va (u8s c.value)
 kb : zO c.key
 vb : zO c.value
 long : -9223372036854775808 <= c.long /\ c.long <= 9223372036854775807
 fill : 0 <= c.fill /\ c.fill < 256
 kl : c.key.length <= 1048576
 vl : c.value.length <= 1048576
theorem TChgV.below {c : TChg} {ka va : Value} {w w' : World} (h : TChgV c ka va w) (hb : Below w.heap.size w w') : TChgV c ka va w' :=
 ⟨h.key.below hb, h.val.below hb, h.kb, h.vb, h.long, h.fill, h.kl, h.vl⟩
theorem lF (c : TChg) (ka va : Value) (w : World) (h : TChgV c ka va w) :
 Calls Tryz.prog 54 #[.agg #[ka, va, .int .i64 c.long, .int .u8 c.fill, .bool c.gone]] w λ e w' => ∃ u, e = .returned u /\ w'.ownsRow w.heap.size 5 1 u c.val.length (u8s c.val) /\ Below w.heap.size w w' := by
 obtain ⟨a1, c1, hka, -⟩ := h.key.shape;rw [zH] at hka;subst hka;obtain ⟨a2, c2, hva, -⟩ := h.val.shape;rw [zH] at hva;obtain ⟨n, hn⟩ : ∃ n, c.value.length = n := ⟨_, rfl⟩;rw [hn] at hva;subst hva;have hvl := h.vl;rw [hn] at hvl;have H := zB h;have Hn := zB hn;clear h hn;obtain ⟨key, value, long, fill, gone⟩ := c;simp only at H Hn ⊢;have hb0 := zQ w (.cells #[.slice a1 key.length c1, .slice a2 n c2, .int .i64 long, .int .u8 fill, .bool gone] 54);by_cases hn0 : 0 < n
 . have hn0' : (0 : Int) < (n : Int) := by omega
   have hv : TChg.val ⟨key, value, long, fill, gone⟩ = value := by unfold TChg.val; rw [if_pos (by intro e; have := Hn.out; simp only at e this; rw [e] at this; simp at this; omega)]
   rw [hv];clear hv;have hb1 := zQ (w.alloc (.cells #[.slice a1 key.length c1, .slice a2 n c2, .int .i64 long, .int .u8 fill, .bool gone] 54)) (.cells #[] 5);have hown0 : ((w.alloc (.cells #[.slice a1 key.length c1, .slice a2 n c2, .int .i64 long, .int .u8 fill, .bool gone] 54)).alloc (.cells #[] 5)).ownsRow w.heap.size 5 1 (.slice (some ⟨w.heap.size + 1, 0, none⟩) 0 0) 0 [] := by
    have := World.ownsRow_made (w.alloc (.cells #[.slice a1 key.length c1, .slice a2 n c2, .int .i64 long, .int .u8 fill, .bool gone] 54)) #[] 0 (base := w.heap.size) (e := 5) (size := 1) (by simp) (Nat.zero_le _) rfl;simpa using this
   have hval := ((H.out.val.below hb0).below hb1).src (λ e => by have h1 := congrArg List.length e; rw [zH] at h1; have h2 := Hn.out; simp only at h2 h1; rw [h2] at h1; simp at h1; omega);simp only at hval;have hbb := hb0.trans (hb1.mono hb0.size);have HB := zB (zC hbb (zC hown0 hval));clear hb1 hown0 hval hbb hb0;go_enter Tryz.func54, Tryz.ntmps54
   go_wp2_with (at_builtin; go_loud (refine xN rfl _ _ rfl w.heap.size 0 _ _ [] (u8s value) rfl HB.out.2.1 rfl HB.out.2.2 (yU _) (by rw [zH, Hn.out]; omega) HB.out.1.size ?_; intro v2 w2 hown2 hg2; have Hg2 := zB hg2; have Hown2 := zB hown2; clear hown2 hg2))
   go_ret
   have := Hown2.out;rw [zH, Nat.zero_add, List.nil_append] at this;exact ⟨_, rfl, this, HB.out.1.trans Hg2.out⟩
 . obtain rfl : n = 0 := by omega
   have hv : TChg.val ⟨key, value, long, fill, gone⟩ = iB fill (pS long 0 1100).toNat := by
    unfold TChg.val;rw [if_neg (λ h => h (List.eq_nil_of_length_eq_zero Hn.out))]
   have hsp := lL long (show (0 : Int) <= 1100 by decide);obtain ⟨m, hm⟩ : ∃ m : Nat, pS long 0 1100 = m := ⟨(pS long 0 1100).toNat, by omega⟩;rw [hv, hm, Int.toNat_natCast];have HSP := zB λ w' => span_any long 0 1100 H.out.long (by decide) w';rw [hm] at HSP hsp;have hfl := H.out.fill;have HB0 := zB hb0;simp only at hfl;clear hv hm hb0;go_enter Tryz.func54, Tryz.ntmps54
   go_wp2_with fail
   refine (HSP.out _).mono ?_;rintro e w1 ⟨rfl, rfl⟩
   go_wp2_with fail
   go_loopw [4, 5] (λ vb vi wr => ∃ i : Nat, vi = .int .i64 i /\ i <= m /\ wr.ownsRow w.heap.size 5 1 vb i (u8s (iB fill i)) /\ wr.cell? ⟨w.heap.size, 3, none⟩ = some (.int .u8 fill) /\ Below w.heap.size w wr /\ w.heap.size < wr.heap.size /\ vb.ownBlock ≠ some w.heap.size) (λ _ vi _ => m - (intOf vi).toNat)
   case atStart =>
    refine ⟨0, rfl, Nat.zero_le _, World.ownsRow_nil _ _ _ _, ?_, HB0.out, by simp, λ h => (by cases h)⟩;exact yV (World.alloc_heap_new w _) 3 _ rfl
   case round =>
    obtain ⟨i, rfl, hi, hown, hcf, hB, hsz, hne⟩ := hrel;obtain ⟨va4, vc4, rfl, -⟩ := zP hown;by_cases him : i < m
    . have him' : (i : Int) < (m : Int) := by omega
      have hr7 : ((i % 7 : Nat) : Int) = (i : Int) % 7 := by omega
      obtain ⟨b, hb⟩ : ∃ b, (fill + ((i % 7 : Nat) : Int)) % 256 = b := ⟨_, rfl⟩;have hb2 : 0 <= b /\ b < 256 := by omega
      have hs2 : iB fill (i + 1) = iB fill i ++ [b] := by rw [fillB_succ, hb]
      have e8 : IntKind.u8.wrap ((i : Int) % 7) = (i : Int) % 7 := IntWalk.u8_in _ (by omega);have e9 : IntKind.u8.wrap (fill + (i : Int) % 7) = b := by rw [<- hr7, <- hb]; rfl
      have hg := World.alloc_heap_new wr (.cells #[.int .u8 b] 5);have hbx := zQ wr (.cells #[.int .u8 b] 5);have hf1 := nA fill i;obtain ⟨v', w', ra, r2, r3, r4⟩ := app_byte (wr.alloc (.cells #[.int .u8 b] 5)) w.heap.size (.slice va4 i vc4) (iB fill i) (by rw [hf1]; exact yA hown hbx) (by omega) wr.heap.size 1 b (yV hg 0 _ rfl) (by have := hbx.size; omega) 52;rw [hf1] at r2;obtain ⟨va5, vc5, rfl, -⟩ := zP r2;have hX : Ext (λ k => (Value.slice va4 i vc4).ownBlock = some k) (wr.alloc (.cells #[.int .u8 b] 5)) w' := r3.ext.mono λ k _ ⟨_, _, h, _⟩ => h;have hcf2 : w'.cell? ⟨w.heap.size, 3, none⟩ = some (.int .u8 fill) := hX.cell_some (zG hbx hcf) hne;have hB2 : Below w.heap.size w w' := (hB.trans (hbx.mono hB.size)).trans (hX.to_belowAt (by have := hbx.size; omega) λ k hk e => by have := (hown.lt k e).1; omega);have hne2 : (Value.slice va5 (i + 1) vc5).ownBlock ≠ some w.heap.size := λ e => (r4 _ e).elim hne λ e => by have := hbx.size; omega
      have HF := zB (zC r2 (zC hcf2 (zC hB2 (zC hne2 (zC hs2 (show w.heap.size < w'.heap.size by have h1 := hX.size; have h2 := hbx.size; omega))))));have Hra := zB ra;clear ra r2 r3 r4 hX hcf2 hB2 hne2 hs2 hg hb hown hr7
      go_wp2_with (at_builtin; refine yW rfl (yM (.tmp 22) (.tmp 29) 52 52 rfl Hra.out) ?_)
      refine ⟨⟨i + 1, by simp, by omega, by rw [HF.out.2.2.2.2.1]; exact HF.out.1, HF.out.2.1, HF.out.2.2.1, HF.out.2.2.2.2.2, HF.out.2.2.2.1⟩, ?_⟩;show m - ((i : Int) + 1).toNat < m - (i : Int).toNat;omega
    . obtain rfl : i = m := by omega
      have him' : ¬ (i : Int) < (i : Int) := by omega
      have Hown := zB hown;clear hown
      go_wp2_with fail
      go_ret
      exact ⟨_, rfl, by rw [nA]; exact Hown.out, hB⟩
theorem src_at {w : World} {v : Value} {bs : List Int} (h : SrcE w v (u8s bs)) {i : Nat} {b : Int} (hi : bs[i]? = some b) : ∃ g o c, v = .slice (some ⟨g, o, none⟩) bs.length c /\ w.cell? ⟨g, o + i, none⟩ = some (.int .u8 b) := by
 rcases h with (⟨g, o, c, e, -, h⟩ | ⟨-, e⟩) | ⟨e, -⟩
 . rw [zH] at e;exact ⟨g, o, c, e, h i _ (pO hi)⟩
 . have := congrArg List.length e;rw [zH] at this;have h2 := (List.getElem?_eq_some_iff.1 hi).1;simp at this;rw [this] at h2;simp at h2
 . have := congrArg List.length e;rw [zH] at this;have h2 := (List.getElem?_eq_some_iff.1 hi).1;simp at this;rw [this] at h2;simp at h2
theorem kM (va vb : Value) (xs ys : List Int) (w : World) (hx : SrcE w va (u8s xs)) (hy : SrcE w vb (u8s ys)) (hl : xs.length <= 1099511627776) (hl2 : ys.length <= 1099511627776) :
 Calls Tryz.prog 29 #[va, vb] w λ e w' => e = .returned (.bool (decide (xs = ys))) /\ Below w.heap.size w w' := by
 obtain ⟨aa, ca, rfl, -⟩ := hx.shape;obtain ⟨ab, cb, rfl, -⟩ := hy.shape;rw [zH] at hx ⊢;rw [zH] at hy ⊢;have HX := zB hx;have HY := zB hy;obtain ⟨n, hn⟩ : ∃ n, xs.length = n := ⟨_, rfl⟩;obtain ⟨m, hm⟩ : ∃ m, ys.length = m := ⟨_, rfl⟩;rw [hn] at hl HX ⊢;rw [hm] at hl2 HY ⊢;have Hn := zB (zC hn hm);clear hx hy hn hm;by_cases hnm : n = m
 . subst hnm;go_enter Tryz.func29, Tryz.ntmps29
   go_wp2_with fail
   go_loopw [5] (λ vi wr => ∃ i : Nat, vi = .int .i64 i /\ i <= n /\ xs.take i = ys.take i /\ Below w.heap.size w wr) (λ vi _ => n - (intOf vi).toNat)
   case atStart => exact ⟨0, rfl, Nat.zero_le _, rfl, Below.refl _ _⟩
   case round =>
    obtain ⟨i, rfl, hi, htk, hB⟩ := hrel;by_cases hin : i < n
    . have hin' : (i : Int) < (n : Int) := by omega
      obtain ⟨x, hxi⟩ : ∃ x, xs[i]? = some x := ⟨_, List.getElem?_eq_getElem (by rw [Hn.out.1]; exact hin)⟩;obtain ⟨y, hyi⟩ : ∃ y, ys[i]? = some y := ⟨_, List.getElem?_eq_getElem (by rw [Hn.out.2]; exact hin)⟩;obtain ⟨g1, o1, c1, e1, k1⟩ := src_at (HX.out.below hB) hxi;obtain ⟨g2, o2, c2, e2, k2⟩ := src_at (HY.out.below hB) hyi;injection e1 with e1 f1 e3;injection e2 with e2 f2 e4;subst e1 e3 e2 e4;clear f1 f2;have HT := zB (zC htk (zC hxi hyi));clear htk hxi hyi
      go_wp2_with fail
      refine zY (λ _ => none) fol (by kernel_rfl) (λ W hW hh => ?_);clear hh;have q1 := zV hW k1;have q2 := zV hW k2
      repeat ((first | refine lxM ?_ | refine lxF ?_ | refine zM rfl ?_); simp only [zD])
      refine zZ ?_;have hB2 := hB.trans (hW.mono hB.size);clear q1 q2;by_cases hxy : x = y
      . subst hxy;have hne : (x != x) = false := by simp
        go_wp2_with fail
        refine ⟨⟨i + 1, by simp, by omega, ?_, hB2⟩, ?_⟩
        . rw [List.take_add_one, List.take_add_one, HT.out.1, HT.out.2.1, HT.out.2.2]
        . show n - ((i : Int) + 1).toNat < n - (i : Int).toNat;omega
      . have hne : (x != y) = true := by simp [bne, hxy]
        go_wp2_with fail
        go_ret
        have hf : decide (xs = ys) = false := decide_eq_false (by rintro rfl; exact hxy (Option.some.inj (HT.out.2.1.symm.trans HT.out.2.2)));rw [hf];exact ⟨rfl, hB2⟩
    . obtain rfl : i = n := by omega
      have hin' : ¬ (i : Int) < (i : Int) := by omega
      rw [List.take_of_length_le (by rw [Hn.out.1]; exact Nat.le_refl _), List.take_of_length_le (by rw [Hn.out.2]; exact Nat.le_refl _)] at htk;have HT := zB htk;clear htk
      go_wp2_with fail
      go_ret
      exact ⟨by rw [HT.out]; simp, hB⟩
 . have hnm' : ((n : Int) != (m : Int)) = true := by
    rw [bne, beq_eq_false_iff_ne.2 (by omega)];rfl
   go_enter Tryz.func29, Tryz.ntmps29
   go_wp2_with fail
   go_ret
   have hf : decide (xs = ys) = false := decide_eq_false (by rintro rfl; exact hnm (Hn.out.1.symm.trans Hn.out.2));rw [hf];exact ⟨rfl, Below.refl _ _⟩
theorem klt_at : ∀ {xs ys : List Int} {i : Nat} {x y : Int}, xs.take i = ys.take i -> xs[i]? = some x -> ys[i]? = some y -> x ≠ y -> klt xs ys = decide (x < y)
 | a :: xs, b :: ys, 0, x, y, _, hx, hy, hne => by
  simp at hx hy;subst hx hy;simp [klt, hne]
 | a :: xs, b :: ys, i + 1, x, y, ht, hx, hy, hne => by
  simp at ht hx hy;obtain ⟨rfl, ht⟩ := ht;simp [klt, klt_at ht hx hy hne]
 | [], _, _, _, _, _, hx, _, _ => by simp at hx
 | _ :: _, [], _, _, _, _, _, hy, _ => by simp at hy
theorem klt_end : ∀ {xs ys : List Int}, (xs.take (min xs.length ys.length) = ys.take (min xs.length ys.length)) -> klt xs ys = decide (xs.length < ys.length)
 | [], [], _ => rfl
 | [], _ :: _, _ => by simp [klt]
 | _ :: _, [], _ => by simp [klt]
 | a :: xs, b :: ys, h => by
  have hm : min (a :: xs).length (b :: ys).length = min xs.length ys.length + 1 := by simp only [List.length_cons]; omega
  rw [hm, List.take_succ_cons, List.take_succ_cons] at h;injection h with h1 h2;subst h1;simp [klt, klt_end h2]
theorem below_any (va vb : Value) (xs ys : List Int) (w : World) (hx : SrcE w va (u8s xs)) (hy : SrcE w vb (u8s ys)) (hl : xs.length <= 1099511627776) (hl2 : ys.length <= 1099511627776) :
 Calls Tryz.prog 27 #[va, vb] w λ e w' => e = .returned (.bool (klt xs ys)) /\ Below w.heap.size w w' := by
 obtain ⟨aa, ca, rfl, -⟩ := hx.shape;obtain ⟨ab, cb, rfl, -⟩ := hy.shape;rw [zH] at hx ⊢;rw [zH] at hy ⊢;have HX := zB hx;have HY := zB hy;obtain ⟨n, hn⟩ : ∃ n, xs.length = n := ⟨_, rfl⟩;obtain ⟨m, hm⟩ : ∃ m, ys.length = m := ⟨_, rfl⟩;rw [hn] at hl HX ⊢;rw [hm] at hl2 HY ⊢;have Hn := zB (zC hn hm);clear hx hy hn hm;go_enter Tryz.func27, Tryz.ntmps27
 go_wp2_with fail
 go_loopw [5] (λ vi wr => ∃ i : Nat, vi = .int .i64 i /\ i <= n /\ i <= m /\ xs.take i = ys.take i /\ Below w.heap.size w wr) (λ vi _ => n - (intOf vi).toNat)
 case atStart => exact ⟨0, rfl, Nat.zero_le _, Nat.zero_le _, rfl, Below.refl _ _⟩
 case round =>
  obtain ⟨i, rfl, hi, hi2, htk, hB⟩ := hrel;have HE : ¬ (i < n /\ i < m) -> Hid (klt xs ys = decide (n < m)) := λ h => by
   refine zB ?_;rw [<- Hn.out.1, <- Hn.out.2];refine klt_end ?_;have : min xs.length ys.length = i := by rw [Hn.out.1, Hn.out.2]; omega
   rw [this];exact htk
  have hcast : decide ((n : Int) < (m : Int)) = decide (n < m) := by rw [decide_eq_decide]; omega
  by_cases hin : i < n
  . have hin' : (i : Int) < (n : Int) := by omega
    by_cases him : i < m
    . have him' : (i : Int) < (m : Int) := by omega
      obtain ⟨x, hxi⟩ : ∃ x, xs[i]? = some x := ⟨_, List.getElem?_eq_getElem (by rw [Hn.out.1]; exact hin)⟩;obtain ⟨y, hyi⟩ : ∃ y, ys[i]? = some y := ⟨_, List.getElem?_eq_getElem (by rw [Hn.out.2]; exact him)⟩;obtain ⟨g1, o1, c1, e1, k1⟩ := src_at (HX.out.below hB) hxi;obtain ⟨g2, o2, c2, e2, k2⟩ := src_at (HY.out.below hB) hyi;injection e1 with e1 f1 e3;injection e2 with e2 f2 e4;subst e1 e3 e2 e4;have HT := zB (zC htk (zC hxi hyi));clear htk hxi hyi f1 f2 HE hcast
      go_wp2_with fail
      refine zY (λ _ => none) fol (by kernel_rfl) (λ W hW hh => ?_);clear hh;have q1 := zV hW k1;have q2 := zV hW k2
      repeat ((first | refine lxM ?_ | refine lxF ?_ | refine zM rfl ?_); simp only [zD])
      refine zZ ?_;have hB2 := hB.trans (hW.mono hB.size);have k1 := zG hW k1;have k2 := zG hW k2;clear q1 q2;by_cases hxy : x = y
      . subst hxy;have hne : (x != x) = false := by simp
        go_wp2_with fail
        refine ⟨⟨i + 1, by simp, by omega, by omega, ?_, hB2⟩, ?_⟩
        . rw [List.take_add_one, List.take_add_one, HT.out.1, HT.out.2.1, HT.out.2.2]
        . show n - ((i : Int) + 1).toNat < n - (i : Int).toNat;omega
      . have hne : (x != y) = true := by simp [bne, hxy]
        have HK := zB (klt_at HT.out.1 HT.out.2.1 HT.out.2.2 hxy)
        go_wp2_with fail
        refine zY (λ _ => none) fol (by kernel_rfl) (λ W3 hW3 hh => ?_);clear hh;have q1 := zV hW3 k1;have q2 := zV hW3 k2
        repeat ((first | refine lxM ?_ | refine lxF ?_ | refine zM rfl ?_); simp only [zD])
        refine zZ ?_;have hB3 := hB2.trans (hW3.mono hB2.size);clear q1 q2
        go_wp2_with fail
        go_ret
        rw [HK.out];exact ⟨rfl, hB3⟩
    . have him' : ¬ (i : Int) < (m : Int) := by omega
      have HK := HE (λ h => him h.2);clear htk HE
      go_wp2_with fail
      go_ret
      rw [HK.out, <- hcast];exact ⟨by simp, hB⟩
  . have hin' : ¬ (i : Int) < (n : Int) := by omega
    have HK := HE (λ h => hin h.1);clear htk HE
    go_wp2_with fail
    go_ret
    rw [HK.out, <- hcast];exact ⟨by simp, hB⟩
structure Dsk.wf (x : Dsk) : Prop where
 len : x.torn.length = x.dur.length
 some' : ∀ i, i ∈ x.ks -> x.cache i ≠ []
 none' : ∀ i, i ∉ x.ks -> x.cache i = []
 in' : ∀ i ∈ x.ks, 0 <= i /\ i < (x.dur.length : Int)
theorem wQ.wf {w : World} {b : Bks} {x : Dsk} (h : wQ w b x) : x.wf := ⟨h.len, λ i hi e => absurd (h.rows i hi).1 (by rw [e]; exact Nat.lt_irrefl 0), h.none', h.in'⟩
theorem readD_goes (x : Dsk) (i : Nat) : xP (vJ x) i = xP x i := by
 obtain ⟨h1, h2, -, h4⟩ := uI x;unfold xP;rw [h1, h2, h4]
theorem iR {ks : List Int} {i j : Int} : j ∈ addK ks i ↔ j = i \/ j ∈ ks := by
 unfold addK
 split
 . rename_i h;constructor
   . exact .inr
   . rintro (rfl | h')
     . exact h
     . exact h'
 . simp [or_comm]
theorem Dsk.wf.wrote {x : Dsk} (h : x.wf) {i : Nat} (hi : i < x.dur.length) (bs : List Int) : (uP x i bs).wf := by
 refine ⟨h.len, λ j hj => ?_, λ j hj => ?_, λ j hj => ?_⟩
 . show (if j = (i : Int) then x.cache i ++ [bs] else x.cache j) ≠ []
   split
   . simp
   . rename_i hne;exact h.some' j ((iR.1 hj).resolve_left hne)
 . show (if j = (i : Int) then x.cache i ++ [bs] else x.cache j) = [];rw [if_neg (λ e => hj (iR.2 (.inl e)))];exact h.none' j λ h' => hj (iR.2 (.inr h'))
 . rcases iR.1 hj with rfl | h'
   . exact ⟨Int.natCast_nonneg _, by show (i : Int) < (x.dur.length : Int); omega⟩
   . exact h.in' j h'
theorem rN (x : Dsk) (i j : Nat) (bs : List Int) : xP (uP x i bs) j = if j = i then some bs else xP x j := by
 unfold xP uP;simp only;by_cases h : j = i
 . subst h; simp
 . rw [if_neg (by omega), if_neg h]
theorem Dsk.wf.flushed {x : Dsk} (h : x.wf) : (vT x).wf := by
 refine ⟨?_, λ i hi => ?_, λ _ _ => rfl, λ i hi => ?_⟩
 . simp [vT, kW, h.len]
 . cases hi
 . cases hi
theorem rO {x : Dsk} (h : x.wf) (i : Nat) : xP (vT x) i = xP x i := by
 unfold xP vT kW;simp only [List.getLast?_nil, List.getD_eq_getElem?_getD, List.getElem?_mapIdx];by_cases hi : (i : Int) ∈ x.ks
 . obtain ⟨h1, h2⟩ := h.in' _ hi;have hlt : i < x.dur.length := by omega
   have hltt : i < x.torn.length := by rw [h.len]; exact hlt
   have hne := h.some' _ hi;rw [List.getElem?_eq_getElem hlt, List.getElem?_eq_getElem hltt];obtain ⟨s, hs⟩ : ∃ s, (x.cache (i : Int)).getLast? = some s := ⟨_, List.getLast?_eq_some_getLast hne⟩;simp [hi, hs]
 . have hn := h.none' _ hi;by_cases hlt : i < x.dur.length
   . have hltt : i < x.torn.length := by rw [h.len]; exact hlt
     rw [List.getElem?_eq_getElem hlt, List.getElem?_eq_getElem hltt];simp [hi, hn]
   . have hl' := h.len;rw [List.getElem?_eq_none (l := x.torn) (by omega), List.getElem?_eq_none (l := x.dur) (by omega)];simp [hn]
structure Dsk.on (x : Dsk) : Prop where
 off : x.off = false
 fuse : x.fuse = -1
theorem Dsk.on.goesB {x : Dsk} (h : x.on) : vC x = true := by unfold TT.vC; rw [h.off, h.fuse]; rfl
theorem Dsk.on.goesD {x : Dsk} (h : x.on) : vJ x = x := by unfold TT.vJ; rw [h.off, h.fuse]; rfl
theorem Dsk.on.write {x : Dsk} (h : x.on) (i : Nat) (bs : List Int) : vP x i bs = uP x i bs := by unfold vP; rw [if_pos h.goesB, h.goesD]
theorem Dsk.on.wrote {x : Dsk} (h : x.on) (i : Nat) (bs : List Int) : (uP x i bs).on := ⟨h.off, h.fuse⟩
theorem Dsk.on.flush {x : Dsk} (h : x.on) : uC x = vT x := by unfold uC; rw [if_pos h.goesB, h.goesD]
theorem Dsk.on.flushed {x : Dsk} (h : x.on) : (vT x).on := ⟨h.off, h.fuse⟩
theorem Dsk.on.goesE {x : Dsk} (h : x.on) : uO x = 0 := by unfold TT.uO; rw [if_pos h.goesB]
theorem Dsk.on.lay {x : Dsk} (h : x.on) (i : Nat) (bs : List Int) : layX x i bs = vT (uP x i bs) /\ layE x i bs = 0 := by
 unfold layX layE;rw [if_pos h.goesB, if_pos h.goesB, h.write, (h.wrote i bs).flush, (h.wrote i bs).goesE];exact ⟨rfl, rfl⟩
theorem lU {x : Dsk} (hw : x.wf) (h : x.on) {i : Nat} (hi : i < x.dur.length) (bs : List Int) (j : Nat) : xP (layX x i bs) j = if j = i then some bs else xP x j := by
 rw [(h.lay i bs).1, rO (hw.wrote hi bs), rN]
theorem Dsk.wf.lay {x : Dsk} (hw : x.wf) (h : x.on) {i : Nat} (hi : i < x.dur.length) (bs : List Int) : (layX x i bs).wf := by
 rw [(h.lay i bs).1]; exact (hw.wrote hi bs).flushed
theorem Dsk.on.layOn {x : Dsk} (h : x.on) (i : Nat) (bs : List Int) : (layX x i bs).on := by
 rw [(h.lay i bs).1]; exact (h.wrote i bs).flushed
theorem leNum_le (v n : Nat) : mU (zT v n) = ((v % 256 ^ n : Nat) : Int) := by
 induction n with
 | zero => simp [zT, mU, Nat.mod_one]
 | succ n ih =>
  show mU (zT v n ++ [(v : Int) / 256 ^ n % 256]) = _;rw [jS, ih, yI];show _ + 256 ^ n * ((v : Int) / 256 ^ n % 256 + 256 * 0) = _;rw [Nat.pow_succ, Nat.mod_mul, Int.mul_zero, Int.add_zero, Int.natCast_add, Int.natCast_mul, Int.natCast_emod v, Int.natCast_emod (v / 256 ^ n), Int.natCast_ediv, Int.natCast_pow];rfl
theorem leNum_of (v n : Nat) (h : v < 256 ^ n) : mU (zT v n) = v := by rw [leNum_le, Nat.mod_eq_of_lt h]
theorem sM (a d b D : List Int) (h : d.length = D.length) (n : Nat) (hn : n = a.length) : layB (a ++ d ++ b) n D = a ++ D ++ b := by
 subst hn;unfold layB;have e1 : (a ++ d ++ b).take a.length = a := by rw [List.append_assoc, List.take_left]
 have e2 : (a ++ d ++ b).drop (a.length + D.length) = b := by rw [<- h, show a.length + d.length = (a ++ d).length by simp, List.drop_left]
 rw [e1, e2]
theorem fieldOf_mid (a d b : List Int) (n m : Nat) (hn : n = a.length) (hm : m = d.length) : oH (a ++ d ++ b) n m = d := by
 subst hn hm;unfold oH;rw [List.append_assoc, List.drop_left, List.take_left]
theorem uS (a b : Nat) : yN (a + b) = yN a ++ yN b := by unfold yN; rw [List.replicate_append_replicate]
theorem rE (a b : List Int) (v n at' : Nat) (hn : at' = a.length) (hv : v < 256 ^ n) : getN (a ++ zT v n ++ b) at' n = v := by
 unfold getN getF;rw [fieldOf_mid a (zT v n) b at' n hn (by rw [yI]), leNum_of v n hv];rfl
theorem jX (n : Nat) : rC (yN n) = true := by
 unfold rC yN;simp
theorem headRaw_eq (h : Head) (size : Nat) : rU h size = yX ++ zT h.gen 6 ++ zT h.epoch 6 ++ zT h.first 6 ++ zT h.least 6 ++ zT size 4 ++ yN 92 := by
 have l := yI;unfold rU;rw [show yN 120 = yN 6 ++ yN 114 from uS 6 114, <- List.append_assoc, sM _ _ _ _ (by rw [l]; rfl) 4 rfl];rw [show yN 114 = yN 6 ++ yN 108 from uS 6 108, <- List.append_assoc, sM _ _ _ _ (by rw [l]; rfl) 10 (by simp [l, yX])];rw [show yN 108 = yN 6 ++ yN 102 from uS 6 102, <- List.append_assoc, sM _ _ _ _ (by rw [l]; rfl) 16 (by simp [l, yX])];rw [show yN 102 = yN 6 ++ yN 96 from uS 6 96, <- List.append_assoc, sM _ _ _ _ (by rw [l]; rfl) 22 (by simp [l, yX])];rw [show yN 96 = yN 4 ++ yN 92 from uS 4 92, <- List.append_assoc, sM _ _ _ _ (by rw [l]; rfl) 28 (by simp [l, yX])]
theorem headRaw_back (h : Head) (hl : h.low) (size : Nat) (hs : size < 4294967296) : (rU h size).take 4 = yX /\ rC ((rU h size).drop 32) = true /\ getN (rU h size) 28 4 = size /\ pC (rU h size) = h := by
 have l := yI;obtain ⟨g, e, f, m⟩ := h;obtain ⟨h1, h2, h3, h4⟩ := hl;simp only at h1 h2 h3 h4;rw [headRaw_eq];simp only;refine ⟨?_, ?_, ?_, ?_⟩
 . simp only [List.append_assoc];exact List.take_left (l₁ := yX)
 . have : yX ++ zT g 6 ++ zT e 6 ++ zT f 6 ++ zT m 6 ++ zT size 4 ++ yN 92 = (yX ++ zT g 6 ++ zT e 6 ++ zT f 6 ++ zT m 6 ++ zT size 4) ++ yN 92 := rfl;rw [this, show 32 = (yX ++ zT g 6 ++ zT e 6 ++ zT f 6 ++ zT m 6 ++ zT size 4).length by simp [l, yX], List.drop_left];exact jX 92
 . exact rE _ _ size 4 28 (by simp [l, yX]) (by simpa using hs)
 . unfold pC;have e1 : getN (yX ++ zT g 6 ++ zT e 6 ++ zT f 6 ++ zT m 6 ++ zT size 4 ++ yN 92) 4 6 = g := by
    simp only [List.append_assoc]; rw [<- List.append_assoc]; exact rE _ _ g 6 4 rfl (by simpa using h1)
   have e2 : getN (yX ++ zT g 6 ++ zT e 6 ++ zT f 6 ++ zT m 6 ++ zT size 4 ++ yN 92) 10 6 = e := by
    have := rE (yX ++ zT g 6) (zT f 6 ++ zT m 6 ++ zT size 4 ++ yN 92) e 6 10 (by simp [l, yX]) (by simpa using h2);simpa only [List.append_assoc] using this
   have e3 : getN (yX ++ zT g 6 ++ zT e 6 ++ zT f 6 ++ zT m 6 ++ zT size 4 ++ yN 92) 16 6 = f := by
    have := rE (yX ++ zT g 6 ++ zT e 6) (zT m 6 ++ zT size 4 ++ yN 92) f 6 16 (by simp [l, yX]) (by simpa using h3);simpa only [List.append_assoc] using this
   have e4 : getN (yX ++ zT g 6 ++ zT e 6 ++ zT f 6 ++ zT m 6 ++ zT size 4 ++ yN 92) 22 6 = m := by
    have := rE (yX ++ zT g 6 ++ zT e 6 ++ zT f 6) (zT size 4 ++ yN 92) m 6 22 (by simp [l, yX]) (by simpa using h4);simpa only [List.append_assoc] using this
   rw [e1, e2, e3, e4]
theorem rK (t : List Int) : vM (tM t) = some t := by
 unfold vM tM;have h4 := pU t;rw [List.length_append, h4, Nat.add_sub_cancel, List.take_left, List.drop_left, if_pos ⟨by omega, rfl⟩]
theorem slotR_text {x : Dsk} (ho : x.off = false) {first size k : Nat} {h : Head} (hl : h.low) (hs : size < 4294967296) (hr : xP x (first + k) = some (yR h size)) : wX x first size k = (h, decide (0 < h.gen) && decide (h.gen % 2 = k)) := by
 obtain ⟨h1, h2, h3, h4⟩ := headRaw_back h hl size hs;unfold wX wZ;rw [ho, hr];simp only [yR, rK, h1, if_true, Bool.false_eq_true, if_false, h2, h3, and_self, h4]
structure qC.fine (p : qC) : Prop where
 num : p.num < 281474976710656
 epoch : p.epoch < 281474976710656
 bytes : p.bytes <= 8192
 index : p.index < need p.bytes
 len : p.data.length = min 104 (p.bytes - p.index * 104)
theorem pieceRaw_eq (p : qC) (hl : p.data.length <= 104) : wN p = yP ++ zT p.num 6 ++ zT p.epoch 6 ++ zT p.bytes 2 ++ zT p.index 2 ++ p.data ++ yN (104 - p.data.length) := by
 have l := yI;unfold wN;rw [show yN 120 = yN 6 ++ yN 114 from uS 6 114, <- List.append_assoc, sM _ _ _ _ (by rw [l]; rfl) 4 rfl];rw [show yN 114 = yN 6 ++ yN 108 from uS 6 108, <- List.append_assoc, sM _ _ _ _ (by rw [l]; rfl) 10 (by simp [l, yP])];rw [show yN 108 = yN 2 ++ yN 106 from uS 2 106, <- List.append_assoc, sM _ _ _ _ (by rw [l]; rfl) 16 (by simp [l, yP])];rw [show yN 106 = yN 2 ++ yN 104 from uS 2 104, <- List.append_assoc, sM _ _ _ _ (by rw [l]; rfl) 18 (by simp [l, yP])];rw [show yN 104 = yN p.data.length ++ yN (104 - p.data.length) by rw [<- uS]; congr 1; omega, <- List.append_assoc, sM _ _ _ _ (wF _) 20 (by simp [l, yP])]
theorem lX (p : qC) (h : p.fine) : (wN p).take 4 = yP /\ getN (wN p) 4 6 = p.num /\ getN (wN p) 10 6 = p.epoch /\ getN (wN p) 16 2 = p.bytes /\ getN (wN p) 18 2 = p.index /\
 rC ((wN p).drop (20 + p.data.length)) = true /\ ((wN p).take (20 + p.data.length)).drop 20 = p.data := by
 have l := yI;have hl := h.len;rw [pieceRaw_eq p (by omega)];obtain ⟨n, e, b, i, d⟩ := p;obtain ⟨h1, h2, h3, h4, -⟩ := h;simp only at h1 h2 h3 h4 hl ⊢;have hn79 := mR b;refine ⟨?_, ?_, ?_, ?_, ?_, ?_, ?_⟩
 . simp only [List.append_assoc];exact List.take_left (l₁ := yP)
 . simp only [List.append_assoc]; rw [<- List.append_assoc]; exact rE _ _ n 6 4 rfl (by simpa using h1)
 . have := rE (yP ++ zT n 6) (zT b 2 ++ zT i 2 ++ d ++ yN (104 - d.length)) e 6 10 (by simp [l, yP]) (by simpa using h2);simpa only [List.append_assoc] using this
 . have := rE (yP ++ zT n 6 ++ zT e 6) (zT i 2 ++ d ++ yN (104 - d.length)) b 2 16 (by simp [l, yP]) (by simp; omega);simpa only [List.append_assoc] using this
 . have := rE (yP ++ zT n 6 ++ zT e 6 ++ zT b 2) (d ++ yN (104 - d.length)) i 2 18 (by simp [l, yP]) (by simp; omega);simpa only [List.append_assoc] using this
 . rw [show 20 + d.length = (yP ++ zT n 6 ++ zT e 6 ++ zT b 2 ++ zT i 2 ++ d).length by simp [l, yP]; omega, List.drop_left];exact jX _
 . rw [show 20 + d.length = (yP ++ zT n 6 ++ zT e 6 ++ zT b 2 ++ zT i 2 ++ d).length by simp [l, yP]; omega, List.take_left, show 20 = (yP ++ zT n 6 ++ zT e 6 ++ zT b 2 ++ zT i 2).length by simp [l, yP], List.drop_left]
theorem gJ {x : Dsk} (ho : x.off = false) {first size n : Nat} {p : qC} (h : p.fine) (hn : p.num = n) (hr : xP x (wY first size n) = some (tM (wN p))) : xR x first size n = .ok p := by
 obtain ⟨h1, h2, h3, h4, h5, h6, h7⟩ := lX p h;unfold xR wZ;rw [ho, hr];have he : sJ (wN p) = 20 + p.data.length := by unfold sJ; rw [h4, h5, h.len]
 simp only [rK, h1, if_true, Bool.false_eq_true, if_false];rw [h2, h4, h5, he, if_neg (by have := h.index; omega), h6, h7, if_pos rfl];unfold oB;rw [h2, h3, h4, h5]
abbrev Rc := List Int × Nat
def Chain (x : Dsk) (first size n : Nat) (r : Rc) : Prop := ∀ j, j < need r.1.length -> xP x (wY first size (n + j)) = some (uE n r.2 r.1 j)
theorem kB {n : Nat} (h : n <= 8192) : 1 <= need n /\ n <= 104 * need n := by unfold need; rw [if_pos h]; omega
theorem piece_fine {n ep : Nat} {rec : List Int} {j : Nat} (hl : rec.length <= 8192) (hj : j < need rec.length) (hn : n + need rec.length <= 281474976710656) (he : ep < 281474976710656) : qC.fine ⟨n + j, ep, rec.length, j, nE rec j⟩ :=
 ⟨by show n + j < _; omega, he, hl, hj, kL _ _⟩
theorem fA {x : Dsk} (ho : x.off = false) {first size n : Nat} {r : Rc} (h : Chain x first size n r) (hl : r.1.length <= 8192) (hn : n + need r.1.length <= 281474976710656) (he : r.2 < 281474976710656) {j : Nat} (hj : j < need r.1.length) :
 xR x first size (n + j) = .ok ⟨n + j, r.2, r.1.length, j, nE r.1 j⟩ := gJ ho (piece_fine hl hj hn he) rfl (h j hj)
theorem chunk_take (rec : List Int) (k : Nat) : rec.take (104 * k) ++ nE rec k = rec.take (104 * (k + 1)) := by
 unfold nE;rw [show k * 104 = 104 * k by omega, show 104 * (k + 1) = 104 * k + 104 by omega, List.take_add]
theorem gH {x : Dsk} (ho : x.off = false) {first size n : Nat} {r : Rc} (h : Chain x first size n r) (hl : r.1.length <= 8192) (hn : n + need r.1.length <= 281474976710656) (he : r.2 < 281474976710656) :
 ∀ k, k < need r.1.length -> oM x first size n ⟨n, r.2, r.1.length, 0, nE r.1 0⟩ k = .ok (r.1.take (104 * (k + 1)))
 | 0, _ => by
  show Except.ok (nE r.1 0) = _
  congr 1
 | k + 1, hk => by
  unfold oM;rw [gH ho h hl hn he k (by omega)];simp only;rw [fA ho h hl hn he hk];simp only [ne_eq, not_true_eq_false, or_self, if_false];rw [chunk_take]
theorem lR {x : Dsk} (ho : x.off = false) {first size n least most : Nat} {r : Rc} (h : Chain x first size n r) (hl : r.1.length <= 8192) (hn : n + need r.1.length <= 281474976710656) (he : r.2 < 281474976710656) (h1 : least <= r.2) (h2 : r.2 <= most) :
 xL x first size n least most = .ok r := by
 have hp := kB hl;unfold xL;have h0 := fA ho h hl hn he (j := 0) (by omega);rw [Nat.add_zero] at h0;rw [h0];simp only;rw [if_neg (by omega), gH ho h hl hn he _ (by omega)];simp only;rw [show 104 * (need r.1.length - 1 + 1) = 104 * need r.1.length by congr 1; omega, List.take_of_length_le hp.2]
def endN : Nat -> List Rc -> Nat
 | n, [] => n
 | n, r :: rs => endN (n + need r.1.length) rs
def xX : Nat -> List Rc -> List Nat
 | _, [] => []
 | n, r :: rs => n :: xX (n + need r.1.length) rs
def tY (x : Dsk) (first size : Nat) : Nat -> List Rc -> Prop
 | _, [] => True
 | n, r :: rs => Chain x first size n r /\ tY x first size (n + need r.1.length) rs
def Asc : Nat -> List Rc -> Prop
 | _, [] => True
 | l, r :: rs => l <= r.2 /\ Asc r.2 rs
def oE : Nat -> List Rc -> Nat
 | l, [] => l
 | _, r :: rs => oE r.2 rs
theorem endN_app : ∀ (n : Nat) (a b : List Rc), endN n (a ++ b) = endN (endN n a) b
 | _, [], _ => rfl
 | n, r :: rs, b => endN_app (n + need r.1.length) rs b
theorem mL : ∀ (n : Nat) (a b : List Rc), xX n (a ++ b) = xX n a ++ xX (endN n a) b
 | _, [], _ => rfl
 | n, r :: rs, b => by show n :: xX _ (rs ++ b) = _; rw [mL]; rfl
theorem wM : ∀ (n : Nat) (a : List Rc), (xX n a).length = a.length
 | _, [] => rfl
 | n, r :: rs => by show (xX _ rs).length + 1 = _; rw [wM]; rfl
theorem jJ {x : Dsk} {first size : Nat} : ∀ {n : Nat} {a b : List Rc}, tY x first size n (a ++ b) ↔ tY x first size n a /\ tY x first size (endN n a) b
 | n, [], b => by simp [tY, endN]
 | n, r :: rs, b => by
  show (Chain x first size n r /\ tY x first size _ (rs ++ b)) ↔ (Chain x first size n r /\ tY x first size _ rs) /\ _;rw [jJ (a := rs), and_assoc];rfl
theorem Asc_app : ∀ {l : Nat} {a b : List Rc}, Asc l (a ++ b) ↔ Asc l a /\ Asc (oE l a) b
 | l, [], b => by simp [Asc, oE]
 | l, r :: rs, b => by
  show (l <= r.2 /\ Asc r.2 (rs ++ b)) ↔ (l <= r.2 /\ Asc r.2 rs) /\ _;rw [Asc_app (a := rs), and_assoc];rfl
theorem gO : ∀ (l : Nat) (a b : List Rc), oE l (a ++ b) = oE (oE l a) b
 | _, [], _ => rfl
 | _, r :: rs, b => gO r.2 rs b
theorem nB : ∀ (n : Nat) (a : List Rc), n <= endN n a
 | _, [] => Nat.le_refl _
 | n, r :: rs => by have := nB (n + need r.1.length) rs; show n <= endN _ rs; omega
theorem kJ : ∀ (n : Nat) (a : List Rc), (∀ r ∈ a, r.1.length <= 8192) -> n + a.length <= endN n a
 | _, [], _ => Nat.le_refl _
 | n, r :: rs, h => by
  have := kJ (n + need r.1.length) rs λ s hs => h s (List.mem_cons_of_mem _ hs);have := (kB (h r (List.mem_cons_self))).1;show n + (rs.length + 1) <= endN _ rs;omega
theorem Asc.last : ∀ {l : Nat} {a : List Rc}, Asc l a -> ∀ {m}, l <= m -> (∀ r ∈ a, r.2 <= m) -> l <= oE l a /\ oE l a <= m
 | _, [], _, _, h, _ => ⟨Nat.le_refl _, h⟩
 | l, s :: rs, h, m, hm, ha => by
  have := h.2.last (ha s List.mem_cons_self) λ r hr => ha r (List.mem_cons_of_mem _ hr);exact ⟨Nat.le_trans h.1 this.1, this.2⟩
theorem sR : ∀ (n : Nat) (a : List Rc), (∀ r ∈ a, r.1.length <= 8192) -> (xX n a).Pairwise (· < ·) /\ ∀ m ∈ xX n a, n <= m /\ m < endN n a
 | _, [], _ => ⟨List.Pairwise.nil, λ m hm => by cases hm⟩
 | n, r :: rs, h => by
  obtain ⟨h1, h2⟩ := sR (n + need r.1.length) rs λ s hs => h s (List.mem_cons_of_mem _ hs);have hp := (kB (h r List.mem_cons_self)).1;have he := nB (n + need r.1.length) rs;refine ⟨List.pairwise_cons.2 ⟨λ m hm => by have := (h2 m hm).1; omega, h1⟩, λ m hm => ?_⟩;rcases List.mem_cons.1 hm with rfl | hm
  . exact ⟨Nat.le_refl _, by show m < endN _ rs; omega⟩
  . have := h2 m hm;exact ⟨by omega, this.2⟩
theorem jO {x : Dsk} (ho : x.off = false) {first size most h0 l0 : Nat} (hm : most < 281474976710656) : ∀ (rs : List Rc) (j n l : Nat) (st ep : List Nat), xY x first size most h0 l0 j = ⟨st, ep, n, l, true⟩ -> tY x first size n rs -> Asc l rs -> (∀ r ∈ rs, r.2 <= most /\ r.1.length <= 8192) ->
 h0 <= n -> endN n rs <= 281474976710656 -> endN n rs - h0 <= size - 2 -> xY x first size most h0 l0 (j + rs.length) = ⟨st ++ xX n rs, ep ++ rs.map Prod.snd, endN n rs, oE l rs, true⟩
 | [], j, n, l, st, ep, hs, _, _, _, _, _, _ => by simpa [xX, endN, oE] using hs
 | r :: rs, j, n, l, st, ep, hs, hc, ha, hr, h0n, h1, h2 => by
  obtain ⟨hr1, hr2⟩ := hr r List.mem_cons_self;have he := nB (n + need r.1.length) rs;have h1' : endN (n + need r.1.length) rs <= 281474976710656 := h1;have h2' : endN (n + need r.1.length) rs - h0 <= size - 2 := h2;have hstep : xY x first size most h0 l0 (j + 1) = ⟨st ++ [n], ep ++ [r.2], n + need r.1.length, r.2, true⟩ := by
   show (if (xY x first size most h0 l0 j).go then uX x first size most h0 (xY x first size most h0 l0 j) else _) = _;rw [hs, if_pos rfl];unfold uX;simp only;rw [lR ho hc.1 hr2 (by omega) (by omega) ha.1 hr1];simp only;rw [if_neg (by omega)]
  have := jO ho hm rs (j + 1) _ _ _ _ hstep hc.2 ha.2 (λ s hs => hr s (List.mem_cons_of_mem _ hs)) (by omega) h1' h2';rw [show j + (r :: rs).length = j + 1 + rs.length by simp; omega, this];simp [xX, endN, oE]
theorem scanR_chain {x : Dsk} (ho : x.off = false) {first size : Nat} {h : Head} (h2 : 2 < size) (hm : h.epoch < 281474976710656) {rs : List Rc} (hc : tY x first size h.first rs) (ha : Asc h.least rs) (hr : ∀ r ∈ rs, r.2 <= h.epoch /\ r.1.length <= 8192)
 (h1 : endN h.first rs <= 281474976710656) (h3 : endN h.first rs - h.first <= size - 2) {c : Int} (hs : xL x first size (endN h.first rs) (oE h.least rs) h.epoch = .error c) :
 scanR x first size h = ⟨xX h.first rs, rs.map Prod.snd, endN h.first rs, oE h.least rs, false⟩ := by
 have hu := jO ho (size := size) (h0 := h.first) (l0 := h.least) hm rs 0 h.first h.least [] [] rfl hc ha hr (Nat.le_refl _) h1 h3;rw [Nat.zero_add] at hu;have hlen := kJ h.first rs λ r hr' => (hr r hr').2;have hst : xY x first size h.epoch h.first h.least (rs.length + 1) = ⟨xX h.first rs, rs.map Prod.snd, endN h.first rs, oE h.least rs, false⟩ := by
  show (if (xY x first size h.epoch h.first h.least rs.length).go then uX x first size h.epoch h.first (xY x first size h.epoch h.first h.least rs.length) else _) = _;rw [hu, if_pos rfl];unfold uX;simp only;rw [hs];simp
 unfold scanR;rw [gD (j := rs.length + 1) (by rw [hst]) (by omega), hst]
end Go.Proofs.YtbjofbhhnmehgaaGreatDoor.TT
