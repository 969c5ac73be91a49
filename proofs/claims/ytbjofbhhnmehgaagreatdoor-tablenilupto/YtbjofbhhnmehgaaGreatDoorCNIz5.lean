
/-
 octet.Reader over bytes that are written right.
-/
import Derived.Test.YtbjofbhhnmehgaaGreatDoorCNIz0
import Derived.Test.YtbjofbhhnmehgaaGreatDoorCNIz4
import Derived.WalkMore
set_option linter.unusedSimpArgs false
set_option linter.unusedVariables false
set_option maxHeartbeats 4000000
set_option maxRecDepth 100000
open Go.IntWalk (toNatUp iteOmega)
namespace Go.Proofs.YtbjofbhhnmehgaaGreatDoor.TT
open Go.RowKit Go.RG Go.Hp Go.Proofs.YtbjofbhhnmehgaaGreatDoor
structure RdAt (w : World) (r : Nat) (v : Value) (bs : List Int) (at' : Nat) : Prop where
 head : w.heap[r]? = some (.cells #[v, .int .i64 at', .bool true, .int .i64 0] 195 (0, 0))
 src : Src w v (u8s bs)
 ne : v.ownBlock ≠ some r
 bytes : zO bs
 le : at' <= bs.length
 lim : bs.length <= 1073741824
theorem Src.ext {w w' : World} {v : Value} {xs : List Value} {S : Nat -> Prop} (h : Src w v xs) (hX : Ext S w w') (hn : ∀ k, v.ownBlock = some k -> ¬ S k) : Src w' v xs := by
 rcases h with ⟨g, o, c, rfl, hc, hr⟩ | h
 . exact .inl ⟨g, o, c, rfl, hc, λ j u hu => hX.cell_some (hr j u hu) (hn g rfl)⟩
 . exact .inr h
theorem RdAt.below {w w' : World} {r : Nat} {v : Value} {bs : List Int} {at' : Nat} (h : RdAt w r v bs at') (hb : Below w.heap.size w w') : RdAt w' r v bs at' :=
 ⟨zK hb h.head, h.src.below hb, h.ne, h.bytes, h.le, h.lim⟩
theorem RdAt.cs {w : World} {r : Nat} {v : Value} {bs : List Int} {at' : Nat} (h : RdAt w r v bs at') : w.cell? ⟨r, 0, none⟩ = some v /\ w.cell? ⟨r, 1, none⟩ = some (.int .i64 at') /\ w.cell? ⟨r, 2, none⟩ = some (.bool true) /\ w.cell? ⟨r, 3, none⟩ = some (.int .i64 0) /\ ∀ j, w.frozen? ⟨r, j, none⟩ = false :=
 ⟨yV h.head 0 _ rfl, yV h.head 1 _ rfl, yV h.head 2 _ rfl, yV h.head 3 _ rfl, λ j => by simp [World.frozen?, h.head]⟩
theorem RdAt.on {w w' : World} {r : Nat} {v : Value} {bs : List Int} {at' n : Nat} (h : RdAt w r v bs at') (hX : Ext (· = r) w w') (hc : w'.heap[r]? = some (.cells #[v, .int .i64 n, .bool true, .int .i64 0] 195 (0, 0))) (hn : n <= bs.length) : RdAt w' r v bs n :=
 ⟨hc, h.src.ext hX λ k e e2 => h.ne (by rw [<- e2]; exact e), h.ne, h.bytes, hn, h.lim⟩
theorem rnew_any (v : Value) (bs : List Int) (w : World) (hv : Src w v (u8s bs)) (hb : zO bs) (hl : bs.length <= 1073741824) :
 Calls Tryz.prog 121 #[v] w λ e w' => ∃ r u, e = .returned (.pointer (some ⟨r, 0, none⟩)) /\ RdAt w' r u bs 0 /\ w.heap.size <= r /\ (∀ j, u.ownBlock = some j -> w.heap.size <= j) /\ Below w.heap.size w w' := by
 have HC := zB (clone_any v (u8s bs) w hv (yU _) (by rw [zH]; omega));clear hv;go_enter Tryz.func121, Tryz.ntmps121
 go_wp2_with fail
 refine HC.out.mono ?_;rintro e w1 ⟨u, rfl, hown, hB⟩;obtain ⟨ua, uc, rfl, -⟩ := zP hown;have Hown := zB hown;clear hown HC
 go_wp2_with fail
 go_ret
 have hb2 := zQ w1 (.cells #[.slice ua (u8s bs).length uc, .int .i64 0, .bool true, .int .i64 0] 195);refine ⟨w1.heap.size, _, rfl, ⟨World.alloc_heap_new w1 _, (Src.of_owns Hown.out).below hb2, λ e => ?_, hb, Nat.zero_le _, hl⟩, hB.size, λ j hj => (Hown.out.lt j hj).1, zF hB hb2⟩;have := xD Hown.out e;omega
theorem rbad_ok (r : Nat) (v : Value) (bs : List Int) (at' : Nat) (w : World) (h : RdAt w r v bs at') : Calls Tryz.prog 140 #[.pointer (some ⟨r, 0, none⟩)] w λ e w' => e = .returned (.bool false) /\ w = w' := by
 obtain ⟨-, -, c2, c3, -⟩ := h.cs;clear h;go_enter Tryz.func140, Tryz.ntmps140
 go_wp2_with fail
 go_ret
 exact ⟨rfl, rfl⟩
theorem pW (r : Nat) (v : Value) (bs : List Int) (at' : Nat) (w : World) (h : RdAt w r v bs at') : Calls Tryz.prog 124 #[.pointer (some ⟨r, 0, none⟩)] w λ e w' => e = .returned (.int .i64 0) /\ w = w' := by
 obtain ⟨-, -, c2, c3, -⟩ := h.cs;clear h;go_enter Tryz.func124, Tryz.ntmps124
 go_wp2_with fail
 go_ret
 exact ⟨rfl, rfl⟩
theorem rleft_ok (r : Nat) (v : Value) (bs : List Int) (at' : Nat) (w : World) (h : RdAt w r v bs at') : Calls Tryz.prog 127 #[.pointer (some ⟨r, 0, none⟩)] w λ e w' => e = .returned (.int .i64 ((bs.length - at' : Nat) : Int)) /\ Below w.heap.size w w' := by
 obtain ⟨c0, c1, c2, c3, -⟩ := h.cs;obtain ⟨va, vc, rfl, -⟩ := h.src.shape;rw [zH] at c0;have hle := h.le;have hlim := h.lim;have e1 := IntWalk.i64_in ((bs.length : Int) - (at' : Int)) (by omega);have hsub : ((bs.length : Int) - (at' : Int)) = ((bs.length - at' : Nat) : Int) := by omega
 have Hs := zB hsub;clear h hsub;go_enter Tryz.func127, Tryz.ntmps127
 go_wp2_with fail
 refine zY (λ _ => none) fol (by kernel_rfl) (λ W hW hh => ?_);clear hh;have q0 := zV hW c0;have q1 := zV hW c1;clear c0 c1 c2 c3
 repeat ((first | refine lxM ?_ | refine lxF ?_ | refine zM rfl ?_); simp only [zD])
 refine zZ ?_;clear q0 q1
 go_wp2_with fail
 go_ret
 rw [Hs.out];exact ⟨rfl, hW⟩
theorem kU : Tryz.prog.underlying 52 = some (.slice (Tryz.prog.elem 52)) := by kernel_rfl
theorem kX (w : World) : (sizeOf (Tryz.prog.elem 52)).run Tryz.prog w = .ok 1 w := by kernel_rfl
theorem nP (r : Nat) (v : Value) (bs : List Int) (at' n most : Nat) (hn : n <= most) (hm : most < 18446744073709551616) (hp : sdnv n <+: bs.drop at') (w : World) (h : RdAt w r v bs at') :
 Calls Tryz.prog 123 #[.pointer (some ⟨r, 0, none⟩), .int .u64 most] w λ e w' => e = .returned (.int .u64 n) /\ RdAt w' r v bs (at' + (sdnv n).length) /\ Ext (· = r) w w' := by
 obtain ⟨c0, c1, c2, c3, fr⟩ := h.cs;obtain ⟨va, vc, rfl, -⟩ := h.src.shape;rw [zH] at c0 h ⊢;have hle := h.le;have hlim := h.lim;have HB := zB (rbad_ok r _ bs at' w h);have hsd := xU n (by omega);have hpl := hp.length_le;rw [List.length_drop] at hpl;have HN := zB λ W (hW : Below w.heap.size w W) => number_any (kV at' (.slice va bs.length vc)) n (by omega) (bs.drop at') hp W (by rw [tL]; exact oP (h.below hW).src at' (by rw [zH]; exact hle)) (by rw [List.length_drop]; omega);have H := zB h;obtain ⟨m, hm'⟩ : ∃ m, (sdnv n).length = m := ⟨_, rfl⟩;rw [hm'] at HN hpl hsd ⊢;have e1 := IntWalk.i64_in ((at' : Int) + (m : Int)) (by omega);have hnm : ¬ (most : Int) < (n : Int) := by omega
 clear h hp hm';go_enter Tryz.func123, Tryz.ntmps123
 go_wp2_with fail
 refine HB.out.mono ?_;rintro e w' ⟨rfl, rfl⟩
 go_wp2_with fail
 refine zY (λ i => if i = 9 then some (λ v _ => v = .tuple #[.int .u64 n, .int .i64 m, .int .i64 0]) else none) fol (by kernel_rfl) (λ W hW hh => ?_);clear hh;have q0 := zV hW c0;have q1 := zV hW c1
 iterate 8 ((first | (refine lxM ?_) | (refine zJ ?_ rfl rfl (λ w1 hb1 hf1 => ?_) ?_; rotate_left; (go_simp; rfl))); simp only [zD])
 refine zJ (kV at' (.slice va bs.length vc)) rfl rfl (λ w1 hb1 hf1 => rX (.tmp 14) (.tmp 18) 52 rfl (lI 52 5 kU kX at' hle w1)) ?_;simp only [zD];refine zW _ rfl (λ _ _ _ h _ => h) rfl (λ w1 hb1 hf1 => ?_) ?_
 . have hb1' := hb1
   (unfold yE; go_simp; simp only [zN])
   refine (HN.out _ (zF hW hb1')).mono ?_;rintro e w' ⟨rfl, hB⟩;exact ⟨_, rfl, hB, rfl⟩
 rintro v9 W9 hB9 rfl;simp only [zD]
 repeat ((first | refine lxM ?_ | refine lxF ?_ | refine zM rfl ?_); simp only [zD])
 refine zZ ?_;clear q0 q1;have hB := zF hW hB9;have h9 := H.out.below hB;obtain ⟨c0, c1, c2, c3, fr⟩ := h9.cs;have hX := (Ext.setCell (S := (· = r)) (w := W9) (p := ⟨r, 3, none⟩) rfl (.int .i64 0)).trans (Ext.setCell (S := (· = r)) (p := ⟨r, 1, none⟩) rfl (.int .i64 ((at' : Int) + (m : Int)))) (λ _ _ h => h);have hc := yB (j := 1) (yB (j := 3) h9.head (.int .i64 0)) (.int .i64 ((at' : Int) + (m : Int)));have HF := zB (show RdAt _ r (.slice va bs.length vc) bs (at' + m) /\ Ext (· = r) w _ from ⟨h9.on hX (n := at' + m) (by refine hc.trans ?_; rfl) (by omega), (Ext.of_below (S := (· = r)) hB).trans hX λ _ _ h => h⟩);clear h9 hX hc
 go_wp2_with fail
 go_ret
 exact ⟨rfl, HF.out.1, HF.out.2⟩
def partV (lo hi : Nat) : Value -> Value
 | .slice a _ c => sliced a lo hi c 1
 | v => v
theorem partV_src {w : World} {v : Value} {xs : List Value} (h : Src w v xs) (lo hi : Nat) (hlo : lo <= hi) (hhi : hi <= xs.length) : Src w (partV lo hi v) ((xs.take hi).drop lo) := by
 have hl : ((xs.take hi).drop lo).length = hi - lo := by rw [List.length_drop, List.length_take]; omega
 rcases h with ⟨g, o, c, rfl, hc, hr⟩ | ⟨rfl, rfl⟩
 . unfold partV sliced;by_cases h0 : c = lo
   . subst h0;left;refine ⟨g, o, 0, ?_, by rw [hl]; omega, λ j u hu => ?_⟩
     . rw [hl]; simp
     . have := (List.getElem?_eq_some_iff.1 hu).1;omega
   . left;refine ⟨g, o + lo, c - lo, ?_, by rw [hl]; omega, λ j u hu => ?_⟩
     . rw [hl]; simp [h0, Addr.add_lit]
     . rw [List.getElem?_drop] at hu;rw [Nat.add_assoc];have hj : lo + j < hi := by
        have := (List.getElem?_eq_some_iff.1 hu).1;rw [List.length_take] at this;omega
       rw [List.getElem?_take_of_lt hj] at hu;exact hr _ u hu
 . right;have h1 : hi = 0 := by simpa using hhi
   subst h1;have h2 : lo = 0 := by omega
   subst h2;exact ⟨rfl, rfl⟩
theorem part_run (ts : TypeId) (ht : Tryz.prog.underlying ts = some (.slice (Tryz.prog.elem ts))) (hs : ∀ w, (sizeOf (Tryz.prog.elem ts)).run Tryz.prog w = .ok 1 w) {a : Option Addr} {n c : Nat} (lo hi : Nat) (hlo : lo <= hi) (hhi : hi <= c) (w : World) :
 (Instr.sliceAt ts (.slice a n c) (some (.int .i64 lo)) (some (.int .i64 hi)) none).run Tryz.prog w = .ok (partV lo hi (.slice a n c)) w := by
 rw [run_sliceAt_slice _ _ _ _ _ _ ht, run_slice_lh _ _ _ _ _ ht _ _ _ _ (by omega) (by omega) (by omega), hs];rfl
theorem jV {o : Oper} {a : Act} {w w' : World} (x l h : Operand) (t : TypeId) (ho : o.op = .slice t x (some l) (some h) none) {v : Value} (hr : (Instr.sliceAt t (a.eval x) (some (a.eval l)) (some (a.eval h)) none).run Tryz.prog w = .ok v w') : (execOp a.eval o).run Tryz.prog w = .ok (.value v) w' := by
 simp only [execOp, ho, Option.map_some, Option.map_none, Sem.run_bind, hr, Result.andThen_ok, Sem.run_pure]
theorem rtake_ok (r : Nat) (v : Value) (bs : List Int) (at' k : Nat) (hk : at' + k <= bs.length) (w : World) (h : RdAt w r v bs at') :
 Calls Tryz.prog 122 #[.pointer (some ⟨r, 0, none⟩), .int .i64 k] w λ e w' => ∃ u, e = .returned u /\ w'.ownsRow w.heap.size 5 1 u k (u8s ((bs.drop at').take k)) /\ RdAt w' r v bs (at' + k) /\ Ext (· = r) w w' := by
 obtain ⟨c0, c1, c2, c3, fr⟩ := h.cs;obtain ⟨va, vc, rfl, hvc⟩ := h.src.shape;rw [zH] at c0 h hvc ⊢;have hle := h.le;have hlim := h.lim;have HB := zB (rbad_ok r _ bs at' w h);have H := zB h;have e1 := IntWalk.i64_in ((at' : Int) + (k : Int)) (by omega);have e2 := IntWalk.i64_in ((bs.length : Int) - (at' : Int)) (by omega);have e3 := IntWalk.i64_in (at' : Int) (by omega);have hk0 : ¬ (k : Int) < 0 := by omega
 have hk1 : ¬ (bs.length : Int) - (at' : Int) < (k : Int) := by omega
 clear h;go_enter Tryz.func122, Tryz.ntmps122
 go_wp2_with fail
 refine HB.out.mono ?_;rintro e w' ⟨rfl, rfl⟩
 go_wp2_with fail
 refine zY (λ _ => none) fol (by kernel_rfl) (λ W hW hh => ?_);clear hh;have q0 := zV hW c0;have q1 := zV hW c1
 repeat ((first | refine lxM ?_ | refine lxF ?_ | refine zM rfl ?_); simp only [zD])
 refine zZ ?_;clear q0 q1 c0 c1 c2 c3 fr HB;have h1 := H.out.below hW;obtain ⟨c0, c1, c2, c3, fr⟩ := h1.cs;have hX := Ext.setCell (S := (· = r)) (w := W) (p := ⟨r, 1, none⟩) rfl (.int .i64 ((at' : Int) + (k : Int)));have hc := yB (j := 1) h1.head (.int .i64 ((at' : Int) + (k : Int)));have HF := zB (show RdAt _ r (.slice va bs.length vc) bs (at' + k) /\ Ext (· = r) w _ from ⟨h1.on hX (n := at' + k) (by refine hc.trans ?_; rfl) (by omega), (Ext.of_below (S := (· = r)) hW).trans hX λ _ _ h => h⟩);clear h1 hX hc
 go_wp2_with fail
 generalize World.setCell W _ _ = W1 at HF ⊢;have h2 := HF.out.1;clear c0 c1 c2 c3 fr;obtain ⟨c0, c1, c2, c3, fr⟩ := h2.cs;have HC := zB λ V (hV : Below W1.heap.size W1 V) => clone_any (partV at' (at' + k) (.slice va bs.length vc)) (((u8s bs).take (at' + k)).drop at') V (partV_src (h2.below hV).src at' (at' + k) (by omega) (by rw [zH]; exact hk)) (λ u hu => yU _ u (List.mem_of_mem_take (List.mem_of_mem_drop hu))) (by rw [List.length_drop, List.length_take, zH]; omega);have hcl : (((u8s bs).take (at' + k)).drop at').length = k := by rw [List.length_drop, List.length_take, zH]; omega
 have hce : ((u8s bs).take (at' + k)).drop at' = u8s ((bs.drop at').take k) := by rw [List.drop_take, Nat.add_sub_cancel_left, qF, tL]
 rw [hcl, hce] at HC;have c1' : W1.cell? ⟨r, 1, none⟩ = some (.int .i64 ((at' : Int) + (k : Int))) := by rw [c1]; congr 2
 clear c1 hcl hce h2;refine zY (λ i => if i = 15 then some (λ v w' => w'.ownsRow W1.heap.size 5 1 v k (u8s ((bs.drop at').take k))) else none) fol (by kernel_rfl) (λ V hV hh => ?_);clear hh;have q0 := zV hV c0;have q1 := zV hV c1'
 iterate 14 ((first | (refine lxM ?_) | (refine zJ ?_ rfl rfl (λ w1 hb1 hf1 => ?_) ?_; rotate_left; (go_simp; rfl))); simp only [zD])
 refine zJ (partV at' (at' + k) (.slice va bs.length vc)) rfl rfl (λ w1 hb1 hf1 => jV (.tmp 41) (.tmp 47) (.tmp 51) 52 rfl (part_run 52 kU kX at' (at' + k) (by omega) (by omega) w1)) ?_;simp only [zD];refine zW _ rfl (by exact λ _ _ _ h hb => yA h hb) rfl (λ w1 hb1 hf1 => ?_) ?_
 . have hb1' := hb1;have hsz := (zF hV hb1').size
   (unfold yE; go_simp; simp only [zN])
   refine (HC.out _ (zF hV hb1')).mono ?_;rintro e w' ⟨u, rfl, hown, hB⟩;exact ⟨u, rfl, hB, yC hown λ j hj => Nat.le_trans hsz (hown.lt j hj).1⟩
 rintro v15 W15 hB15 hown;simp only [zD]
 repeat ((first | refine lxM ?_ | refine lxF ?_ | refine zM rfl ?_); simp only [zD])
 refine zZ ?_;clear q0 q1 c0 c1' c2 c3 fr HC;have hB := zF hV hB15;have Hown := zB hown;clear hown;have hsw : w.heap.size <= W1.heap.size := HF.out.2.size
 go_wp2_with fail
 go_ret
 exact ⟨_, rfl, yC Hown.out (λ j hj => Nat.le_trans hsw (Hown.out.lt j hj).1), HF.out.1.below hB, HF.out.2.trans (Ext.of_below (S := (· = r)) hB) λ _ _ h => h⟩
theorem oS (r : Nat) (v : Value) (bs : List Int) (at' most : Nat) (xs : List Int) (hn : xs.length <= most) (hm : most <= 1073741824) (hp : sdnv xs.length ++ xs <+: bs.drop at') (w : World) (h : RdAt w r v bs at') :
 Calls Tryz.prog 125 #[.pointer (some ⟨r, 0, none⟩), .int .i64 most] w λ e w' => ∃ u, e = .returned u /\ w'.ownsRow w.heap.size 5 1 u xs.length (u8s xs) /\ RdAt w' r v bs (at' + (sdnv xs.length).length + xs.length) /\ Ext (· = r) w w' := by
 obtain ⟨c0, c1, c2, c3, fr⟩ := h.cs;have HB := zB (rbad_ok r v bs at' w h);have hp1 : sdnv xs.length <+: bs.drop at' := (List.prefix_append _ _).trans hp;have HN := zB (nP r v bs at' xs.length most hn (by omega) hp1 w h);have hm0 : ¬ (most : Int) < 0 := by omega
 have hle := hp.length_le;rw [List.length_append, List.length_drop] at hle;have hxl : (xs.length : Int) <= 1073741824 := by omega
 have e1 := IntWalk.u64_in (most : Int) (by omega);have e2 := IntWalk.i64_in (xs.length : Int) (by omega);have hpart : (bs.drop (at' + (sdnv xs.length).length)).take xs.length = xs := by
  obtain ⟨t, ht⟩ := hp;rw [<- List.drop_drop, <- ht, List.append_assoc, List.drop_left, List.take_left]
 have Hpart := zB hpart;have Hlen := zB (zC hle h.le);clear h hp hp1 hle hpart;go_enter Tryz.func125, Tryz.ntmps125
 go_wp2_with fail
 refine HB.out.mono ?_;rintro e w' ⟨rfl, rfl⟩
 go_wp2_with fail
 refine HN.out.mono ?_;rintro e w2 ⟨rfl, hR2, hX2⟩;have HT := zB (rtake_ok r v bs (at' + (sdnv xs.length).length) xs.length (by have := Hlen.out; omega) w2 hR2);clear c0 c1 c2 c3 fr hR2
 go_wp2_with fail
 refine HT.out.mono ?_;rintro e w3 ⟨u, rfl, hown, hR3, hX3⟩;rw [Hpart.out] at hown;obtain ⟨c0, c1, c2, c3, fr⟩ := hR3.cs;have HF := zB (zC hown (zC hR3 (hX2.trans hX3 λ _ _ h => h)));have hs2 := hX2.size;clear hown hR3 hX3 c0 c1
 go_wp2_with fail
 go_ret
 exact ⟨_, rfl, yC HF.out.1 (λ j hj => Nat.le_trans hs2 (HF.out.1.lt j hj).1), HF.out.2.1, HF.out.2.2⟩
theorem rend_ok (r : Nat) (v : Value) (bs : List Int) (w : World) (h : RdAt w r v bs bs.length) : Calls Tryz.prog 126 #[.pointer (some ⟨r, 0, none⟩)] w λ e w' => e = .returned (.int .i64 0) /\ Below w.heap.size w w' := by
 have HB := zB (rbad_ok r v bs _ w h);have HL := zB (rleft_ok r v bs _ w h);have HE := zB λ W (hW : Below w.heap.size w W) => pW r v bs _ W (h.below hW);rw [Nat.sub_self] at HL;clear h;go_enter Tryz.func126, Tryz.ntmps126
 go_wp2_with fail
 refine HB.out.mono ?_;rintro e w' ⟨rfl, rfl⟩
 go_wp2_with fail
 refine HL.out.mono ?_;rintro e w2 ⟨rfl, hB⟩
 go_wp2_with fail
 refine (HE.out _ hB).mono ?_;rintro e w3 ⟨rfl, rfl⟩
 go_wp2_with fail
 go_ret
 exact ⟨rfl, hB⟩
def yF (n : Nat) : Nat := max 1 ((n + 8111) / 8112)
theorem oU (n : Nat) (hn : n <= 1099511627776) (w : World) : Calls Tryz.prog 89 #[.int .i64 n] w λ e w' => e = .returned (.int .i64 (yF n)) /\ w = w' := by
 have hr : (if ((n : Int) + 8112 - 1) / 8112 <= 1 then (1 : Int) else ((n : Int) + 8112 - 1) / 8112) = (yF n : Int) := by unfold yF; split <;> omega
 have hr2 : (if (1 : Int) < ((n : Int) + 8112 - 1) / 8112 then ((n : Int) + 8112 - 1) / 8112 else 1) = (yF n : Int) := by unfold yF; split <;> omega
 go_enter Tryz.func89, Tryz.ntmps89
 go_wp2_with fail
 go_ret
 exact ⟨rfl, rfl⟩
def vQ (i k : Nat) : List Int := 2 :: (sdnv i ++ sdnv k)
theorem head_any (i k : Nat) (hi : i <= 1099511627776) (hk : k <= 1099511627776) (w : World) : Calls Tryz.prog 88 #[.int .i64 i, .int .i64 k] w λ e w' => ∃ u, e = .returned u /\ w'.ownsRow w.heap.size 5 1 u (vQ i k).length (u8s (vQ i k)) /\ Below w.heap.size w w' := by
 have hb0 := zQ w (.cells #[.int .u8 2] 5);have g0 := World.alloc_heap_new w (.cells #[.int .u8 2] 5);go_enter Tryz.func88, Tryz.ntmps88
 go_wp2_with fail
 have hs : Src (w.alloc (.cells #[.int .u8 2] 5)) (.slice (some ⟨w.heap.size, 0, none⟩) 1 1) [.int .u8 2] := qH (cs := [.int .u8 2]) g0 (Nat.le_refl _);have hsz : (w.alloc (.cells #[.int .u8 2] 5)).heap.size = w.heap.size + 1 := by simp
 refine (uZ _ _ i (by omega) _ hs (λ u hu => by rw [List.mem_singleton.1 hu]; rfl) (by decide)).mono ?_;rintro e w2 ⟨u, rfl, hown, hB⟩;have hs2 := Src.of_owns hown;have hl1 := xU i (by omega);have HN := zB (uZ u _ k (by omega) w2 hs2 (by
  intro v hv;rcases List.mem_append.1 hv with hv | hv
  . simp at hv; subst hv; rfl
  . exact yU _ v hv) (by simp [zH]; omega))
 have hB2 := hb0.trans (hB.mono hb0.size);clear hown hs hs2 g0 hb0
 go_wp2_with fail
 refine HN.out.mono ?_;rintro e w3 ⟨u3, rfl, hown3, hB3⟩;have Hown := zB hown3;clear hown3 HN
 go_wp2_with fail
 go_ret
 have e1 : [Value.int .u8 2] ++ u8s (sdnv i) ++ u8s (sdnv k) = u8s (vQ i k) := by simp [vQ, u8s]
 have e2 : ([Value.int .u8 2] ++ u8s (sdnv i)).length + (sdnv k).length = (vQ i k).length := by simp [vQ, u8s]; omega
 have hown := Hown.out;rw [e1, e2] at hown;exact ⟨_, rfl, yC hown (λ j hj => Nat.le_trans hB2.size (hown.lt j hj).1), hB2.trans (hB3.mono hB2.size)⟩
theorem tG (i k : Nat) : (vQ i k).length = 1 + (sdnv i).length + (sdnv k).length := by simp [vQ]; omega
theorem qP (i k : Nat) (hi : i < 18446744073709551616) (hk : k < 18446744073709551616) : (vQ i k).length <= 21 := by
 rw [tG];have := xU i hi;have := xU k hk;omega
def vU (n : Nat) : Nat -> Nat
 | 0 => 0
 | i + 1 => vU n i + need ((vQ i (yF n)).length + min 8112 (n - i * 8112))
def uR (n : Nat) : Nat := vU n (yF n)
theorem mR (n : Nat) : need n <= 79 := by
 unfold need
 split <;> omega
theorem gY (n i : Nat) : vU n i <= 79 * i := by
 induction i with
 | zero => simp [vU]
 | succ i ih => unfold vU; have := mR ((vQ i (yF n)).length + min 8112 (n - i * 8112)); omega
theorem wJ (n : Nat) : yF n <= n / 8112 + 2 := by unfold yF; omega
theorem lZ {n i : Nat} (h : i < yF n) : i * 8112 <= n := by unfold yF at h; omega
theorem cost_any (n : Nat) (hn : n <= 1073741824) (w : World) : Calls Tryz.prog 62 #[.int .i64 n] w λ e w' => e = .returned (.int .i64 (uR n)) /\ Below w.heap.size w w' := by
 have HP := zB (oU n (by omega) w);have hpl := wJ n;have Hcu := zB (gY n);obtain ⟨k, hk⟩ : ∃ k, yF n = k := ⟨_, rfl⟩;have hat : ∀ i, i < k -> i * 8112 <= n := λ i hi => lZ (by rw [hk]; exact hi);have Hat := zB hat;have hst : ∀ i, vU n (i + 1) = vU n i + need ((vQ i k).length + min 8112 (n - i * 8112)) := λ i => by rw [<- hk]; rfl
 have Hst := zB hst;have Hfin := zB (show uR n = vU n k by rw [<- hk]; rfl);rw [hk] at HP hpl;clear hk hat hst;have hk6 : k <= 200000 := by omega
 clear hpl;go_enter Tryz.func62, Tryz.ntmps62
 go_wp2_with fail
 refine HP.out.mono ?_;rintro e w' ⟨rfl, rfl⟩
 go_wp2_with fail
 go_loopw [4, 9] (λ vn vi wr => ∃ i : Nat, vi = .int .i64 i /\ i <= k /\ vn = .int .i64 (vU n i) /\ Below w.heap.size w wr) (λ _ vi _ => k - (intOf vi).toNat)
 case atStart => exact ⟨0, rfl, Nat.zero_le _, rfl, Below.refl _ _⟩
 case round =>
  obtain ⟨i, rfl, hi, rfl, hB⟩ := hrel;by_cases hik : i < k
  . have hik' : (i : Int) < (k : Int) := by omega
    have h1 := Hat.out i hik;have h2 := Hcu.out i;have hh := qP i k (by omega) (by omega);have HH := zB (head_any i k (by omega) (by omega) wr);have hs := Hst.out i;obtain ⟨c, hc⟩ : ∃ c, vU n i = c := ⟨_, rfl⟩;obtain ⟨hl, hhl⟩ : ∃ hl, (vQ i k).length = hl := ⟨_, rfl⟩;rw [hc, hhl] at hs;rw [hc] at h2 ⊢;rw [hhl] at HH hh;obtain ⟨d, hd⟩ : ∃ d, min 8112 (n - i * 8112) = d := ⟨_, rfl⟩;rw [hd] at hs;have hdI : (if (n : Int) - (i : Int) * 8112 < 8112 then (n : Int) - (i : Int) * 8112 else 8112) = (d : Int) := by rw [<- hd]; split <;> omega
    have hd1 : d <= 8112 := by omega
    have HNd := zB λ w' => qL (hl + d) (by omega) w';have hnl := mR (hl + d);have Hs := zB hs;clear hs hd hc hhl
    go_wp2_with fail
    refine HH.out.mono ?_;rintro e w2 ⟨u, rfl, hown, hB2⟩;obtain ⟨ua, uc, rfl, -⟩ := zP hown;clear hown HH
    go_wp2_with fail
    rw [show (hl : Int) + (d : Int) = ((hl + d : Nat) : Int) by omega];refine (HNd.out w2).mono ?_;rintro e w3 ⟨rfl, rfl⟩;clear HNd
    go_wp2_with fail
    refine ⟨⟨i + 1, by simp, by omega, by rw [Hs.out]; simp, zF hB hB2⟩, ?_⟩;show k - ((i : Int) + 1).toNat < k - (i : Int).toNat;omega
  . obtain rfl : i = k := by omega
    have hik' : ¬ (i : Int) < (i : Int) := by omega
    go_wp2_with fail
    go_ret
    rw [Hfin.out];exact ⟨rfl, hB⟩
theorem sdnv_mono {a b : Nat} (h : a <= b) : (sdnv a).length <= (sdnv b).length := by
 obtain ⟨m, h1, h2, h3, -⟩ := rM a;obtain ⟨m', k1, k2, k3, -⟩ := rM b;rw [h1, k1];rcases Nat.lt_or_ge m' m with hm | hm
 . exfalso
   have h4 : 128 ^ (m' + 1) <= 128 ^ m := Nat.pow_le_pow_right (by decide) hm;rcases h3 with rfl | h3
   . omega
   . omega
 . omega
theorem need_mono {a b : Nat} (h : a <= b) (hb : b <= 8192) : need a <= need b := by
 unfold need;rw [if_pos (by omega), if_pos hb];omega
theorem gL {a b : Nat} (h : a <= b) : yF a <= yF b := by unfold yF; omega
theorem gX {a b : Nat} (h : a <= b) (hb : b <= 1073741824) : ∀ i, i <= 1000000 -> vU a i <= vU b i
 | 0, _ => Nat.le_refl _
 | i + 1, hi => by
  have h1 := gX h hb i (by omega);have h2 : (vQ i (yF a)).length <= (vQ i (yF b)).length := by
   rw [tG, tG];have := sdnv_mono (gL h);omega
  have h3 := qP i (yF b) (by omega) (by have := wJ b; omega);have h4 := need_mono (a := (vQ i (yF a)).length + min 8112 (a - i * 8112)) (b := (vQ i (yF b)).length + min 8112 (b - i * 8112)) (by omega) (by omega);unfold vU;omega
theorem costUp_up (n : Nat) {i j : Nat} (h : i <= j) : vU n i <= vU n j := by
 induction j with
 | zero => rw [Nat.le_zero.1 h]; exact Nat.le_refl _
 | succ j ih =>
  rcases Nat.eq_or_lt_of_le h with rfl | h
  . exact Nat.le_refl _
  . have := ih (Nat.lt_succ_iff.1 h);show _ <= vU n j + _;omega
theorem pF {a b : Nat} (h : a <= b) (hb : b <= 1073741824) : uR a <= uR b :=
 Nat.le_trans (gX h hb _ (by have := wJ a; omega)) (costUp_up b (gL h))
theorem costUp_ge (n : Nat) (hn : n <= 1073741824) : ∀ i, i <= yF n -> min n (i * 8112) <= 104 * vU n i
 | 0, _ => by simp
 | i + 1, hi => by
  have h1 := costUp_ge n hn i (by omega);have h2 := lZ (n := n) (i := i) (by omega);have h3 := qP i (yF n) (by have := wJ n; omega) (by have := wJ n; omega);have h4 : min 8112 (n - i * 8112) <= 104 * need ((vQ i (yF n)).length + min 8112 (n - i * 8112)) := by
   unfold need;rw [if_pos (by omega)];omega
  have e : vU n (i + 1) = vU n i + need ((vQ i (yF n)).length + min 8112 (n - i * 8112)) := rfl;rw [e];generalize need ((vQ i (yF n)).length + min 8112 (n - i * 8112)) = N at h4 ⊢;generalize vU n i = C at h1 ⊢;clear e h3 hi;rw [Nat.mul_add];rcases Nat.le_total n (i * 8112) with h5 | h5
  . rw [Nat.min_eq_left h5] at h1;exact Nat.le_trans (Nat.min_le_left _ _) (by omega)
  . rw [Nat.min_eq_right h5] at h1;have h6 : min n ((i + 1) * 8112) <= i * 8112 + min 8112 (n - i * 8112) := by omega
    omega
theorem costN_ge (n : Nat) (hn : n <= 1073741824) : n <= 104 * uR n := by
 have := costUp_ge n hn (yF n) (Nat.le_refl _);have h2 : n <= yF n * 8112 := by unfold yF; omega
 unfold uR;omega
def fitsN (ring n : Nat) : Prop := 2 * uR n + 79 <= ring
structure CapOf (ring c : Nat) : Prop where
 fit : c = 0 \/ fitsN ring c
 top : ∀ n, c < n -> n <= 1073741824 -> ¬ fitsN ring n
 le : c <= ring * 104
theorem capacity_any (ring : Nat) (hr : ring <= 65536) (w : World) : Calls Tryz.prog 49 #[.int .i64 ring] w λ e w' => ∃ c : Nat, e = .returned (.int .i64 c) /\ CapOf ring c /\ Below w.heap.size w w' := by
 have htop : ∀ n, ring * 104 < n -> n <= 1073741824 -> ¬ fitsN ring n := λ n h1 h2 h => by
  have := costN_ge n h2;unfold fitsN at h;omega
 have Htop := zB htop;clear htop;go_enter Tryz.func49, Tryz.ntmps49
 go_wp2_with fail
 go_loopw [3, 4] (λ vl vh wr => ∃ lo hi : Nat, vl = .int .i64 lo /\ vh = .int .i64 hi /\ lo <= hi /\ hi <= ring * 104 /\ (lo = 0 \/ fitsN ring lo) /\ (∀ n, hi < n -> n <= 1073741824 -> ¬ fitsN ring n) /\ Below w.heap.size w wr) (λ vl vh _ => (intOf vh).toNat - (intOf vl).toNat)
 case atStart => exact ⟨0, ring * 104, rfl, by simp, Nat.zero_le _, Nat.le_refl _, .inl rfl, Htop.out, Below.refl _ _⟩
 case round =>
  obtain ⟨lo, hi, rfl, rfl, hlh, hh, hlo, hhi, hB⟩ := hrel;have Hlo := zB hlo;have Hhi := zB hhi;clear hlo hhi Htop;by_cases hlt : lo < hi
  . have hlt' : (lo : Int) < (hi : Int) := by omega
    obtain ⟨mid, hm1, hm2, hm3⟩ : ∃ mid : Nat, ((lo : Int) + (hi : Int) + 1) / 2 = (mid : Int) /\ lo < mid /\ mid <= hi := ⟨(lo + hi + 1) / 2, by omega, by omega, by omega⟩;have HC := zB (cost_any mid (by omega) wr);have hcl := gY mid (yF mid);have hpl := wJ mid;have Hfit := zB (show fitsN ring mid ↔ 2 * uR mid + 79 <= ring from Iff.rfl);have Hmono := zB λ n (h1 : mid <= n) (h2 : n <= 1073741824) => pF h1 h2;change uR mid <= _ at hcl;obtain ⟨c, hc⟩ : ∃ c, uR mid = c := ⟨_, rfl⟩;rw [hc] at HC hcl Hfit Hmono;clear hc
    go_wp2_with fail
    refine HC.out.mono ?_;rintro e w2 ⟨rfl, hB2⟩;clear HC;by_cases hf : 2 * c + 79 <= ring
    . have hf' : 2 * (c : Int) + 79 <= (ring : Int) := by omega
      have Hf := zB (Hfit.out.2 hf);clear hf
      go_wp2_with fail
      refine ⟨⟨mid, hi, rfl, rfl, hm3, hh, .inr Hf.out, Hhi.out, zF hB hB2⟩, ?_⟩;show (hi : Int).toNat - (mid : Int).toNat < (hi : Int).toNat - (lo : Int).toNat;omega
    . have hf' : ¬ 2 * (c : Int) + 79 <= (ring : Int) := by omega
      have Hf := zB hf;clear hf
      go_wp2_with fail
      refine ⟨⟨lo, mid - 1, rfl, by congr 1; omega, by omega, by omega, Hlo.out, λ n h1 h2 h3 => ?_, zF hB hB2⟩, ?_⟩
      . have h4 := Hmono.out n (by omega) h2;have h5 := Hf.out;unfold fitsN at h3;omega
      . show ((mid : Int) - 1).toNat - (lo : Int).toNat < (hi : Int).toNat - (lo : Int).toNat;omega
  . obtain rfl : lo = hi := by omega
    have hlt' : ¬ (lo : Int) < (lo : Int) := by omega
    go_wp2_with fail
    go_ret
    exact ⟨lo, rfl, ⟨Hlo.out, Hhi.out, hh⟩, hB⟩
theorem xZ (w : World) : Calls Tryz.prog 95 #[.bool true] w λ e w' => (∃ t, e = .returned t) /\ w = w' := by
 go_enter Tryz.func95, Tryz.ntmps95
 go_wp2_with fail
 go_end0
 exact ⟨⟨_, rfl⟩, rfl⟩
def yY (k v : List Int) : Nat := (wW (u8s k)).length + (wW (u8s v)).length
theorem wV (va vb : Value) (k v : List Int) (w : World) (hk : Src w va (u8s k)) (hv : Src w vb (u8s v)) (hkl : k.length <= 1073741824) (hvl : v.length <= 1073741824) :
 Calls Tryz.prog 104 #[va, vb] w λ e w' => e = .returned (.int .i64 (yY k v)) /\ Below w.heap.size w w' := by
 have hs0 : Src w (.slice none 0 0) [] := .inr ⟨rfl, rfl⟩;have HA := zB (wC (.slice none 0 0) va [] (u8s k) w hs0 hk (λ u h => by cases h) (yU _) (by decide) (by rw [zH]; omega));have Hv := zB hv;have hl1 := xU k.length (by omega);clear hs0 hk hv;go_enter Tryz.func104, Tryz.ntmps104
 go_wp2_with fail
 refine HA.out.mono ?_;rintro e w1 ⟨u, rfl, hown, hB⟩;have HA2 := zB (wC u vb _ (u8s v) w1 (Src.of_owns hown) (Hv.out.below hB) (by rw [List.nil_append]; exact mS (yU _)) (yU _) (by simp [wW, zH]; omega) (by rw [zH]; omega));clear hown
 go_wp2_with fail
 refine HA2.out.mono ?_;rintro e w2 ⟨u2, rfl, hown2, hB2⟩;obtain ⟨a, c, rfl, -⟩ := zP hown2;have hle : (([] ++ wW (u8s k)) ++ wW (u8s v)).length = yY k v := by simp [yY]
 rw [hle];clear hown2 hle
 go_wp2_with fail
 go_ret
 exact ⟨rfl, zF hB hB2⟩
def yO (bs : List Int) (i : Nat) : List Int := vQ i (yF bs.length) ++ (bs.drop (i * 8112)).take 8112
theorem sK (v : Value) (bs : List Int) (i : Nat) (hi : i * 8112 <= bs.length) (hl : bs.length <= 1073741824) (w : World) (hv : Src w v (u8s bs)) :
 Calls Tryz.prog 47 #[v, .int .i64 i] w λ e w' => ∃ u, e = .returned u /\ w'.ownsRow w.heap.size 5 1 u (yO bs i).length (u8s (yO bs i)) /\ Below w.heap.size w w' := by
 obtain ⟨a, c, rfl, hc⟩ := hv.shape;rw [zH] at hv hc ⊢;have Hv := zB hv;obtain ⟨m, hm⟩ : ∃ m, bs.length = m := ⟨_, rfl⟩;rw [hm] at hi hl Hv hc ⊢;have hpl := wJ m;have HP := zB λ w' => oU m (by omega) w';obtain ⟨k, hk⟩ : ∃ k, yF m = k := ⟨_, rfl⟩;rw [hk] at HP hpl;have hh := qP i k (by omega) (by omega);have HH := zB λ w' => head_any i k (by omega) (by omega) w';obtain ⟨d, hd⟩ : ∃ d, min 8112 (m - i * 8112) = d := ⟨_, rfl⟩;have hdI : (if ((i : Int) + 1) * 8112 < (m : Int) then ((i : Int) + 1) * 8112 else (m : Int)) = (i : Int) * 8112 + (d : Int) := by rw [<- hd]; split <;> omega
 have hd1 : d <= 8112 := by omega
 have hd2 : i * 8112 + d <= m := by omega
 have hpart : (List.take (i * 8112 + d) bs).drop (i * 8112) = (bs.drop (i * 8112)).take 8112 := by
  rw [List.drop_take, Nat.add_sub_cancel_left];apply List.take_eq_take_iff.2;rw [List.length_drop, hm];omega
 have Hpart := zB (zC hpart (zC hk hm));have HM := zB hm;have Hrun := zB (show ∀ w1, (Instr.sliceAt 52 (.slice a m c) (some (.int .i64 ((i : Int) * 8112))) (some (.int .i64 ((i : Int) * 8112 + (d : Int)))) none).run Tryz.prog w1 = .ok (partV (i * 8112) (i * 8112 + d) (.slice a m c)) w1 from λ w1 => by
  have := part_run 52 kU kX (a := a) (n := m) (c := c) (i * 8112) (i * 8112 + d) (by omega) (by omega) w1;rw [show ((i * 8112 : Nat) : Int) = (i : Int) * 8112 by omega, show ((i * 8112 + d : Nat) : Int) = (i : Int) * 8112 + (d : Int) by omega] at this;exact this)
 clear hpart hd hk hm hv;go_enter Tryz.func47, Tryz.ntmps47
 go_wp2_with fail
 refine zR 15 (λ j => if j = 3 then some (λ v _ => v = .int .i64 k) else if j = 4 then some (λ v w' => w'.ownsRow w.heap.size 5 1 v (vQ i k).length (u8s (vQ i k))) else none) fol (by kernel_rfl) (λ W hW hh => ?_);clear hh;simp only [fT];have hsz := hW.size
 repeat ((first | refine lxM ?_ | refine lxF ?_ | refine zM rfl ?_); simp only [zD])
 refine zW _ rfl (λ _ _ _ h _ => h) rfl (λ w1 hb1 hf1 => ?_) ?_
 . (unfold yE; go_simp; simp only [zN])
   refine (HP.out _).mono ?_;rintro e w' ⟨rfl, rfl⟩;exact ⟨_, rfl, Below.refl _ _, rfl⟩
 rintro v3 W3 hB3 rfl;simp only [zD];refine zW _ rfl (by exact λ _ _ _ h hb => yA h hb) rfl (λ w1 hb1 hf1 => ?_) ?_
 . have hb1' := hb1
   (unfold yE; go_simp; simp only [zN])
   refine (HH.out _).mono ?_;rintro e w' ⟨u, rfl, hown, hB⟩;exact ⟨u, rfl, hB, yC hown λ j hj => Nat.le_trans (Nat.le_trans hsz hb1'.size) (hown.lt j hj).1⟩
 rintro v4 W4 hB4 hown;simp only [zD]
 iterate 9 ((first | (refine lxM ?_) | refine lxF ?_); simp only [zD])
 refine zJ (partV (i * 8112) (i * 8112 + d) (.slice a m c)) rfl rfl (λ w1 hb1 hf1 => jV (.tmp 10) (.tmp 12) (.tmp 18) 52 rfl (Hrun.out w1)) ?_;simp only [zD];refine zZ ?_;have hB := zF hW (zF hB3 hB4);have hsrc : Src W4 (partV (i * 8112) (i * 8112 + d) (.slice a m c)) (u8s ((bs.drop (i * 8112)).take 8112)) := by
  have := partV_src (Hv.out.below hB) (i * 8112) (i * 8112 + d) (by omega) (by rw [zH, HM.out]; exact hd2)
  rwa [<- qF, <- tL, Hpart.out.1] at this
 obtain ⟨pa, pc, hpv, -⟩ := hsrc.shape;rw [hpv] at hsrc ⊢;have Hsrc := zB hsrc;have Hown := zB hown;have hs4 := hB.size;have hpl2 : (u8s ((bs.drop (i * 8112)).take 8112)).length <= 8112 := by rw [zH, List.length_take]; omega
 clear hsrc hown hpv hdI
 go_wp2_with (at_builtin; go_loud (refine xN rfl _ _ rfl w.heap.size _ _ _ _ (u8s ((bs.drop (i * 8112)).take 8112)) rfl Hown.out rfl Hsrc.out (yU _) (by omega) hs4 ?_; intro v2 w2 hown2 hg2; have Hg2 := zB hg2; have Hown2 := zB hown2; clear hown2 hg2))
 go_ret
 have hf := Hown2.out;rw [<- xI, zH] at hf;have e1 : vQ i k ++ (bs.drop (i * 8112)).take 8112 = yO bs i := by unfold yO; rw [HM.out, Hpart.out.2.1]
 rw [e1] at hf;have e2 : (vQ i k).length + ((bs.drop (i * 8112)).take 8112).length = (yO bs i).length := by rw [<- e1, List.length_append]
 rw [e2] at hf;exact ⟨_, rfl, hf, hB.trans Hg2.out⟩
theorem runR_at (x : Dsk) (first size : Nat) (k : Nat) : -1 <= (runR x first size k).2 /\ (runR x first size k).2 < k := by
 induction k with
 | zero => exact ⟨by show (-1 : Int) <= -1; decide, by show (-1 : Int) < 0; decide⟩
 | succ k ih =>
  unfold runR kN
  split
  . exact ⟨by show -1 <= (k : Int); omega, by show (k : Int) < ((k + 1 : Nat) : Int); omega⟩
  . exact ⟨ih.1, by have := ih.2; omega⟩
def fmtK (x : Dsk) (first size : Nat) : Nat := ((1 - (yS x first size).2) % 2).toNat
theorem fmtK_lt (x : Dsk) (first size : Nat) : fmtK x first size < 2 := by unfold fmtK; omega
def fmtE (x : Dsk) (first k : Nat) : Nat -> Dsk × Int
 | 0 => (x, 0)
 | i + 1 => if (fmtE x first k i).2 = 0 then (layX (fmtE x first k i).1 (first + (k + i) % 2) (yN 128), layE (fmtE x first k i).1 (first + (k + i) % 2) (yN 128)) else fmtE x first k i
def fmtW (x : Dsk) (first : Nat) : Nat -> Dsk × Bool
 | 0 => (x, true)
 | i + 1 => if (fmtW x first i).2 = true then (vP (fmtW x first i).1 (first + (2 + i)) (yN 128), vC (fmtW x first i).1) else fmtW x first i
def mY : Head := ⟨1, 0, 0, 0⟩
def xS (x : Dsk) (first size : Nat) : Dsk × Int :=
 if x.off then (x, 5) else
 if (fmtE x first (fmtK x first size) 2).2 ≠ 0 then fmtE x first (fmtK x first size) 2 else
 if (fmtW (fmtE x first (fmtK x first size) 2).1 first (size - 2)).2 = false then ((fmtW (fmtE x first (fmtK x first size) 2).1 first (size - 2)).1, 5) else
 if vC (fmtW (fmtE x first (fmtK x first size) 2).1 first (size - 2)).1 = false then (uC (fmtW (fmtE x first (fmtK x first size) 2).1 first (size - 2)).1, 5) else
 (layX (uC (fmtW (fmtE x first (fmtK x first size) 2).1 first (size - 2)).1) (first + 1) (yR mY size), layE (uC (fmtW (fmtE x first (fmtK x first size) 2).1 first (size - 2)).1) (first + 1) (yR mY size))
theorem nS (x : Dsk) (first k i : Nat) : (fmtE x first k i).1.dur.length = x.dur.length := by
 induction i with
 | zero => rfl
 | succ i ih =>
  unfold fmtE
  split
  . rw [sL]; exact ih
  . exact ih
theorem kG (x : Dsk) (first i : Nat) : (fmtW x first i).1.dur.length = x.dur.length := by
 induction i with
 | zero => rfl
 | succ i ih =>
  unfold fmtW
  split
  . rw [nJ]; exact ih
  . exact ih
theorem fmtE_stop {x : Dsk} {first k i K : Nat} (h : (fmtE x first k i).2 ≠ 0) (hK : i <= K) : fmtE x first k K = fmtE x first k i := by
 induction K with
 | zero => rw [Nat.le_zero.1 hK]
 | succ K ih =>
  rcases Nat.eq_or_lt_of_le hK with rfl | hK
  . rfl
  . have := ih (Nat.lt_succ_iff.1 hK);show (if (fmtE x first k K).2 = 0 then _ else fmtE x first k K) = _;rw [if_neg (by rw [this]; exact h), this]
theorem fmtW_stop {x : Dsk} {first i K : Nat} (h : (fmtW x first i).2 = false) (hK : i <= K) : fmtW x first K = fmtW x first i := by
 induction K with
 | zero => rw [Nat.le_zero.1 hK]
 | succ K ih =>
  rcases Nat.eq_or_lt_of_le hK with rfl | hK
  . rfl
  . have := ih (Nat.lt_succ_iff.1 hK);show (if (fmtW x first K).2 = true then _ else fmtW x first K) = _;rw [if_neg (by rw [this, h]; decide), this]
theorem format_any (b : Bks) (x : Dsk) (N first size : Nat) (h1 : 2 < size) (h2 : first + size <= x.dur.length) (w : World) (h : Sys w b x N) (hN : N <= 1099511000000) :
 Calls Tryz.prog 44 #[.pointer (some ⟨b.d, 0, none⟩), .int .i64 first, .int .i64 size] w λ e w' => e = .returned (.int .i64 (xS x first size).2) /\ wH w b (xS x first size).1 (N + 65540) w' := by
 have hlim := h.dsk.lim;have hmk : ∀ w, Sem.run Tryz.prog (Instr.makeSlice 52 (.int .i64 128) (.int .i64 128)) w = .ok (.slice (some ⟨w.heap.size, 0, none⟩) 128 128) (w.alloc (.cells (u8s (yN 128)).toArray 5)) := make_bytes 128 (by decide);have hb0 := zQ w (.cells #[.pointer (some ⟨b.d, 0, none⟩), .int .i64 first, .int .i64 size] 126);have g0 := World.alloc_heap_new w (.cells #[.pointer (some ⟨b.d, 0, none⟩), .int .i64 first, .int .i64 size] 126);have hlt := h.dsk.lt;have H := zB h;have HR := zB (ready_any b x first size _ (h.below hb0).dsk h1 h2);clear h;unfold vH at HR;go_enter Tryz.func44, Tryz.ntmps44
 go_wp2_with fail
 generalize World.alloc w _ = w1 at hb0 g0 HR ⊢;refine HR.out.mono ?_;rintro e w2 ⟨rfl, hB2⟩;have hB2 := zF hb0 hB2;have hf0 : ∀ o, x.off = o -> xS x first size = if o then (x, 5) else
  if (fmtE x first (fmtK x first size) 2).2 ≠ 0 then fmtE x first (fmtK x first size) 2 else
  if (fmtW (fmtE x first (fmtK x first size) 2).1 first (size - 2)).2 = false then ((fmtW (fmtE x first (fmtK x first size) 2).1 first (size - 2)).1, 5) else
  if vC (fmtW (fmtE x first (fmtK x first size) 2).1 first (size - 2)).1 = false then (uC (fmtW (fmtE x first (fmtK x first size) 2).1 first (size - 2)).1, 5) else
  (layX (uC (fmtW (fmtE x first (fmtK x first size) 2).1 first (size - 2)).1) (first + 1) (yR mY size), layE (uC (fmtW (fmtE x first (fmtK x first size) 2).1 first (size - 2)).1) (first + 1) (yR mY size)) := λ o h => by unfold xS; rw [h]
 obtain ⟨o, hoff⟩ : ∃ o, x.off = o := ⟨_, rfl⟩;have Hf0 := zB (hf0 o hoff);have hre : gI x = if o then 5 else 0 := by unfold gI; rw [hoff]
 rw [hre];clear hf0 hre hoff
 cases o
 . have gw2 := zK (show Below w1.heap.size w1 w2 by assumption) g0;rw [if_neg (by decide)];obtain ⟨K, hK⟩ : ∃ K, fmtK x first size = K := ⟨_, rfl⟩;have hf1 := Hf0.out.trans (if_neg (by decide));rw [hK] at hf1;have Hf1 := zB hf1;have hKl := fmtK_lt x first size;have hat := runR_at x first size 2;have hKd : ((1 - (yS x first size).2) % 2).toNat = K := hK;change -1 <= (yS x first size).2 /\ (yS x first size).2 < 2 at hat;have hB3 := zF hB2 (zQ w2 (.cells (u8s (yN 128)).toArray 5));have gz := World.alloc_heap_new w2 (.cells (u8s (yN 128)).toArray 5);have gw3 := zK (zQ w2 (.cells (u8s (yN 128)).toArray 5)) gw2;have HC := zB (counts_any b x first size (by omega) (by omega) (w2.alloc (.cells (u8s (yN 128)).toArray 5)) (H.out.below hB3).dsk H.out.ok.ok (H.out.below hB3).pkg);generalize yS x first size = cr at HC hat hKd;obtain ⟨⟨cg, ce, cf, cl⟩, at'⟩ := cr;unfold uU vH at HC;simp only at HC hat hKd;have hsz2 : w.heap.size < w2.heap.size := Nat.lt_of_lt_of_le (zI g0) (show w1.heap.size <= w2.heap.size from Below.size (by assumption));obtain ⟨zb, hzb⟩ : ∃ zb, w2.heap.size = zb := ⟨_, rfl⟩;rw [hK] at hKl;obtain ⟨p0, p1, p2⟩ : w2.cell? ⟨w.heap.size, 0, none⟩ = some (.pointer (some ⟨b.d, 0, none⟩)) /\ w2.cell? ⟨w.heap.size, 1, none⟩ = some (.int .i64 first) /\ w2.cell? ⟨w.heap.size, 2, none⟩ = some (.int .i64 size) := by simp [World.cell?, gw2]
   clear Hf0 hf1 hK gw2 g0 HR hzb
   go_wp2_with fail
   generalize w2.alloc (.cells (u8s (yN 128)).toArray 5) = w3 at hB3 gz gw3 HC ⊢;generalize w2.heap.size = zb at gz hsz2 ⊢;refine HC.out.mono ?_;clear HC p0 p1 p2;rintro e w4 ⟨rfl, hB4⟩;have hB4' := zF hB3 hB4;have gz4 := zK hB4 gz;have gw4 := zK hB4 gw3;have hB5 := zQ w4 (.cells #[.int .u64 cg, .int .u64 ce, .int .u64 cf, .int .u64 cl] 128);have gz5 := zK hB5 gz4;have gw5 := zK hB5 gw4;have hB5' := zF hB4' hB5;clear gz gw3 hB3 hB4 gz4 gw4 hB4'
   go_wp2_with fail
   rw [show (1 - at') % 2 = (K : Int) by omega];generalize World.alloc w4 _ = w5 at hB5' gz5 gw5 hB5 ⊢;have HS5 := zB (H.out.below hB5');have hwz : w.heap.size < w5.heap.size /\ zb < w5.heap.size := ⟨zI gw5, zI gz5⟩;have hpw : ∀ b' : Bks, (∀ j, b'.all j -> b.all j \/ w5.heap.size <= j) -> ¬ b'.all w.heap.size /\ ¬ b'.all zb := λ b' ha => ⟨λ h => (ha _ h).elim (λ h => by have := hlt _ h; omega) (λ h => by omega), λ h => (ha _ h).elim (λ h => by have := hlt _ h; omega) (λ h => by omega)⟩;have Hpw := zB hpw;clear hKd hpw hB5 hat hB2
   go_loopw [36] (λ vi wr => ∃ i : Nat, vi = .int .i64 i /\ i <= 2 /\ (fmtE x first K i).2 = 0 /\ wH w5 b (fmtE x first K i).1 (N + i) wr /\ wr.heap[w.heap.size]? = some (.cells #[.pointer (some ⟨b.d, 0, none⟩), .int .i64 first, .int .i64 size] 126 (0, 0)) /\ wr.heap[zb]? = some (.cells (u8s (yN 128)).toArray 5 (0, 0)))
    (λ vi _ => 2 - (intOf vi).toNat)
   case atStart => exact ⟨0, rfl, by omega, rfl, .same HS5.out (Below.refl _ _), gw5, gz5⟩
   case round =>
    obtain ⟨i, rfl, hi, hE, ⟨b2, hd2, ha2, hX2, hS2⟩, gp, gz⟩ := hrel;clear gw5 gz5;obtain ⟨p0, p1, p2⟩ : wr.cell? ⟨w.heap.size, 0, none⟩ = some (.pointer (some ⟨b.d, 0, none⟩)) /\ wr.cell? ⟨w.heap.size, 1, none⟩ = some (.int .i64 first) /\ wr.cell? ⟨w.heap.size, 2, none⟩ = some (.int .i64 size) := by simp [World.cell?, gp]
    by_cases hlt2 : i < 2
    . have hii : (i : Int) < 2 := by omega
      have hsrc : Src wr (.slice (some ⟨zb, 0, none⟩) 128 128) (u8s (yN 128)) := by
       have := qH (c := 128) gz (by rw [zH, wF]; exact Nat.le_refl _)
       rwa [zH, wF] at this
      have hm0 : (0 : Int) <= ((K : Int) + (i : Int)) % 2 := by omega
      have hm1 : ((K : Int) + (i : Int)) % 2 < 2 := by omega
      have hq := IntWalk.i64_in ((first : Int) + ((K : Int) + (i : Int)) % 2) (by omega);have HL := zB (lay_any b2 (fmtE x first K i).1 (N + i) first size (first + (K + i) % 2) (by rw [nS]; omega) (.slice (some ⟨zb, 0, none⟩) 128 128) (yN 128) (wF _) (uL _) wr hS2 (by omega) hsrc);unfold vH at HL;rw [hd2] at HL;have HSt := zB (show fmtE x first K (i + 1) = (layX (fmtE x first K i).1 (first + (K + i) % 2) (yN 128), layE (fmtE x first K i).1 (first + (K + i) % 2) (yN 128)) by
       show (if (fmtE x first K i).2 = 0 then _ else _) = _;rw [if_pos hE])
      have HX := zB (zC ha2 hX2);have HG := zB (zC gp gz);clear hsrc hS2 ha2 hX2 hE gp gz
      go_wp2_with fail
      rw [show (first : Int) + ((K : Int) + (i : Int)) % 2 = ((first + (K + i) % 2 : Nat) : Int) by omega];clear hq hm0 hm1;refine HL.out.mono ?_;rintro e w6 ⟨rfl, b6, hd6, ha6, hX6, hS6⟩;have hnp := Hpw.out b2 HX.out.1;have gp6 := hX6.heap HG.out.1 hnp.1;have gz6 := hX6.heap HG.out.2 hnp.2;have hS6' : Sys w6 b6 (layX (fmtE x first K i).1 (first + (K + i) % 2) (yN 128)) (N + (i + 1)) := hS6.mono (by unfold layN; split <;> omega)
      have hP6 : wH w5 b (fmtE x first K (i + 1)).1 (N + (i + 1)) w6 := by
       rw [HSt.out];exact .trans hd2 HX.out.1 HX.out.2 ⟨b6, hd6, ha6, hX6, hS6'⟩
      have HP6 := zB hP6;have HG6 := zB (zC gp6 gz6);clear hS6 hS6' ha6 hX6 gp6 gz6 hnp hP6 p0 p1 p2;rcases nQ (fmtE x first K i).1 (first + (K + i) % 2) (yN 128) with hE | hE
      . rw [hE];have HE := zB (show (fmtE x first K (i + 1)).2 = 0 by rw [HSt.out]; exact hE);clear hE
        go_wp2_with fail
        refine ⟨⟨i + 1, by simp, by omega, HE.out, HP6.out, HG6.out.1, HG6.out.2⟩, ?_⟩;show 2 - ((i : Int) + 1).toNat < 2 - (i : Int).toNat;omega
      . rw [hE];have he2 : (fmtE x first K (i + 1)).2 = 5 := by rw [HSt.out]; exact hE
        have hst := fmtE_stop (K := 2) (show (fmtE x first K (i + 1)).2 ≠ 0 by rw [he2]; decide) (by omega);have Hf2 := zB (Hf1.out.trans (if_pos (by rw [hst, he2]; decide)));have Hst := zB (zC hst he2);clear hE he2 hst
        go_wp2_with fail
        go_ret
        rw [Hf2.out, Hst.out.1, Hst.out.2];exact ⟨rfl, .mono (.of_below hB5' HP6.out) (by omega)⟩
    . obtain rfl : i = 2 := by omega
      have hii : ¬ ((2 : Nat) : Int) < 2 := by omega
      have Hf2 := zB (Hf1.out.trans (if_neg (by rw [hE]; decide)));obtain ⟨Y, hY⟩ : ∃ Y, (fmtE x first K 2).1 = Y := ⟨_, rfl⟩;rw [hY] at Hf2 hS2;have hYl : Y.dur.length = x.dur.length := by rw [<- hY, nS]
      have HX := zB (zC ha2 (zC hX2 hS2));have HG := zB (zC gp gz);clear ha2 hX2 hS2 gp gz p0 p1 p2 hE hY Hf1
      go_wp2_with fail
      go_loopw [15] (λ vi wr => ∃ i : Nat, vi = .int .i64 ((i : Int) + 2) /\ i <= size - 2 /\ (fmtW Y first i).2 = true /\ wH w5 b (fmtW Y first i).1 (N + 2 + i) wr /\ wr.heap[w.heap.size]? = some (.cells #[.pointer (some ⟨b.d, 0, none⟩), .int .i64 first, .int .i64 size] 126 (0, 0)) /\ wr.heap[zb]? = some (.cells (u8s (yN 128)).toArray 5 (0, 0)))
       (λ vi _ => size - (intOf vi).toNat)
      case atStart => exact ⟨0, rfl, by omega, rfl, ⟨b2, hd2, HX.out.1, HX.out.2.1, HX.out.2.2⟩, HG.out.1, HG.out.2⟩
      case round =>
       obtain ⟨i, rfl, hi, hE, ⟨b3, hd3, ha3, hX3, hS3⟩, gp, gz⟩ := hrel;clear HX HG hd2;by_cases hlt3 : i < size - 2
       . have hii : (i : Int) + 2 < (size : Int) := by omega
         have hsrc : Src wr (.slice (some ⟨zb, 0, none⟩) 128 128) (u8s (yN 128)) := by
          have := qH (c := 128) gz (by rw [zH, wF]; exact Nat.le_refl _)
          rwa [zH, wF] at this
         have HL := zB (iW b3 (fmtW Y first i).1 (N + 2 + i) (first + (2 + i)) (by rw [kG]; omega) (.slice (some ⟨zb, 0, none⟩) 128 128) (yN 128) (wF _) (uL _) wr hS3 (by omega) hsrc);rw [hd3] at HL;have HSt := zB (show fmtW Y first (i + 1) = (vP (fmtW Y first i).1 (first + (2 + i)) (yN 128), vC (fmtW Y first i).1) by
          show (if (fmtW Y first i).2 = true then _ else _) = _;rw [if_pos hE])
         have HX := zB (zC ha3 hX3);have HG := zB (zC gp gz);clear hsrc hS3 ha3 hX3 hE gp gz
         go_wp2_with fail
         rw [show (first : Int) + ((i : Int) + 2) = ((first + (2 + i) : Nat) : Int) by omega];refine HL.out.mono ?_;rintro e w6 ⟨rfl, b6, hd6, ha6, hX6, hS6⟩;have hnp := Hpw.out b3 HX.out.1;have gp6 := hX6.heap HG.out.1 hnp.1;have gz6 := hX6.heap HG.out.2 hnp.2;have hP6 : wH w5 b (fmtW Y first (i + 1)).1 (N + 2 + (i + 1)) w6 := by
          rw [HSt.out];exact .trans hd3 HX.out.1 HX.out.2 ⟨b6, hd6, ha6, hX6, hS6⟩
         have HP6 := zB hP6;have HG6 := zB (zC gp6 gz6);clear hS6 ha6 hX6 gp6 gz6 hnp hP6
         cases hgo : vC (fmtW Y first i).1
         . have hge : uO (fmtW Y first i).1 = 5 := by simp [uO, hgo]
           have he2 : (fmtW Y first (i + 1)).2 = false := by rw [HSt.out]; exact hgo
           have hst := fmtW_stop (K := size - 2) he2 (by omega);have Hf3 := zB (Hf2.out.trans (if_pos (by rw [hst, he2])));have Hst := zB hst;rw [hge];clear hge he2 hst hgo
           go_wp2_with fail
           go_ret
           rw [Hf3.out, Hst.out];exact ⟨rfl, .mono (.of_below hB5' HP6.out) (by omega)⟩
         . have hge : uO (fmtW Y first i).1 = 0 := by simp [uO, hgo]
           have HE := zB (show (fmtW Y first (i + 1)).2 = true by rw [HSt.out]; exact hgo);rw [hge];clear hge hgo
           go_wp2_with fail
           refine ⟨⟨i + 1, by simp; omega, by omega, HE.out, HP6.out, HG6.out.1, HG6.out.2⟩, ?_⟩;show size - ((i : Int) + 2 + 1).toNat < size - ((i : Int) + 2).toNat;omega
       . obtain rfl : i = size - 2 := by omega
         have hii : ¬ (((size - 2 : Nat) : Int) + 2 < (size : Int)) := by omega
         have Hf3 := zB (Hf2.out.trans (if_neg (by rw [hE]; decide)));obtain ⟨Z, hZ⟩ : ∃ Z, (fmtW Y first (size - 2)).1 = Z := ⟨_, rfl⟩;rw [hZ] at Hf3 hS3;have hZl : Z.dur.length = x.dur.length := by rw [<- hZ, kG, hYl]
         have HX := zB (zC ha3 hX3);have HG := zB gp;have HF := zB (gS b3 Z (N + 2 + (size - 2)) wr hS3);rw [hd3] at HF;clear hS3 ha3 hX3 hE gp gz hZ Hf2
         go_wp2_with fail
         refine HF.out.mono ?_;rintro e w6 ⟨rfl, b6, hd6, ha6, hX6, hS6⟩;have hnp := Hpw.out b3 HX.out.1;have gp6 := hX6.heap HG.out hnp.1;have hS6' : Sys w6 b6 (uC Z) (N + 2 + (size - 2)) := hS6.mono (by unfold mC; split <;> omega)
         obtain ⟨b7, hd7, ha7, hX7, hS7⟩ : wH w5 b (uC Z) (N + 2 + (size - 2)) w6 := .trans hd3 HX.out.1 HX.out.2 ⟨b6, hd6, ha6, hX6, hS6'⟩;have HG6 := zB gp6;have HS7 := zB (zC ha7 (zC hX7 hS7));clear hS6 hS6' ha6 hX6 gp6 hnp ha7 hX7 hS7
         cases hgo : vC Z
         . have hge : uO Z = 5 := by simp [uO, hgo]
           have Hf4 := zB (Hf3.out.trans (if_pos hgo));rw [hge];clear hge hgo
           go_wp2_with fail
           go_ret
           rw [Hf4.out];exact ⟨rfl, .mono (.of_below hB5' ⟨b7, hd7, HS7.out.1, HS7.out.2.1, HS7.out.2.2⟩) (by omega)⟩
         . have hge : uO Z = 0 := by simp [uO, hgo]
           have Hf4 := zB (Hf3.out.trans (if_neg (by rw [hgo]; decide)));rw [hge];clear hge hgo;obtain ⟨p0, p1, p2⟩ : w6.cell? ⟨w.heap.size, 0, none⟩ = some (.pointer (some ⟨b.d, 0, none⟩)) /\ w6.cell? ⟨w.heap.size, 1, none⟩ = some (.int .i64 first) /\ w6.cell? ⟨w.heap.size, 2, none⟩ = some (.int .i64 size) := by simp [World.cell?, HG6.out]
           have HW := zB (kR b7 (uC Z) (N + 2 + (size - 2)) first size mY ⟨by decide, by decide, by decide, by decide⟩ (by rw [sE, hZl]; omega) (by omega) w6 HS7.out.2.2 (by omega));unfold uU vH at HW;rw [hd7] at HW;simp only [mY] at HW
           go_wp2_with fail
           refine HW.out.mono ?_;rintro e w8 ⟨rfl, hP8⟩
           go_wp2_with fail
           go_ret
           rw [Hf4.out];exact ⟨rfl, .of_below hB5' (.mono (.trans hd7 HS7.out.1 HS7.out.2.1 hP8) (by unfold layN; split <;> omega))⟩
 . have Hf1 := zB (Hf0.out.trans (if_pos rfl));rw [if_pos rfl]
   go_wp2_with fail
   go_ret
   rw [Hf1.out];exact ⟨rfl, .mono (.same H.out hB2) (by omega)⟩
def Dsk.full (x : Dsk) : Prop := (∀ s ∈ x.dur, s.length = 128) /\ ∀ i, ∀ s ∈ x.cache i, s.length = 128
theorem wQ.full {w : World} {b : Bks} {x : Dsk} (h : wQ w b x) : x.full := ⟨h.s128, h.c128⟩
theorem Dsk.full.read {x : Dsk} (h : x.full) {i : Nat} {s : List Int} (hr : xP x i = some s) : s.length = 128 := by
 unfold xP at hr
 cases hc : (x.cache i).getLast? with
 | some s' =>
  rw [hc] at hr;injection hr with hr;subst hr;exact h.2 i s' (List.mem_of_getLast? hc)
 | none =>
  rw [hc] at hr
  split at hr
  . rename_i heq; cases heq
  . split at hr
    . cases hr
    . exact h.1 s (List.mem_of_getElem? hr)
theorem jN {x : Dsk} (h : x.full) (hk : x.ok) {i : Nat} {M t : List Int} (hr : wZ x i M = .ok t) : t.length = 124 /\ zO t := by
 obtain ⟨s, h1, h2, -⟩ := sealedR_ok hr;obtain ⟨-, rfl, -⟩ := pN h2;have := h.read h1;exact ⟨by rw [List.length_take, this]; rfl, (hk.read h1).take _⟩
theorem getN48 {t : List Int} (hl : t.length = 124) (hb : zO t) (at' : Nat) (h : at' + 6 <= 124) : getN t at' 6 < 281474976710656 := getN_lt hb at' 6 (by rw [hl]; exact h)
theorem gK {x : Dsk} (h : x.full) (hk : x.ok) {first size n : Nat} {p : qC} (hp : xR x first size n = .ok p) : p.data.length = min 104 (p.bytes - p.index * 104) /\ zO p.data /\ p.epoch < 281474976710656 := by
 unfold xR at hp
 split at hp
 . cases hp
 . rename_i t ht;obtain ⟨hl, hb⟩ := jN h hk ht
   split at hp
   . cases hp
   . split at hp
     . injection hp with hp;subst hp;refine ⟨?_, (hb.take _).drop _, getN48 hl hb 10 (by decide)⟩;simp only [oB, List.length_drop, List.length_take, hl, sJ];omega
     . cases hp
theorem recUp_full {x : Dsk} (h : x.full) (hk : x.ok) {first size n : Nat} {p0 : qC} (h0 : p0.data.length = min 104 p0.bytes) (hb : zO p0.data) {k : Nat} {d : List Int} (hr : oM x first size n p0 k = .ok d) : d.length = min (104 * (k + 1)) p0.bytes /\ zO d := by
 induction k generalizing d with
 | zero => injection hr with hr; subst hr; exact ⟨by rw [h0], hb⟩
 | succ k ih =>
  unfold oM at hr
  split at hr
  . cases hr
  . rename_i d' hd'
    split at hr
    . cases hr
    . rename_i p hp
      split at hr
      . cases hr
      . rename_i hc;injection hr with hr;subst hr;obtain ⟨h1, h2⟩ := ih hd';obtain ⟨h3, h4, -⟩ := gK h hk hp;have e1 : p.index = k + 1 := Classical.byContradiction λ e => hc (.inl e);have e2 : p.bytes = p0.bytes := Classical.byContradiction λ e => hc (.inr (.inl e));refine ⟨?_, h2.append h4⟩;rw [List.length_append, h1, h3, e1, e2];omega
theorem jQ {x : Dsk} (h : x.full) (hk : x.ok) {first size n least most : Nat} {d : List Int × Nat} (hr : xL x first size n least most = .ok d) : d.1.length <= 8192 /\ zO d.1 /\ least <= d.2 /\ d.2 <= most := by
 unfold xL at hr
 split at hr
 . cases hr
 . rename_i p hp
   split at hr
   . cases hr
   . rename_i hc
     split at hr
     . cases hr
     . rename_i d' hd';injection hr with hr;subst hr;have e1 : p.index = 0 := Classical.byContradiction λ e => hc (.inl e);have e2 : ¬ p.epoch < least := λ e => hc (.inr (.inl e));have e3 : ¬ most < p.epoch := λ e => hc (.inr (.inr e));obtain ⟨h1, h2, -⟩ := gK h hk hp;have h4 := (lY hp).2.2.2;obtain ⟨h5, h6⟩ := recUp_full h hk (by rw [h1, e1, Nat.zero_mul, Nat.sub_zero]) h2 hd';exact ⟨by show d'.length <= 8192; rw [h5]; omega, h6, by show least <= p.epoch; omega, by show p.epoch <= most; omega⟩
def Head.low (h : Head) : Prop := h.gen < 281474976710656 /\ h.epoch < 281474976710656 /\ h.first < 281474976710656 /\ h.least < 281474976710656
theorem slotR_low {x : Dsk} (h : x.full) (hk : x.ok) (first size k : Nat) : (wX x first size k).1.low := by
 unfold wX
 split
 . exact ⟨by decide, by decide, by decide, by decide⟩
 . rename_i t ht;obtain ⟨hl, hb⟩ := jN h hk ht
   split
   . exact ⟨getN48 hl hb 4 (by decide), getN48 hl hb 10 (by decide), getN48 hl hb 16 (by decide), getN48 hl hb 22 (by decide)⟩
   . exact ⟨by decide, by decide, by decide, by decide⟩
theorem runR_low {x : Dsk} (h : x.full) (hk : x.ok) (first size k : Nat) : (runR x first size k).1.low := by
 induction k with
 | zero => exact (show vW.low from ⟨by decide, by decide, by decide, by decide⟩)
 | succ k ih =>
  unfold runR kN
  split
  . exact slotR_low h hk first size k
  . exact ih
structure Scan where
 starts : List Nat
 epochs : List Nat
 next : Nat
 least : Nat
 go : Bool
def uX (x : Dsk) (first size most h0 : Nat) (s : Scan) : Scan := match xL x first size s.next s.least most with
 | .error _ => { s with go := false }
 | .ok d => if 281474976710656 < s.next + need d.1.length \/ size - 2 < s.next + need d.1.length - h0 then { s with go := false } else ⟨s.starts ++ [s.next], s.epochs ++ [d.2], s.next + need d.1.length, d.2, true⟩
def xY (x : Dsk) (first size most h0 l0 : Nat) : Nat -> Scan
 | 0 => ⟨[], [], h0, l0, true⟩
 | j + 1 => if (xY x first size most h0 l0 j).go then uX x first size most h0 (xY x first size most h0 l0 j) else xY x first size most h0 l0 j
structure Scan.ok (s : Scan) (size most h0 l0 j : Nat) : Prop where
 order : h0 <= s.next
 ring : s.next - h0 <= size - 2
 top : s.next <= 281474976710656
 long : s.go = true -> j <= s.next - h0
 rise : s.starts.Pairwise (· < ·)
 low : ∀ n ∈ s.starts, h0 <= n /\ n < s.next
 len : s.epochs.length = s.starts.length
 many : s.starts.length <= s.next - h0
 ep : ∀ n ∈ s.epochs, n <= most
theorem gE {x : Dsk} (h : x.full) (hk : x.ok) {first size most h0 l0 : Nat} (hh : h0 <= 281474976710656) (j : Nat) : (xY x first size most h0 l0 j).ok size most h0 l0 j := by
 induction j with
 | zero => exact ⟨Nat.le_refl _, (by show h0 - h0 <= _; omega), hh, λ _ => Nat.zero_le _, .nil, λ n hn => (by cases hn), rfl, Nat.zero_le _, λ n hn => (by cases hn)⟩
 | succ j ih =>
  unfold xY
  split
  . rename_i hgo;generalize xY x first size most h0 l0 j = s at ih hgo;unfold uX
    split
    . exact ⟨ih.order, ih.ring, ih.top, λ h => (by cases h), ih.rise, ih.low, ih.len, ih.many, ih.ep⟩
    . rename_i d hd;obtain ⟨h1, -, -, h4⟩ := jQ h hk hd;have hn := (qK _ h1).1
      split
      . exact ⟨ih.order, ih.ring, ih.top, λ h => (by cases h), ih.rise, ih.low, ih.len, ih.many, ih.ep⟩
      . rename_i hc;have c1 : ¬ 281474976710656 < s.next + need d.1.length := λ e => hc (.inl e);have c2 : ¬ size - 2 < s.next + need d.1.length - h0 := λ e => hc (.inr e);have o := ih.order;have l := ih.long hgo;have m := ih.many;refine ⟨by show h0 <= s.next + _; omega, by show s.next + _ - h0 <= _; omega, by show s.next + _ <= _; omega, λ _ => by show j + 1 <= s.next + _ - h0; omega, ?_, λ n hn => ?_, ?_, ?_, λ n hn => ?_⟩
        . refine List.pairwise_append.2 ⟨ih.rise, List.pairwise_singleton _ _, λ a ha b hb => ?_⟩;rw [List.mem_singleton.1 hb];exact (ih.low a ha).2
        . rcases List.mem_append.1 hn with hn | hn
          . have := ih.low n hn;exact ⟨this.1, by show n < s.next + _; omega⟩
          . rw [List.mem_singleton.1 hn];exact ⟨o, by show s.next < s.next + _; omega⟩
        . show (s.epochs ++ [d.2]).length = (s.starts ++ [s.next]).length;rw [List.length_append, List.length_append, ih.len];rfl
        . show (s.starts ++ [s.next]).length <= s.next + _ - h0;rw [List.length_append, List.length_singleton];omega
        . rcases List.mem_append.1 hn with hn | hn
          . exact ih.ep n hn
          . rw [List.mem_singleton.1 hn]; exact h4
  . rename_i hgo;exact ⟨ih.order, ih.ring, ih.top, λ h => absurd h hgo, ih.rise, ih.low, ih.len, ih.many, ih.ep⟩
theorem gD {x : Dsk} {first size most h0 l0 j K : Nat} (h : (xY x first size most h0 l0 j).go = false) (hK : j <= K) : xY x first size most h0 l0 K = xY x first size most h0 l0 j := by
 induction K with
 | zero => rw [Nat.le_zero.1 hK]
 | succ K ih =>
  rcases Nat.eq_or_lt_of_le hK with rfl | hK
  . rfl
  . have := ih (Nat.lt_succ_iff.1 hK);show (if (xY x first size most h0 l0 K).go then _ else xY x first size most h0 l0 K) = _;rw [if_neg (by rw [this, h]; decide), this]
def scanR (x : Dsk) (first size : Nat) (h : Head) : Scan := xY x first size h.epoch h.first h.least (size - 1)
theorem scanR_of {x : Dsk} (h : x.full) (hk : x.ok) {first size : Nat} {hd : Head} (hh : hd.first <= 281474976710656) (h2 : 2 < size) {j : Nat} (hs : (xY x first size hd.epoch hd.first hd.least j).go = true) (hst : (uX x first size hd.epoch hd.first (xY x first size hd.epoch hd.first hd.least j)).go = false) : scanR x first size hd = { xY x first size hd.epoch hd.first hd.least j with go := false } := by
 have o := gE h hk (most := hd.epoch) (l0 := hd.least) (first := first) (size := size) hh j;have h1 := o.long hs;have h3 := o.ring;have e : xY x first size hd.epoch hd.first hd.least (j + 1) = uX x first size hd.epoch hd.first (xY x first size hd.epoch hd.first hd.least j) := by
  show (if _ then _ else _) = _;rw [if_pos hs]
 unfold scanR;rw [gD (j := j + 1) (by rw [e]; exact hst) (by omega), e];generalize xY x first size hd.epoch hd.first hd.least j = s at hst ⊢;unfold uX at hst ⊢
 split
 . rfl
 . rename_i d hd;rw [hd] at hst;simp only at hst
   split
   . rfl
   . rename_i hc;rw [if_neg hc] at hst
     cases hst
def rB (x : Dsk) (first size : Nat) (h : Head) : LogS := ⟨vW, (scanR x first size h).next, (scanR x first size h).starts, (scanR x first size h).epochs, false⟩
def jE (h : Head) : Head := ⟨h.gen + 1, h.epoch + 1, h.first, h.least⟩
def yT (x : Dsk) (first size : Nat) : Dsk × Int × LogS :=
 if x.off then (x, 5, rB x first size vW) else
 if (yS x first size).2 < 0 then (x, 50, rB x first size vW) else
 if (yS x first size).1.gen = 281474976710655 \/ (yS x first size).1.epoch = 281474976710655 then (x, 6, rB x first size vW) else
 (qU x first size (rB x first size (yS x first size).1) (jE (yS x first size).1), tC x first size (rB x first size (yS x first size).1) (jE (yS x first size).1), tZ x first size (rB x first size (yS x first size).1) (jE (yS x first size).1))
def uM (s : Scan) : LogS := ⟨vW, s.next, s.starts, s.epochs, false⟩
def vN (w : World) (b : Bks) (x : Dsk) (N first size : Nat) (e : Ending) (w' : World) : Prop :=
 if (yT x first size).2.1 = 0 then ∃ (b' : Bks) (k' : LBk), e = .returned (.tuple #[.pointer (some ⟨k'.l, 0, none⟩), .int .i64 0]) /\ b'.d = b.d /\ (∀ j, b'.all j \/ k'.all j -> b.all j \/ w.heap.size <= j) /\ Ext b.all w w' /\ LSys w' b' (yT x first size).1 (N + 1) first size k' (yT x first size).2.2
 else e = .returned (.tuple #[.pointer none, .int .i64 (yT x first size).2.1]) /\ wH w b (yT x first size).1 (N + 1) w'
theorem open_any (b : Bks) (x : Dsk) (N first size : Nat) (h1 : 2 < size) (h2 : first + size <= x.dur.length) (w : World) (h : Sys w b x N) (hN : N <= 1099511000000) :
 Calls Tryz.prog 45 #[.pointer (some ⟨b.d, 0, none⟩), .int .i64 first, .int .i64 size] w λ e w' => vN w b x N first size e w' := by
 have hlim := h.dsk.lim;have hb0 := zQ w (.cells #[.pointer (some ⟨b.d, 0, none⟩), .int .i64 first, .int .i64 size] 126);have g0 := World.alloc_heap_new w (.cells #[.pointer (some ⟨b.d, 0, none⟩), .int .i64 first, .int .i64 size] 126);have hlt := h.dsk.lt;have H := zB h;have HR := zB (ready_any b x first size _ (h.below hb0).dsk h1 h2);have hful := h.dsk.full;have hkk := h.ok.ok;have HFK := zB (zC hful hkk);have Hlow := zB (show (yS x first size).1.low from runR_low hful hkk first size 2);clear h hful hkk;unfold vH at HR;go_enter Tryz.func45, Tryz.ntmps45
 go_wp2_with fail
 go_step3
 go_wp2_with fail
 generalize World.alloc w _ = w1 at hb0 g0 HR ⊢;refine HR.out.mono ?_;rintro e w2 ⟨rfl, hB2⟩;have gp := zK hB2 g0;have hB2 := zF hb0 hB2;have hf0 : ∀ o, x.off = o -> yT x first size = if o then (x, 5, rB x first size vW) else
  if (yS x first size).2 < 0 then (x, 50, rB x first size vW) else
  if (yS x first size).1.gen = 281474976710655 \/ (yS x first size).1.epoch = 281474976710655 then (x, 6, rB x first size vW) else
  (qU x first size (rB x first size (yS x first size).1) (jE (yS x first size).1), tC x first size (rB x first size (yS x first size).1) (jE (yS x first size).1), tZ x first size (rB x first size (yS x first size).1) (jE (yS x first size).1)) := λ o h => by unfold yT; rw [h]
 obtain ⟨o, hoff⟩ : ∃ o, x.off = o := ⟨_, rfl⟩;have Hf0 := zB (hf0 o hoff);have hre : gI x = if o then 5 else 0 := by unfold gI; rw [hoff]
 rw [hre];clear hf0 hre hoff HR g0
 cases o
 . rw [if_neg (by decide)];have HC := zB (counts_any b x first size (by omega) (by omega) w2 (H.out.below hB2).dsk H.out.ok.ok (H.out.below hB2).pkg);have Hf1 := zB (Hf0.out.trans (if_neg (by decide)));generalize yS x first size = cr at HC Hf1 Hlow;obtain ⟨⟨cg, ce, cf, cl⟩, at'⟩ := cr;unfold uU vH at HC;simp only at HC Hf1 Hlow;obtain ⟨p0, p1, p2⟩ : w2.cell? ⟨w.heap.size, 0, none⟩ = some (.pointer (some ⟨b.d, 0, none⟩)) /\ w2.cell? ⟨w.heap.size, 1, none⟩ = some (.int .i64 first) /\ w2.cell? ⟨w.heap.size, 2, none⟩ = some (.int .i64 size) := by simp [World.cell?, gp]
   clear Hf0
   go_wp2_with fail
   refine HC.out.mono ?_;clear HC p0 p1 p2;rintro e w4 ⟨rfl, hB4⟩;have gp4 := zK hB4 gp;have hBw4 := zF hB2 hB4;have hB5 := zQ w4 (.cells #[.int .u64 cg, .int .u64 ce, .int .u64 cf, .int .u64 cl] 128);have gp5 := zK hB5 gp4;have gh5 := World.alloc_heap_new w4 (.cells #[.int .u64 cg, .int .u64 ce, .int .u64 cf, .int .u64 cl] 128);have hB5' := zF hB2 (zF hB4 hB5);obtain ⟨l1, l2, l3, l4⟩ := Hlow.out;simp only at l1 l2 l3 l4;clear gp;by_cases c1 : at' < 0
   . have Hf2 := zB (Hf1.out.trans (if_pos c1))
     go_wp2_with fail
     go_ret2
     unfold vN;rw [Hf2.out, if_neg (show ¬ (50 : Int) = 0 by decide)];exact ⟨rfl, .mono (.same H.out hB5') (by omega)⟩
   . have Hf2 := zB (Hf1.out.trans (if_neg c1));clear Hf1 hB4;by_cases c2 : cg = 281474976710655
     . have Hf3 := zB (Hf2.out.trans (if_pos (.inl c2)));subst c2
       go_wp2_with fail
       go_ret2
       unfold vN;rw [Hf3.out, if_neg (show ¬ (6 : Int) = 0 by decide)];exact ⟨rfl, .mono (.same H.out hB5') (by omega)⟩
     . have c2' : ((cg : Int) == 281474976710655) = false := by rw [beq_eq_false_iff_ne]; omega
       by_cases c3 : ce = 281474976710655
       . have Hf3 := zB (Hf2.out.trans (if_pos (.inr c3)));subst c3
         go_wp2_with fail
         go_ret2
         unfold vN;rw [Hf3.out, if_neg (show ¬ (6 : Int) = 0 by decide)];exact ⟨rfl, .mono (.same H.out hB5') (by omega)⟩
       . have c3' : ((ce : Int) == 281474976710655) = false := by rw [beq_eq_false_iff_ne]; omega
         have Hf3 := zB (Hf2.out.trans (if_neg λ h => h.elim c2 c3));clear Hf2 Hlow;obtain ⟨p0, p1, p2⟩ : w4.cell? ⟨w.heap.size, 0, none⟩ = some (.pointer (some ⟨b.d, 0, none⟩)) /\ w4.cell? ⟨w.heap.size, 1, none⟩ = some (.int .i64 first) /\ w4.cell? ⟨w.heap.size, 2, none⟩ = some (.int .i64 size) := by simp [World.cell?, gp4]
         have hw4 := zI gp4;clear gp4
         go_wp2_with fail
         go_step3
         go_wp2_with fail
         obtain ⟨hbl, glh, gll⟩ := qV w4 (.cells #[.int .u64 cg, .int .u64 ce, .int .u64 cf, .int .u64 cl] 128) (.cells #[.pointer (some ⟨b.d, 0, none⟩), .int .i64 first, .int .i64 size, .int .u64 0, .int .u64 0, .int .u64 0, .int .u64 0, .int .u64 cf, .slice none 0 0, .slice none 0 0, .bool false] 134);have glp := zK (zQ _ (.cells #[.pointer (some ⟨b.d, 0, none⟩), .int .i64 first, .int .i64 size, .int .u64 0, .int .u64 0, .int .u64 0, .int .u64 0, .int .u64 cf, .slice none 0 0, .slice none 0 0, .bool false] 134)) gp5;have hBl := zF hBw4 hbl;have hwls : ((w4.alloc (.cells #[.int .u64 cg, .int .u64 ce, .int .u64 cf, .int .u64 cl] 128)).alloc (.cells #[.pointer (some ⟨b.d, 0, none⟩), .int .i64 first, .int .i64 size, .int .u64 0, .int .u64 0, .int .u64 0, .int .u64 0, .int .u64 cf, .slice none 0 0, .slice none 0 0, .bool false] 134)).heap.size = w4.heap.size + 1 + 1 := by simp
         generalize World.alloc (World.alloc w4 _) _ = wl at hbl glh gll glp hBl hwls ⊢;obtain ⟨k, hk⟩ : ∃ k : LBk, k = ⟨w4.heap.size + 1, .slice none 0 0, .slice none 0 0⟩ := ⟨_, rfl⟩;have hkl : k.l = w4.heap.size + 1 := by rw [hk]
         have hw42 : w.heap.size <= w4.heap.size := Nat.le_of_lt hw4;have hkall : ∀ j, k.all j -> j = w4.heap.size + 1 := by
          rw [hk];rintro j (h | h | h)
          . exact h
          . cases h
          . cases h
         have hS0 : LSys wl b x N first size k (uM ⟨[], [], cf, cl, true⟩) := by
          refine ⟨H.out.below hBl, ?_, λ j hj hb => ?_, h1, h2⟩
          . rw [hk];refine ⟨gll, World.ownsRow_nil _ _ _ _, World.ownsRow_nil _ _ _ _, (by intro h; cases h), (by intro h; cases h), (by intro j h; cases h), λ j hj => ?_⟩;have := hkall j (by rw [hk]; exact hj);have := H.out.pkg.lt;omega
          . have := hkall j hj;have := hlt j hb;omega
         have HS0 := zB (zC hS0 hkall);have Hwl := zB hwls;have Hh := zB hk;clear hS0 hkall hwls gll hk gp5 gh5 hB5 hB5' hbl p0 p1 p2;rw [<- hkl];have Hkl := zB hkl;clear hkl
         go_loopw [13] (λ vl wr => ∃ j : Nat, (xY x first size ce cf cl j).go = true /\ vl = .int .u64 (xY x first size ce cf cl j).least /\ tU wl b k x N first size (uM (xY x first size ce cf cl j)) wr /\ wr.heap[w.heap.size]? = some (.cells #[.pointer (some ⟨b.d, 0, none⟩), .int .i64 first, .int .i64 size] 126 (0, 0)) /\ wr.heap[w4.heap.size]? = some (.cells #[.int .u64 cg, .int .u64 ce, .int .u64 cf, .int .u64 cl] 128 (0, 0)))
          (λ _ wr => 281474976710657 - (intOf ((wr.cell? ⟨k.l, 7, none⟩).getD undef)).toNat)
         case atStart => exact ⟨0, rfl, rfl, .same HS0.out.1 (Below.refl _ _), glp, glh⟩
         case round =>
          obtain ⟨j, hgo, rfl, ⟨b2, k2, hd2, hl2, ha2, hX2, hS2⟩, gp, gh⟩ := hrel;clear glp glh;have hok := gE HFK.out.1 HFK.out.2 (first := first) (size := size) (most := ce) (l0 := cl) (show cf <= 281474976710656 by omega) j;have Hsu := zB (show xY x first size ce cf cl j = xY x first size ce cf cl j from rfl);obtain ⟨s, hs⟩ : ∃ s, xY x first size ce cf cl j = s := ⟨_, rfl⟩;rw [hs] at hgo hS2 hok ⊢;have Hs := zB hs;have hcs := hS2.log.cs;rw [hl2, hd2] at hcs;obtain ⟨y0, y1, y2, -, y4, -, -, y7, y8, y9, -, -⟩ := hcs;obtain ⟨p0, p1, p2⟩ : wr.cell? ⟨w.heap.size, 0, none⟩ = some (.pointer (some ⟨b.d, 0, none⟩)) /\ wr.cell? ⟨w.heap.size, 1, none⟩ = some (.int .i64 first) /\ wr.cell? ⟨w.heap.size, 2, none⟩ = some (.int .i64 size) := by simp [World.cell?, gp]
          obtain ⟨q0, q1, q2, q3⟩ := box4 gh;have y7 : wr.cell? ⟨k.l, 7, none⟩ = some (.int .u64 (s.next : Int)) := y7;obtain ⟨n, hn⟩ : ∃ n, s.next = n := ⟨_, rfl⟩;rw [hn] at y7;have hnt := hok.top;rw [hn] at hnt;have HRc := zB λ w' (hw : Below wr.heap.size wr w') => record_any b2 x first size n s.least ce (by omega) h1 h2 w' (hS2.below hw).sys.dsk HFK.out.2 (hS2.below hw).sys.pkg;unfold vH at HRc;rw [hd2] at HRc;have HS2 := zB (zC hS2 (zC ha2 hX2));have HGh := zB (zC gp gh);have Hn := zB hn;clear hS2 ha2 hX2 gp gh hs Hsu hn
          go_wp2_with fail
          have hstep : uX x first size ce cf s = match xL x first size n s.least ce with
           | .error _ => { s with go := false }
           | .ok d => if 281474976710656 < n + need d.1.length \/ size - 2 < n + need d.1.length - cf then { s with go := false } else ⟨s.starts ++ [n], s.epochs ++ [d.2], n + need d.1.length, d.2, true⟩ := by
           unfold uX;rw [Hn.out]
           all_goals cases xL x first size n s.least ce <;> rfl
          have Hstep := zB hstep;have hrful := λ d hd => jQ HFK.out.1 HFK.out.2 (first := first) (size := size) (n := n) (least := s.least) (most := ce) (d := d) hd;generalize xL x first size n s.least ce = rc at HRc Hstep hrful;clear hstep
          cases rc with
          | error c =>
           refine zY (λ i => if i = 8 then some (λ v _ => c ≠ 0 /\ v = .tuple #[.slice none 0 0, .int .u64 0, .int .i64 c]) else none) fol (by kernel_rfl) (λ W hW hh => ?_);clear hh;have t0 := zV hW p0;have t1 := zV hW p1;have t2 := zV hW p2;have t7 := zV hW y7;have t5 := zV hW q1
           repeat ((first | refine lxM ?_ | refine lxF ?_ | refine zM rfl ?_); simp only [zD])
           refine zW _ rfl (λ _ _ _ h _ => h) rfl (λ w1 hb1 hf1 => ?_) ?_
           . (unfold yE; go_simp; simp only [zN])
             refine (HRc.out _ (zF hW hb1)).mono ?_;rintro e w' ⟨hpost, hbb⟩;obtain ⟨hc, rfl⟩ : c ≠ 0 /\ e = _ := hpost;exact ⟨_, rfl, hbb, hc, rfl⟩
           rintro v8 W8 hB8 ⟨hc, rfl⟩;simp only [zD]
           repeat ((first | refine lxM ?_ | refine lxF ?_ | refine zM rfl ?_); simp only [zD])
           refine zZ ?_;clear t0 t1 t2 t7 t5;have hW8 := zF hW hB8;have y7' := zG hW8 y7;have HNd := zB λ w' => qL 0 (by decide) w'
           go_wp2_with fail
           refine zY (λ i => if i = 6 then some (λ v _ => v = .int .i64 (need 0)) else none) fol (by kernel_rfl) (λ V hV hh => ?_);clear hh;have hnd := (qK 0 (by omega)).2;have e1 := IntWalk.u64_in ((n : Int) + (need 0 : Int)) (by omega);have t7 := zV hV y7'
           repeat ((first | refine lxM ?_ | refine lxF ?_ | refine zM rfl ?_); simp only [zD])
           refine zW _ rfl (λ _ _ _ h _ => h) rfl (λ w1 hb1 hf1 => ?_) ?_
           . (unfold yE; go_simp; simp only [zN])
             refine (HNd.out _).mono ?_;rintro e w' ⟨rfl, rfl⟩;exact ⟨_, rfl, Below.refl _ _, rfl⟩
           rintro v9 W9 hB9 rfl;simp only [zD]
           repeat ((first | refine lxM ?_ | refine lxF ?_ | refine zM rfl ?_); simp only [zD])
           refine zZ ?_;clear t7;have hW9 := zF hW8 (zF hV hB9);have hcb : (c != 0) = true := by simp [hc]
           have Hend := zB (scanR_of HFK.out.1 HFK.out.2 (first := first) (size := size) (hd := ⟨cg, ce, cf, cl⟩) (show cf <= 281474976710656 by omega) h1 (j := j) (by rw [Hs.out]; exact hgo) (by rw [Hs.out, Hstep.out]));rw [show xY x first size (⟨cg, ce, cf, cl⟩ : Head).epoch (⟨cg, ce, cf, cl⟩ : Head).first (⟨cg, ce, cf, cl⟩ : Head).least j = s from Hs.out] at Hend;clear y0 y1 y2 y4 y7 y8 y9 p0 p1 p2 q0 q1 q2 q3 y7';have gh9 := zK hW9 HGh.out.2;obtain ⟨z0, z1, z2, z3⟩ := box4 gh9;have fz : ∀ j, W9.frozen? ⟨w4.heap.size, j, none⟩ = false := λ j => by simp [World.frozen?, gh9]
           have eg := IntWalk.u64_in ((cg : Int) + 1) (by omega);have ee := IntWalk.u64_in ((ce : Int) + 1) (by omega);have hX10 := (Ext.setCell (S := (· = w4.heap.size)) (w := W9) (p := ⟨w4.heap.size, 0, none⟩) rfl (.int .u64 ((cg : Int) + 1))).trans (Ext.setCell (S := (· = w4.heap.size)) (p := ⟨w4.heap.size, 1, none⟩) rfl (.int .u64 ((ce : Int) + 1))) (λ _ _ h => h);have hLS9 := HS2.out.1.below hW9;have hbl4 : wl.heap.size = w4.heap.size + 1 + 1 := Hwl.out;have hnb : 10 <= w4.heap.size /\ ¬ b2.all w4.heap.size /\ ¬ k2.all w4.heap.size := by
            have h10 := H.out.pkg.lt;have hno : ¬ ((b.all w4.heap.size \/ k.all w4.heap.size) \/ wl.heap.size <= w4.heap.size) := by
             rintro ((h | h) | h)
             . have := hlt _ h; omega
             . have := HS0.out.2 _ h; omega
             . omega
            exact ⟨by omega, λ h => hno (HS2.out.2.1 _ (.inl h)), λ h => hno (HS2.out.2.1 _ (.inr h))⟩
           have H10 := zB (zC (hLS9.ext hX10 λ j e => by subst e; exact hnb) ((Ext.of_below hW9).trans hX10 λ _ _ h => h));have HT := zB λ W (hW : LSys W b2 x N first size k2 (uM s)) => lH b2 x N first size k2 (uM s) ⟨cg + 1, ce + 1, cf, cl⟩ W hW (by omega) (by show cg + 1 < _; omega) (by show ce + 1 < _; omega) (by show cf <= _; omega) hok.rise hok.len (by have h1 := hok.many; have h2 := hok.ring; show s.starts.length <= _; omega) (λ m hm => Nat.lt_of_le_of_lt (hok.ep m hm) l2);unfold uU at HT;simp only at HT;rw [hl2] at HT;have Hbl := zB hnb;clear hX10 hLS9 hnb hbl4 gh9
           go_wp2_with fail
           have hLS10 := H10.out.1;have hX10 := H10.out.2;generalize World.setCell (World.setCell W9 _ _) _ _ = W10 at hLS10 hX10 ⊢;clear z0 z1 z2 z3 fz;refine (HT.out W10 hLS10).mono ?_;rintro e W11 ⟨rfl, hP11⟩;have e1 : Ext b.all w wr := (Ext.of_below hBl).trans HS2.out.2.2 λ j hj h => h.elim id λ h => by have := HS0.out.2 j h; omega
           have e2 : Ext b.all w W10 := e1.trans hX10 λ j hj e => by subst e; omega
           obtain ⟨b3, k3, hd3, hl3, ha3, hX3, hS3⟩ := hP11;have hj2 : ∀ j, (b2.all j \/ k2.all j) -> b.all j \/ w.heap.size <= j := λ j hj => by
            rcases HS2.out.2.1 j hj with (h | h) | h
            . exact .inl h
            . have := HS0.out.2 j h; right; omega
            . have := Hwl.out; right; omega
           have e3 : Ext b.all w W11 := e2.trans hX3 λ j hj h => (hj2 j h).elim id λ h => by omega
           have hj3 : ∀ j, (b3.all j \/ k3.all j) -> b.all j \/ w.heap.size <= j := λ j hj => by
            rcases ha3 j hj with h | h
            . exact hj2 j h
            . have := e2.size; right; omega
           have hop : rB x first size ⟨cg, ce, cf, cl⟩ = uM s := by
            unfold rB uM;rw [Hend.out]
           have hf3 := Hf3.out;rw [hop] at hf3;change yT x first size = (qU x first size (uM s) ⟨cg + 1, ce + 1, cf, cl⟩, tC x first size (uM s) ⟨cg + 1, ce + 1, cf, cl⟩, tZ x first size (uM s) ⟨cg + 1, ce + 1, cf, cl⟩) at hf3;have hFin : (tC x first size (uM s) ⟨cg + 1, ce + 1, cf, cl⟩ = 0 -> vN w b x N first size (.returned (.tuple #[.pointer (some ⟨k.l, 0, none⟩), .int .i64 0])) W11) /\ (tC x first size (uM s) ⟨cg + 1, ce + 1, cf, cl⟩ = 5 -> vN w b x N first size (.returned (.tuple #[.pointer none, .int .i64 5])) W11) := by
            unfold vN;rw [hf3];simp only;refine ⟨λ h => ?_, λ h => ?_⟩
            . rw [if_pos h];exact ⟨b3, k3, by rw [hl3, hl2], hd3.trans hd2, hj3, e3, hS3.mono (qG _ _ _ _ _ _)⟩
            . rw [if_neg (by rw [h]; decide), h];exact ⟨rfl, b3, hd3.trans hd2, λ j hj => hj3 j (.inl hj), e3, hS3.sys.mono (qG _ _ _ _ _ _)⟩
           have HFin := zB hFin;clear e1 e2 e3 hj2 hj3 hS3 hX3 ha3 hX10 hLS10 hop hf3 hFin;rcases qX x first size (uM s) ⟨cg + 1, ce + 1, cf, cl⟩ with hE | hE
           . rw [hE];have HE := zB hE;clear hE
             go_wp2_with fail
             go_ret2
             exact HFin.out.1 HE.out
           . rw [hE];have HE := zB hE;clear hE
             go_wp2_with fail
             go_ret2
             exact HFin.out.2 HE.out
          | ok d =>
           obtain ⟨dl, ep⟩ := d;obtain ⟨hd1, -, hd3', hd4⟩ := hrful (dl, ep) rfl;simp only at hd1 hd3' hd4;obtain ⟨m, hm⟩ : ∃ m, dl.length = m := ⟨_, rfl⟩;rw [hm] at hd1;have hst2 := Hstep.out;simp only [hm] at hst2;have Hst2 := zB hst2;refine zY (λ i => if i = 8 then some (λ v _ => ∃ g o c, v = .tuple #[.slice (some ⟨g, o, none⟩) m c, .int .u64 ep, .int .i64 0]) else none) fol (by kernel_rfl) (λ W hW hh => ?_);clear hh hst2 Hstep;have Hm := zB hm;clear hm;have t0 := zV hW p0;have t1 := zV hW p1;have t2 := zV hW p2;have t7 := zV hW y7;have t5 := zV hW q1
           repeat ((first | refine lxM ?_ | refine lxF ?_ | refine zM rfl ?_); simp only [zD])
           refine zW _ rfl (λ _ _ _ h _ => h) rfl (λ w1 hb1 hf1 => ?_) ?_
           . (unfold yE; go_simp; simp only [zN])
             refine (HRc.out _ (zF hW hb1)).mono ?_;rintro e w' ⟨⟨u, rfl, hwin⟩, hbb⟩;obtain ⟨g, o, c, -, rfl, -⟩ := hwin;exact ⟨_, rfl, hbb, g, o, c, by rw [zH, Hm.out]⟩
           rintro v8 W8 hB8 ⟨rg, ro, rc', rfl⟩;simp only [zD]
           repeat ((first | refine lxM ?_ | refine lxF ?_ | refine zM rfl ?_); simp only [zD])
           refine zZ ?_;clear t0 t1 t2 t7 t5;have hW8 := zF hW hB8;have y7' := zG hW8 y7;have HNd := zB λ w' => qL m (by omega) w'
           go_wp2_with fail
           refine zY (λ i => if i = 6 then some (λ v _ => v = .int .i64 (need m)) else none) fol (by kernel_rfl) (λ V hV hh => ?_);clear hh;have hnd := (qK m (by omega)).2;have e1 := IntWalk.u64_in ((n : Int) + (need m : Int)) (by omega);have t7 := zV hV y7'
           repeat ((first | refine lxM ?_ | refine lxF ?_ | refine zM rfl ?_); simp only [zD])
           refine zW _ rfl (λ _ _ _ h _ => h) rfl (λ w1 hb1 hf1 => ?_) ?_
           . (unfold yE; go_simp; simp only [zN])
             refine (HNd.out _).mono ?_;rintro e w' ⟨rfl, rfl⟩;exact ⟨_, rfl, Below.refl _ _, rfl⟩
           rintro v9 W9 hB9 rfl;simp only [zD]
           repeat ((first | refine lxM ?_ | refine lxF ?_ | refine zM rfl ?_); simp only [zD])
           refine zZ ?_;clear t7;have hW9 := zF hW8 (zF hV hB9);have hnd1 := (qK m hd1).1;obtain ⟨K, hK⟩ : ∃ K, need m = K := ⟨_, rfl⟩;rw [hK] at e1 hnd hnd1 Hst2 ⊢;by_cases c5 : 281474976710656 < n + K
           . have c5' : (281474976710656 : Int) < (n : Int) + (K : Int) := by omega
             have Hend := zB (scanR_of HFK.out.1 HFK.out.2 (first := first) (size := size) (hd := ⟨cg, ce, cf, cl⟩) (show cf <= 281474976710656 by omega) h1 (j := j) (by rw [Hs.out]; exact hgo) (by rw [Hs.out, Hst2.out, if_pos (.inl c5)]));rw [show xY x first size (⟨cg, ce, cf, cl⟩ : Head).epoch (⟨cg, ce, cf, cl⟩ : Head).first (⟨cg, ce, cf, cl⟩ : Head).least j = s from Hs.out] at Hend;clear y0 y1 y2 y4 y7 y8 y9 p0 p1 p2 q0 q1 q2 q3 y7' c5 hK;have gh9 := zK hW9 HGh.out.2;obtain ⟨z0, z1, z2, z3⟩ := box4 gh9;have fz : ∀ j, W9.frozen? ⟨w4.heap.size, j, none⟩ = false := λ j => by simp [World.frozen?, gh9]
             have eg := IntWalk.u64_in ((cg : Int) + 1) (by omega);have ee := IntWalk.u64_in ((ce : Int) + 1) (by omega);have hX10 := (Ext.setCell (S := (· = w4.heap.size)) (w := W9) (p := ⟨w4.heap.size, 0, none⟩) rfl (.int .u64 ((cg : Int) + 1))).trans (Ext.setCell (S := (· = w4.heap.size)) (p := ⟨w4.heap.size, 1, none⟩) rfl (.int .u64 ((ce : Int) + 1))) (λ _ _ h => h);have hLS9 := HS2.out.1.below hW9;have hbl4 : wl.heap.size = w4.heap.size + 1 + 1 := Hwl.out;have hnb : 10 <= w4.heap.size /\ ¬ b2.all w4.heap.size /\ ¬ k2.all w4.heap.size := by
              have h10 := H.out.pkg.lt;have hno : ¬ ((b.all w4.heap.size \/ k.all w4.heap.size) \/ wl.heap.size <= w4.heap.size) := by
               rintro ((h | h) | h)
               . have := hlt _ h; omega
               . have := HS0.out.2 _ h; omega
               . omega
              exact ⟨by omega, λ h => hno (HS2.out.2.1 _ (.inl h)), λ h => hno (HS2.out.2.1 _ (.inr h))⟩
             have H10 := zB (zC (hLS9.ext hX10 λ j e => by subst e; exact hnb) ((Ext.of_below hW9).trans hX10 λ _ _ h => h));have HT := zB λ W (hW : LSys W b2 x N first size k2 (uM s)) => lH b2 x N first size k2 (uM s) ⟨cg + 1, ce + 1, cf, cl⟩ W hW (by omega) (by show cg + 1 < _; omega) (by show ce + 1 < _; omega) (by show cf <= _; omega) hok.rise hok.len (by have h1 := hok.many; have h2 := hok.ring; show s.starts.length <= _; omega) (λ m hm => Nat.lt_of_le_of_lt (hok.ep m hm) l2);unfold uU at HT;simp only at HT;rw [hl2] at HT;have Hbl := zB hnb;clear hX10 hLS9 hnb hbl4 gh9
             go_wp2_with fail
             have hLS10 := H10.out.1;have hX10 := H10.out.2;generalize World.setCell (World.setCell W9 _ _) _ _ = W10 at hLS10 hX10 ⊢;clear z0 z1 z2 z3 fz;refine (HT.out W10 hLS10).mono ?_;rintro e W11 ⟨rfl, hP11⟩;have e1 : Ext b.all w wr := (Ext.of_below hBl).trans HS2.out.2.2 λ j hj h => h.elim id λ h => by have := HS0.out.2 j h; omega
             have e2 : Ext b.all w W10 := e1.trans hX10 λ j hj e => by subst e; omega
             obtain ⟨b3, k3, hd3, hl3, ha3, hX3, hS3⟩ := hP11;have hj2 : ∀ j, (b2.all j \/ k2.all j) -> b.all j \/ w.heap.size <= j := λ j hj => by
              rcases HS2.out.2.1 j hj with (h | h) | h
              . exact .inl h
              . have := HS0.out.2 j h; right; omega
              . have := Hwl.out; right; omega
             have e3 : Ext b.all w W11 := e2.trans hX3 λ j hj h => (hj2 j h).elim id λ h => by omega
             have hj3 : ∀ j, (b3.all j \/ k3.all j) -> b.all j \/ w.heap.size <= j := λ j hj => by
              rcases ha3 j hj with h | h
              . exact hj2 j h
              . have := e2.size; right; omega
             have hop : rB x first size ⟨cg, ce, cf, cl⟩ = uM s := by
              unfold rB uM;rw [Hend.out]
             have hf3 := Hf3.out;rw [hop] at hf3;change yT x first size = (qU x first size (uM s) ⟨cg + 1, ce + 1, cf, cl⟩, tC x first size (uM s) ⟨cg + 1, ce + 1, cf, cl⟩, tZ x first size (uM s) ⟨cg + 1, ce + 1, cf, cl⟩) at hf3;have hFin : (tC x first size (uM s) ⟨cg + 1, ce + 1, cf, cl⟩ = 0 -> vN w b x N first size (.returned (.tuple #[.pointer (some ⟨k.l, 0, none⟩), .int .i64 0])) W11) /\ (tC x first size (uM s) ⟨cg + 1, ce + 1, cf, cl⟩ = 5 -> vN w b x N first size (.returned (.tuple #[.pointer none, .int .i64 5])) W11) := by
              unfold vN;rw [hf3];simp only;refine ⟨λ h => ?_, λ h => ?_⟩
              . rw [if_pos h];exact ⟨b3, k3, by rw [hl3, hl2], hd3.trans hd2, hj3, e3, hS3.mono (qG _ _ _ _ _ _)⟩
              . rw [if_neg (by rw [h]; decide), h];exact ⟨rfl, b3, hd3.trans hd2, λ j hj => hj3 j (.inl hj), e3, hS3.sys.mono (qG _ _ _ _ _ _)⟩
             have HFin := zB hFin;clear e1 e2 e3 hj2 hj3 hS3 hX3 ha3 hX10 hLS10 hop hf3 hFin;rcases qX x first size (uM s) ⟨cg + 1, ce + 1, cf, cl⟩ with hE | hE
             . rw [hE];have HE := zB hE;clear hE
               go_wp2_with fail
               go_ret2
               exact HFin.out.1 HE.out
             . rw [hE];have HE := zB hE;clear hE
               go_wp2_with fail
               go_ret2
               exact HFin.out.2 HE.out
           . have c5' : ¬ (281474976710656 : Int) < (n : Int) + (K : Int) := by omega
             have ho1 := hok.order;rw [Hn.out] at ho1;have e6 := IntWalk.u64_in ((n : Int) + (K : Int) - (cf : Int)) (by omega);have e7 := IntWalk.i64_in ((size : Int) - 2) (by omega);have e8 := IntWalk.u64_in ((size : Int) - 2) (by omega);have q2' := zG hW9 q2;by_cases c6 : size - 2 < n + K - cf
             . have c6' : (size : Int) - 2 < (n : Int) + (K : Int) - (cf : Int) := by omega
               have Hend := zB (scanR_of HFK.out.1 HFK.out.2 (first := first) (size := size) (hd := ⟨cg, ce, cf, cl⟩) (show cf <= 281474976710656 by omega) h1 (j := j) (by rw [Hs.out]; exact hgo) (by rw [Hs.out, Hst2.out, if_pos (.inr c6)]));rw [show xY x first size (⟨cg, ce, cf, cl⟩ : Head).epoch (⟨cg, ce, cf, cl⟩ : Head).first (⟨cg, ce, cf, cl⟩ : Head).least j = s from Hs.out] at Hend;clear y0 y1 y2 y4 y7 y8 y9 p0 p1 p2 q0 q1 q2 q3 y7' c5 hK c6;have gh9 := zK hW9 HGh.out.2;obtain ⟨z0, z1, z2, z3⟩ := box4 gh9;have fz : ∀ j, W9.frozen? ⟨w4.heap.size, j, none⟩ = false := λ j => by simp [World.frozen?, gh9]
               have eg := IntWalk.u64_in ((cg : Int) + 1) (by omega);have ee := IntWalk.u64_in ((ce : Int) + 1) (by omega);have hX10 := (Ext.setCell (S := (· = w4.heap.size)) (w := W9) (p := ⟨w4.heap.size, 0, none⟩) rfl (.int .u64 ((cg : Int) + 1))).trans (Ext.setCell (S := (· = w4.heap.size)) (p := ⟨w4.heap.size, 1, none⟩) rfl (.int .u64 ((ce : Int) + 1))) (λ _ _ h => h);have hLS9 := HS2.out.1.below hW9;have hbl4 : wl.heap.size = w4.heap.size + 1 + 1 := Hwl.out;have hnb : 10 <= w4.heap.size /\ ¬ b2.all w4.heap.size /\ ¬ k2.all w4.heap.size := by
                have h10 := H.out.pkg.lt;have hno : ¬ ((b.all w4.heap.size \/ k.all w4.heap.size) \/ wl.heap.size <= w4.heap.size) := by
                 rintro ((h | h) | h)
                 . have := hlt _ h; omega
                 . have := HS0.out.2 _ h; omega
                 . omega
                exact ⟨by omega, λ h => hno (HS2.out.2.1 _ (.inl h)), λ h => hno (HS2.out.2.1 _ (.inr h))⟩
               have H10 := zB (zC (hLS9.ext hX10 λ j e => by subst e; exact hnb) ((Ext.of_below hW9).trans hX10 λ _ _ h => h));have HT := zB λ W (hW : LSys W b2 x N first size k2 (uM s)) => lH b2 x N first size k2 (uM s) ⟨cg + 1, ce + 1, cf, cl⟩ W hW (by omega) (by show cg + 1 < _; omega) (by show ce + 1 < _; omega) (by show cf <= _; omega) hok.rise hok.len (by have h1 := hok.many; have h2 := hok.ring; show s.starts.length <= _; omega) (λ m hm => Nat.lt_of_le_of_lt (hok.ep m hm) l2);unfold uU at HT;simp only at HT;rw [hl2] at HT;have Hbl := zB hnb;clear hX10 hLS9 hnb hbl4 gh9
               go_wp2_with fail
               have hLS10 := H10.out.1;have hX10 := H10.out.2;generalize World.setCell (World.setCell W9 _ _) _ _ = W10 at hLS10 hX10 ⊢;clear z0 z1 z2 z3 fz;refine (HT.out W10 hLS10).mono ?_;rintro e W11 ⟨rfl, hP11⟩;have e1 : Ext b.all w wr := (Ext.of_below hBl).trans HS2.out.2.2 λ j hj h => h.elim id λ h => by have := HS0.out.2 j h; omega
               have e2 : Ext b.all w W10 := e1.trans hX10 λ j hj e => by subst e; omega
               obtain ⟨b3, k3, hd3, hl3, ha3, hX3, hS3⟩ := hP11;have hj2 : ∀ j, (b2.all j \/ k2.all j) -> b.all j \/ w.heap.size <= j := λ j hj => by
                rcases HS2.out.2.1 j hj with (h | h) | h
                . exact .inl h
                . have := HS0.out.2 j h; right; omega
                . have := Hwl.out; right; omega
               have e3 : Ext b.all w W11 := e2.trans hX3 λ j hj h => (hj2 j h).elim id λ h => by omega
               have hj3 : ∀ j, (b3.all j \/ k3.all j) -> b.all j \/ w.heap.size <= j := λ j hj => by
                rcases ha3 j hj with h | h
                . exact hj2 j h
                . have := e2.size; right; omega
               have hop : rB x first size ⟨cg, ce, cf, cl⟩ = uM s := by
                unfold rB uM;rw [Hend.out]
               have hf3 := Hf3.out;rw [hop] at hf3;change yT x first size = (qU x first size (uM s) ⟨cg + 1, ce + 1, cf, cl⟩, tC x first size (uM s) ⟨cg + 1, ce + 1, cf, cl⟩, tZ x first size (uM s) ⟨cg + 1, ce + 1, cf, cl⟩) at hf3;have hFin : (tC x first size (uM s) ⟨cg + 1, ce + 1, cf, cl⟩ = 0 -> vN w b x N first size (.returned (.tuple #[.pointer (some ⟨k.l, 0, none⟩), .int .i64 0])) W11) /\ (tC x first size (uM s) ⟨cg + 1, ce + 1, cf, cl⟩ = 5 -> vN w b x N first size (.returned (.tuple #[.pointer none, .int .i64 5])) W11) := by
                unfold vN;rw [hf3];simp only;refine ⟨λ h => ?_, λ h => ?_⟩
                . rw [if_pos h];exact ⟨b3, k3, by rw [hl3, hl2], hd3.trans hd2, hj3, e3, hS3.mono (qG _ _ _ _ _ _)⟩
                . rw [if_neg (by rw [h]; decide), h];exact ⟨rfl, b3, hd3.trans hd2, λ j hj => hj3 j (.inl hj), e3, hS3.sys.mono (qG _ _ _ _ _ _)⟩
               have HFin := zB hFin;clear e1 e2 e3 hj2 hj3 hS3 hX3 ha3 hX10 hLS10 hop hf3 hFin;rcases qX x first size (uM s) ⟨cg + 1, ce + 1, cf, cl⟩ with hE | hE
               . rw [hE];have HE := zB hE;clear hE
                 go_wp2_with fail
                 go_ret2
                 exact HFin.out.1 HE.out
               . rw [hE];have HE := zB hE;clear hE
                 go_wp2_with fail
                 go_ret2
                 exact HFin.out.2 HE.out
             . have c6' : ¬ (size : Int) - 2 < (n : Int) + (K : Int) - (cf : Int) := by omega
               have Hnext := zB (Hst2.out.trans (if_neg λ h => h.elim c5 c6));have hq := HS2.out.1.below hW9;have hXq := HS2.out.2.2.trans (Ext.of_below (S := λ j => b.all j \/ k.all j) hW9) λ _ _ h => h;have gpq := zK hW9 HGh.out.1;have ghq := zK hW9 HGh.out.2;have hlg := hq.log;clear y0 y1 y2 y4 y7 y8 y9 p0 p1 p2 q0 q1 q2 q3 y7';have hcs := hlg.cs;rw [hl2, hd2] at hcs;obtain ⟨-, -, -, -, y4, -, -, y7, y8, y9, -, -⟩ := hcs;have y7 : W9.cell? ⟨k.l, 7, none⟩ = some (.int .u64 (n : Int)) := by rw [<- Hn.out]; exact y7
               obtain ⟨LL, hLL⟩ : ∃ LL, uM s = LL := ⟨_, rfl⟩;have hLs : LL.starts = s.starts := by rw [<- hLL]; rfl
               have hLe : LL.epochs = s.epochs := by rw [<- hLL]; rfl
               rw [hLL] at hlg hq y4;obtain ⟨sa, sc, hks, -⟩ := zP hlg.starts;obtain ⟨ea, ec, hke, -⟩ := zP hlg.epochs;rw [hks] at y8;rw [hke] at y9;have hno : ∀ j y, ¬ numS k2 LL n ep k.l j y := by rw [<- hl2]; exact numS_not hlg (.inr rfl)
               have HG := zB hlg;have HSt := zB (zC (zC hLs hLe) (zC hks hke));have hlls : LL.starts.length <= 65536 := by rw [hLs]; have h1 := hok.many; have h2 := hok.ring; omega
               have hlle : LL.epochs.length <= 65536 := by rw [hLe, hok.len]; have h1 := hok.many; have h2 := hok.ring; omega
               have HQ := zB (zC hq (zC hXq (zC gpq ghq)));have HLL := zB hLL;clear hlg hq hXq gpq ghq hLs hLe hks hke hK c5 c6 hLL e6 e7 e8
               go_wp2_with fail
               refine xJ (vF (numS k2 LL n ep)) 22 [1] (λ i => if i = 10 then some (λ _ => oneN W9.heap.size n) else if i = 11 then some (λ _ => appS W9.heap.size k2 LL n) else if i = 17 then some (λ _ => oneN W9.heap.size ep) else if i = 18 then some (λ sn => appE W9.heap.size k2 LL ep (sn 96)) else none) (λ _ => True) (λ _ _ => True) fol (by kernel_rfl) (λ _ _ _ _ _ => trivial) (λ W hW hh => ?_);clear hh;have HGW := zB (HG.out.below hW);have q4 := uJ (S := numS k2 LL n ep) (zG hW y4) hno;have q7 := uJ (S := numS k2 LL n ep) (zG hW y7) hno;have q8 := uJ (S := numS k2 LL n ep) (zG hW y8) hno;have q9 := uJ (S := numS k2 LL n ep) (zG hW y9) hno;have HSZ := zB hW.size;have hstarts : ∀ w1, (vF (numS k2 LL n ep)).r W w1 -> w1.ownsRow 0 28 1 k2.s LL.starts.length (nums LL.starts) := λ w1 hr => yL.owns hr HGW.out.starts λ g j y hg hs => by
                rcases hs with ⟨-, rfl, -⟩ | ⟨h4, -⟩
                . left; omega
                . exact absurd h4 (HGW.out.ne3 g hg)
               have hepochs : ∀ w1, (vF (numS k2 LL n ep)).r W w1 -> w1.ownsRow 0 28 1 k2.e LL.epochs.length (nums LL.epochs) := λ w1 hr => yL.owns hr HGW.out.epochs λ g j y hg hs => by
                rcases hs with ⟨h4, -⟩ | ⟨-, rfl, -⟩
                . exact absurd hg (HGW.out.ne3 g h4)
                . left; omega
               have Hstarts := zB hstarts;have Hepochs := zB hepochs;clear hstarts hepochs;simp only [fT]
               repeat ((first | refine rxM ?_ | refine rxF ?_ | (refine vA (by first | exact .inl rfl | exact .inr rfl) rfl ?_)); simp only [zD])
               refine xV _ rfl (kA HG.out) rfl (λ w1 hr1 hf1 => ?_) (λ v7 w7 hr7 hS7 => ?_)
               . exact xT (xO 101 1 (.tmp 94) rfl (nF n w1)) ⟨yL.of_below (zQ _ _), _, rfl, Nat.le_trans HSZ.out hr1.size, yV (World.alloc_heap_new _ _) 0 _ rfl⟩
               obtain ⟨g7, rfl, hg7, hc7⟩ := hS7;simp only [zD];refine xV _ rfl (kQ HG.out) rfl (λ w1 hr1 hf1 => ?_) (λ v8 w8 hr8 hS8 => ?_)
               . have h7 : oneN W9.heap.size n (.slice (some ⟨g7, 0, none⟩) 1 1) w1 := hf1 95 (.inl (by decide)) (by simp);obtain ⟨g7', e7, -, hc7'⟩ := h7;injection e7 with e7;injection e7 with e7;injection e7 with e7;subst e7;obtain ⟨v', w', r1, r2, r3, r4⟩ := app_num w1 k2.s _ _ (Hstarts.out w1 hr1) (by omega) g7 1 _ hc7' rfl 101;rw [HSt.out.2.1] at r1;refine xT (yM (.tmp 90) (.tmp 95) 101 101 rfl r1) ⟨r3.mono λ k j y h => .inl h, by rw [tD]; exact r2, λ j hj => (r4 j hj).imp id λ h => Nat.le_trans HSZ.out (Nat.le_trans hr1.size h)⟩
               simp only [zD]
               repeat ((first | refine rxM ?_ | refine rxF ?_ | (refine vA (by first | exact .inl rfl | exact .inr rfl) rfl ?_)); simp only [zD])
               refine xV _ rfl (kA HG.out) rfl (λ w1 hr1 hf1 => ?_) (λ v18 w18 hr18 hS18 => ?_)
               . exact xT (xO 101 1 (.tmp 101) rfl (nF ep w1)) ⟨yL.of_below (zQ _ _), _, rfl, Nat.le_trans HSZ.out hr1.size, yV (World.alloc_heap_new _ _) 0 _ rfl⟩
               obtain ⟨g18, rfl, hg18, hc18⟩ := hS18;simp only [zD];refine xV _ rfl (appE_stab HG.out _) rfl (λ w1 hr1 hf1 => ?_) (λ v19 w19 hr19 hS19 => ?_)
               . have h7 : oneN W9.heap.size ep (.slice (some ⟨g18, 0, none⟩) 1 1) w1 := hf1 102 (.inl (by decide)) (by simp);have h8 : appS W9.heap.size k2 LL n v8 w1 := hf1 96 (.inr (by decide)) (by simp);obtain ⟨g7', e7, -, hc7'⟩ := h7;injection e7 with e7;injection e7 with e7;injection e7 with e7;subst e7;obtain ⟨v', w', r1, r2, r3, r4⟩ := app_num w1 k2.e _ _ (Hepochs.out w1 hr1) (by omega) g18 1 _ hc7' rfl 101;rw [HSt.out.2.2] at r1;refine xT (yM (.tmp 100) (.tmp 102) 101 101 rfl r1) ⟨r3.mono λ k j y h => .inr h, by rw [tD]; exact r2, λ j hj => (r4 j hj).imp id λ h => Nat.le_trans HSZ.out (Nat.le_trans hr1.size h), ?_⟩;rw [uQ (t := 96) (v := v8) ?s1 ?s2]
                 case s1 => exact .inr (by decide)
                 case s2 => rfl
                 intro j hj hj2;have hlt8 := xD h8.1 hj;rcases r4 j hj2 with h | h
                 . rcases h8.2 j hj with h9 | h9
                   . exact HG.out.ne3 j h9 h
                   . have := HG.out.lt j (.inr (.inr h)); omega
                 . omega
               rw [uQ (t := 96) (v := v8) ?s1 ?s2] at hS19
               case s1 => exact .inr (by decide)
               case s2 => rfl
               have hrW := (vF (numS k2 LL n ep)).trans hr7 ((vF (numS k2 LL n ep)).trans hr8 ((vF (numS k2 LL n ep)).trans hr18 hr19));have hS8' := kQ HG.out v8 _ _ hS8 ((vF (numS k2 LL n ep)).trans hr18 hr19);have hc19 : w19.heap[k.l]? = some (.cells (tQ b2.d first size k2 LL) 134 (0, 0)) := by
                have := yL.heap hrW HGW.out.cells (by rw [hl2]; exact hno)
                rwa [hl2] at this
               have fr19 : ∀ j, w19.frozen? ⟨k.l, j, none⟩ = false := λ j => by simp [World.frozen?, hc19]
               have d7 := q7 w19 hrW;have d8 := yV hc19 8 _ rfl;have d9 := yV hc19 9 _ rfl;obtain ⟨a8, c8, rfl, -⟩ := zP hS8.1;obtain ⟨a19, c19, rfl, -⟩ := zP hS19.1;simp only [zD]
               repeat ((first | refine rxM ?_ | refine rxF ?_ | (refine vA (by first | exact .inl rfl | exact .inr rfl) rfl ?_)); simp only [zD])
               refine sZ (λ _ w' => w' = w19.setCell ⟨k.l, 8, none⟩ (.slice a8 (LL.starts.length + 1) c8)) _ rfl rfl ?_ ?_
               . clear hr8 hr18 hr19 hrW hS8' hS19 q4 q7 q8 q9
                 (unfold yE; go_simp; simp only [zN])
               rintro v22 w22 - rfl;simp only [zD];refine oJ ?_;have hc20 := yB (j := 9) (yB (j := 8) hc19 (.slice a8 (LL.starts.length + 1) c8)) (.slice a19 (LL.epochs.length + 1) c19);have hX20 : Ext (· = k.l) w19 ((w19.setCell ⟨k.l, 8, none⟩ (.slice a8 (LL.starts.length + 1) c8)).setCell ⟨k.l, 9, none⟩ (.slice a19 (LL.epochs.length + 1) c19)) :=
                (Ext.setCell (S := (· = k.l)) (p := ⟨k.l, 8, none⟩) rfl _).trans (Ext.setCell (S := (· = k.l)) (p := ⟨k.l, 9, none⟩) rfl _) (λ _ _ h => h)
               have H20 := zB (zC hc20 (zC hX20 (zC hrW (zC hS8' hS19))));clear q4 q7 q8 q9 hc20 hX20 hrW hS8' hS19 hS8 hr7 hr8 hr18 hr19 hc7 hc18 hc19
               go_wp2_with fail
               have hX7 := Ext.setCell (S := (· = k2.l)) (w := (w19.setCell ⟨k.l, 8, none⟩ (.slice a8 (LL.starts.length + 1) c8)).setCell ⟨k.l, 9, none⟩ (.slice a19 (LL.epochs.length + 1) c19)) (p := ⟨k.l, 7, none⟩) hl2.symm (.int .u64 ((n : Int) + (K : Int)));have hc7 := yB (j := 7) H20.out.1 (.int .u64 ((n : Int) + (K : Int)));have hrr : Ext k2.all W9 w19 := (Ext.of_below hW).trans (yL.logExt H20.out.2.2.1) λ _ _ h => h;have hXX := (H20.out.2.1.mono (S' := (· = k2.l)) λ j _ e => e.trans hl2.symm).trans hX7 λ _ _ h => h;have hup : xY x first size ce cf cl (j + 1) = ⟨s.starts ++ [n], s.epochs ++ [ep], n + K, ep, true⟩ := by
                show (if (xY x first size ce cf cl j).go then uX x first size ce cf (xY x first size ce cf cl j) else xY x first size ce cf cl j) = _;rw [Hs.out, if_pos hgo, Hnext.out]
               have hP : tU W9 b2 k2 x N first size (uM (xY x first size ce cf cl (j + 1))) (((w19.setCell ⟨k.l, 8, none⟩ (.slice a8 (LL.starts.length + 1) c8)).setCell ⟨k.l, 9, none⟩ (.slice a19 (LL.epochs.length + 1) c19)).setCell ⟨k.l, 7, none⟩ (.int .u64 ((n : Int) + (K : Int)))) := by
                rw [hup];rw [<- hl2] at hc7;refine HQ.out.1.num hrr H20.out.2.2.2.1 H20.out.2.2.2.2 hXX ?_ (by rw [HSt.out.1.1]; rfl) (by rw [HSt.out.1.2]; rfl);rw [hl2] at hc7 ⊢;refine hc7.trans ?_;rw [<- HLL.out];rfl
               have hnk : ∀ g, g < wl.heap.size -> ¬ b.all g -> ¬ k.all g -> ¬ k2.all g := λ g h1 h2 h3 h => by
                rcases HS2.out.2.1 g (.inr h) with (h4 | h4) | h4
                . exact h2 h4
                . exact h3 h4
                . omega
               have hwl := Hwl.out;have hpn : ¬ k2.all w.heap.size := hnk _ (by omega) (λ h => by have := hlt _ h; omega) (λ h => by have := HS0.out.2 _ h; omega);have hhn : ¬ k2.all w4.heap.size := hnk _ (by omega) (λ h => by have := hlt _ h; omega) (λ h => by have := HS0.out.2 _ h; omega);have hXf := hrr.trans hXX λ j _ e => by subst e; exact .inl rfl
               have gpf := hXf.heap HQ.out.2.2.1 hpn;have ghf := hXf.heap HQ.out.2.2.2 hhn;have hy7 : wr.cell? ⟨k.l, 7, none⟩ = some (.int .u64 (n : Int)) := by
                have hcs := HS2.out.1.log.cs;rw [hl2] at hcs;rw [<- Hn.out];exact hcs.2.2.2.2.2.2.2.1
               have hz7 := yV hc7 7 (.int .u64 ((n : Int) + (K : Int))) (by simp [tQ]);refine ⟨⟨j + 1, by rw [hup], by rw [hup], .trans hd2 hl2 HS2.out.2.1 HQ.out.2.1 hP, gpf, ghf⟩, ?_⟩;rw [hz7, hy7];show 281474976710657 - ((n : Int) + (K : Int)).toNat < 281474976710657 - ((n : Int)).toNat;omega
 . have Hf1 := zB (Hf0.out.trans (if_pos rfl));rw [if_pos rfl]
   go_wp2_with fail
   go_ret2
   unfold vN;rw [Hf1.out, if_neg (show ¬ (5 : Int) = 0 by decide)];exact ⟨rfl, .mono (.same H.out hB2) (by omega)⟩
end Go.Proofs.YtbjofbhhnmehgaaGreatDoor.TT
