
/-
 A log's bounds are kept. No walk.
-/
import Derived.Test.YtbjofbhhnmehgaaGreatDoorCNIz5
import Derived.Test.YtbjofbhhnmehgaaGreatDoorRows
import Derived.Test.YtbjofbhhnmehgaaGreatDoorCNIz0
import Derived.Laws.CopyOwn
import Derived.Lib.Overlaps
set_option linter.unusedSimpArgs false
set_option linter.unusedVariables false
set_option maxHeartbeats 2000000
set_option maxRecDepth 100000
open Go.IntWalk (toNatUp iteOmega)
namespace Go.Proofs.YtbjofbhhnmehgaaGreatDoor.TT
open Go.RowKit Go.RG Go.Hp Go.Proofs.YtbjofbhhnmehgaaGreatDoor
theorem gA {L : LogS} {h : Head} {B : Nat} (h1 : h.epoch < B) (h2 : ∀ n ∈ L.epochs, n < B) : (sX L h).least < B := by
 show (if h.first ∈ L.starts then L.epochs.getD (posU L.starts h.first) 0 else h.epoch) < B
 split
 . rw [List.getD_eq_getElem?_getD]
   cases hq : L.epochs[posU L.starts h.first]? with
   | none => show 0 < B; omega
   | some v => exact h2 v (List.mem_of_getElem? hq)
 . exact h1
theorem jD {x : Dsk} {first size : Nat} (h : (yT x first size).2.1 = 0) : x.off = false /\ ¬ (yS x first size).2 < 0 /\ (yS x first size).1.gen ≠ 281474976710655 /\ (yS x first size).1.epoch ≠ 281474976710655 /\
 yT x first size = (qU x first size (rB x first size (yS x first size).1) (jE (yS x first size).1), 0, { rB x first size (yS x first size).1 with head := sX (rB x first size (yS x first size).1) (jE (yS x first size).1) }) := by
 unfold yT at h ⊢;by_cases c0 : x.off = true
 . rw [if_pos c0] at h;exact absurd h (show ¬ (5 : Int) = 0 by decide)
 . rw [if_neg c0] at h ⊢;by_cases c1 : (yS x first size).2 < 0
   . rw [if_pos c1] at h;exact absurd h (show ¬ (50 : Int) = 0 by decide)
   . rw [if_neg c1] at h ⊢;by_cases c2 : (yS x first size).1.gen = 281474976710655 \/ (yS x first size).1.epoch = 281474976710655
     . rw [if_pos c2] at h;exact absurd h (show ¬ (6 : Int) = 0 by decide)
     . rw [if_neg c2] at h ⊢;have h' : tC x first size (rB x first size (yS x first size).1) (jE (yS x first size).1) = 0 := h;refine ⟨by simpa using c0, c1, λ e => c2 (.inl e), λ e => c2 (.inr e), ?_⟩;rw [h'];unfold tZ;rw [if_pos h']
theorem openR_ok {x : Dsk} (hf : x.full) (hk : x.ok) {first size : Nat} (h2 : size <= 65536) (h : (yT x first size).2.1 = 0) : (yT x first size).2.2.ok size /\ (yT x first size).2.2.fallen = false := by
 obtain ⟨-, -, h3, h4, h5⟩ := jD h;obtain ⟨l1, l2, l3, l4⟩ := (show (yS x first size).1.low from runR_low hf hk first size 2);rw [h5];generalize yS x first size = c at *;obtain ⟨⟨cg, ce, cf, cl⟩, at'⟩ := c;simp only at l1 l2 l3 l4 h3 h4;have o := gE hf hk (first := first) (size := size) (most := ce) (l0 := cl) (show cf <= 281474976710656 by omega) (size - 1);change (scanR x first size ⟨cg, ce, cf, cl⟩).ok size ce cf cl (size - 1) at o;refine ⟨⟨by show cg + 1 < _; omega, by show ce + 1 < _; omega, by show cf <= _; omega, gA (by show ce + 1 < _; omega) (λ n hn => by have := o.ep n hn; omega), o.top, o.order, o.ring, o.rise, o.len, ?_, o.low, λ n hn => by show n <= ce + 1; have := o.ep n hn; omega⟩, rfl⟩;have h6 := o.many;have h7 := o.ring;show (scanR x first size ⟨cg, ce, cf, cl⟩).starts.length <= 65536;omega
theorem LogS.ok.append {L : LogS} {size k : Nat} (h : L.ok size) (hs : size <= 65536) (hk1 : 1 <= k) (hk : k <= L.free size) (ht : L.next + k <= 281474976710656) (f : Bool) : (⟨L.head, L.next + k, L.starts ++ [L.next], L.epochs ++ [L.head.epoch], f⟩ : LogS).ok size := by
 unfold LogS.free at hk;have o := h.order;have r := h.ring;have hm : L.starts.length + 1 <= 65536 := by
  have hd : ∀ (l : List Nat) (a b : Nat), l.Pairwise (· < ·) -> (∀ n ∈ l, a <= n /\ n < b) -> l.length <= b - a := by
   intro l
   induction l with
   | nil => intro a b _ _; exact Nat.zero_le _
   | cons x l ih =>
    intro a b hp hr;have hx := hr x (List.mem_cons_self ..);have := ih (x + 1) b (List.pairwise_cons.1 hp).2 λ n hn => ⟨(List.pairwise_cons.1 hp).1 n hn, (hr n (List.mem_cons_of_mem _ hn)).2⟩;simp only [List.length_cons];omega
  have := hd L.starts _ _ h.rise h.low;omega
 refine ⟨h.gen, h.epoch, h.first, h.least, ht, by show L.head.first <= L.next + k; omega, by show L.next + k - L.head.first <= _; omega, ?_, ?_, ?_, λ n hn => ?_, λ n hn => ?_⟩
 . refine List.pairwise_append.2 ⟨h.rise, List.pairwise_singleton _ _, λ a ha b hb => ?_⟩;rw [List.mem_singleton.1 hb];exact (h.low a ha).2
 . simp [h.len]
 . simpa using hm
 . rcases List.mem_append.1 hn with hn | hn
   . have := h.low n hn;exact ⟨this.1, by show n < L.next + k; omega⟩
   . rw [List.mem_singleton.1 hn];exact ⟨o, by show L.next < L.next + k; omega⟩
 . rcases List.mem_append.1 hn with hn | hn
   . exact h.ep n hn
   . rw [List.mem_singleton.1 hn]; exact Nat.le_refl _
theorem appendR_ok {x : Dsk} {first size : Nat} {L : LogS} {rec : List Int} (h : L.ok size) (hs : size <= 65536) (hl : rec.length <= 8192) : (yH x first size L rec).2.1.ok size := by
 unfold yH
 split
 . exact h.fall _
 . split
   . exact h.fall _
   . split
     . exact h.fall _
     . rename_i c1 c2 c3;have hk := qK rec.length hl
       split
       . exact h.append hs hk.1 (by omega) (by omega) _
       . exact h.fall _
theorem jG {x : Dsk} {size : Nat} {L : LogS} (h : L.ok size) : (wL x L).2.1.ok size := by
 unfold wL
 split
 . exact h.fall _
 . exact h.fall _
theorem posU_mem_drop {l : List Nat} (hp : l.Pairwise (· < ·)) {x n : Nat} (h : n ∈ l.drop (posU l x)) : x <= n := by
 induction l with
 | nil => cases h
 | cons y l ih =>
  unfold posU at h ih;rcases Nat.lt_or_ge y x with h1 | h1
  . rw [List.countP_cons_of_pos (by simpa using h1)] at h;exact ih (List.pairwise_cons.1 hp).2 h
  . have h0 : l.countP (λ y => decide (y < x)) = 0 := by
     rw [List.countP_eq_zero];intro z hz;have := (List.pairwise_cons.1 hp).1 z hz;simp;omega
    rw [List.countP_cons_of_neg (by simp; omega), h0, List.drop_zero] at h;rcases List.mem_cons.1 h with rfl | h
    . exact h1
    . have := (List.pairwise_cons.1 hp).1 n h;omega
theorem trimR_ok {x : Dsk} {first size : Nat} {L : LogS} {n : Nat} (h : L.ok size) : (oK x first size L n).2.1.ok size := by
 unfold oK
 split
 . exact h.fall _
 . split
   . exact h.fall _
   . split
     . exact h.fall _
     . split
       . exact h.fall _
       . rename_i c1 c2 c3 c4;have g := h.gen;have hn : n < 281474976710656 := by
          rcases Nat.lt_or_ge n 281474976710656 with h | h
          . exact h
          . exact absurd (.inr (by omega)) c4
         have hg : L.head.gen ≠ 281474976710655 := λ e => c4 (.inl e);have hle : n <= L.next := by
          by_cases hm : n ∈ L.starts
          . exact Nat.le_of_lt (h.low n hm).2
          . have : ¬ (n ≠ L.next) := λ e => c3 ⟨hm, e⟩;omega
         split
         . have ho := h.order;have hr := h.ring;refine ⟨by show L.head.gen + 1 < _; omega, h.epoch, by show n <= _; omega, gA h.epoch (λ m hm => Nat.lt_of_le_of_lt (h.ep m hm) h.epoch), h.next, hle, by show L.next - n <= _; omega, List.Pairwise.sublist (List.drop_sublist _ _) h.rise, ?_, ?_, λ m hm => ⟨posU_mem_drop h.rise hm, (h.low m (List.mem_of_mem_drop hm)).2⟩, λ m hm => h.ep m (List.mem_of_mem_drop hm)⟩
           . show (L.epochs.drop _).length = (L.starts.drop _).length;rw [List.length_drop, List.length_drop, h.len]
           . show (L.starts.drop _).length <= _;rw [List.length_drop];have := h.short;omega
         . exact (h.fall _).fall _
theorem tfits_yes (b : Bks) (x : Dsk) (first size : Nat) (w : World) (h : vK w b x) (hl : x.dur.length <= 65536) (h1 : 83 <= size) (h2 : first + size <= x.dur.length) : Calls Tryz.prog 43 #[.pointer (some ⟨b.d, 0, none⟩), .int .i64 first, .int .i64 size] w λ e w' => e = .returned (.bool true) /\ w = w' := by
 have HS := zB (gB b x w h);have q1 : (83 : Int) <= (size : Int) := by omega
 have q2 : (size : Int) <= (x.dur.length : Int) := by omega
 have q3 : (0 : Int) <= (first : Int) := by omega
 have q4 : (first : Int) <= (x.dur.length : Int) - (size : Int) := by omega
 have e1 := IntWalk.i64_in ((x.dur.length : Int) - (size : Int)) (by omega);clear h;go_enter Tryz.func43, Tryz.ntmps43
 go_wp2_with fail
 refine HS.out.mono ?_;rintro e w' ⟨rfl, rfl⟩
 go_wp2_with fail
 go_ret
 exact ⟨rfl, rfl⟩
def nM (x : Dsk) (first size : Nat) : Dsk × Int :=
 if (xS x first size).2 ≠ 0 then xS x first size else
 if (yT (xS x first size).1 first size).2.1 ≠ 0 then ((yT (xS x first size).1 first size).1, (yT (xS x first size).1 first size).2.1) else
 if (yH (yT (xS x first size).1 first size).1 first size (yT (xS x first size).1 first size).2.2 (yO [] 0)).2.2.2 ≠ 0 then ((yH (yT (xS x first size).1 first size).1 first size (yT (xS x first size).1 first size).2.2 (yO [] 0)).1, (yH (yT (xS x first size).1 first size).1 first size (yT (xS x first size).1 first size).2.2 (yO [] 0)).2.2.2) else
 ((wL (yH (yT (xS x first size).1 first size).1 first size (yT (xS x first size).1 first size).2.2 (yO [] 0)).1 (yH (yT (xS x first size).1 first size).1 first size (yT (xS x first size).1 first size).2.2 (yO [] 0)).2.1).1, (wL (yH (yT (xS x first size).1 first size).1 first size (yT (xS x first size).1 first size).2.2 (yO [] 0)).1 (yH (yT (xS x first size).1 first size).1 first size (yT (xS x first size).1 first size).2.2 (yO [] 0)).2.1).2.2)
theorem lflushN_le (x : Dsk) (L : LogS) (N : Nat) : oW x L N <= N := by
 unfold oW mC
 split
 . exact Nat.le_refl _
 . split <;> omega
theorem formatR_two (x : Dsk) (first size : Nat) : (xS x first size).2 = 0 \/ (xS x first size).2 = 5 := by
 have hE : ∀ k i, (fmtE x first k i).2 = 0 \/ (fmtE x first k i).2 = 5 := λ k i => by
  induction i with
  | zero => exact .inl rfl
  | succ i ih =>
   unfold fmtE
   split
   . exact nQ _ _ _
   . exact ih
 unfold xS
 split
 . exact .inr rfl
 . split
   . exact hE _ _
   . split
     . exact .inr rfl
     . split
       . exact .inr rfl
       . exact nQ _ _ _
theorem qN (n : Nat) (hn : n < 18446744073709551616) : zO (sdnv n) := by
 obtain ⟨m, h1, h2, h3, h4, h5⟩ := rM n;intro b hb;obtain ⟨i, hi⟩ := List.mem_iff_getElem?.1 hb;have hl := (List.getElem?_eq_some_iff.1 hi).1;rcases Nat.lt_or_ge i m with h | h
 . rw [h5 i h] at hi;injection hi with hi;omega
 . have : i = m := by omega
   rw [this, h4] at hi;injection hi with hi;omega
theorem isBytes_head (i k : Nat) (hi : i < 18446744073709551616) (hk : k < 18446744073709551616) : zO (vQ i k) := by
 intro b hb;rcases List.mem_cons.1 hb with rfl | hb
 . omega
 . exact ((qN i hi).append (qN k hk)) b hb
theorem oY {bs : List Int} (hb : zO bs) (i : Nat) (hi : i < 18446744073709551616) (hl : bs.length <= 1073741824) : zO (yO bs i) := (isBytes_head i _ hi (by have := wJ bs.length; omega)).append ((hb.drop _).take _)
theorem tO (bs : List Int) (i : Nat) (hi : i < 18446744073709551616) (hl : bs.length <= 1073741824) : 1 <= (yO bs i).length /\ (yO bs i).length <= 8133 := by
 have h1 := qP i (yF bs.length) hi (by have := wJ bs.length; omega);have h2 := tG i (yF bs.length);unfold yO;rw [List.length_append, List.length_take];omega
theorem formatR_len (x : Dsk) (first size : Nat) : (xS x first size).1.dur.length = x.dur.length := by
 unfold xS
 split
 . rfl
 . split
   . exact nS _ _ _ _
   . split
     . rw [kG, nS]
     . split
       . rw [sE, kG, nS]
       . rw [sL, sE, kG, nS]
theorem openR_err {x : Dsk} {first size : Nat} (h : (yT x first size).2.1 ≠ 0) : (yT x first size).2.1 = 5 \/ (yT x first size).2.1 = 50 \/ (yT x first size).2.1 = 6 := by
 unfold yT at h ⊢
 split
 . exact .inl rfl
 . split
   . exact .inr (.inl rfl)
   . split
     . exact .inr (.inr rfl)
     . rename_i c0 c1 c2;rw [if_neg c0, if_neg c1, if_neg c2] at h;exact .inl ((qX _ _ _ _ _).resolve_left h)
theorem fB {x : Dsk} {first size : Nat} {L : LogS} {rec : List Int} : (yH x first size L rec).2.2.2 = 0 \/ (yH x first size L rec).2.2.2 = 5 \/ (yH x first size L rec).2.2.2 = 6 \/ (yH x first size L rec).2.2.2 = 2 := by
 unfold yH
 split
 . exact .inr (.inl rfl)
 . split
   . exact .inr (.inr (.inl rfl))
   . split
     . exact .inr (.inr (.inr rfl))
     . split
       . exact .inl rfl
       . exact .inr (.inl rfl)
theorem LSys.lt {w : World} {b : Bks} {x : Dsk} {N first size : Nat} {k : LBk} {L : LogS} (h : LSys w b x N first size k L) : ∀ j, b.all j \/ k.all j -> j < w.heap.size := λ j hj => hj.elim (h.sys.dsk.lt j) (h.log.lt j)
theorem tformat_any (b : Bks) (x : Dsk) (N first size : Nat) (h1 : 83 <= size) (h2 : first + size <= x.dur.length) (w : World) (h : Sys w b x N) (hN : N <= 1099510000000) :
 Calls Tryz.prog 15 #[.pointer (some ⟨b.d, 0, none⟩), .int .i64 first, .int .i64 size] w λ e w' => e = .returned (.int .i64 (nM x first size).2) /\ wH w b (nM x first size).1 (N + 65700) w' := by
 have hlim := h.dsk.lim;have HF := zB (tfits_yes b x first size w h.dsk.head hlim h1 h2);have HFm := zB (format_any b x N first size (by omega) h2 w h (by omega));have ht : ∀ r, xS x first size = r -> nM x first size = if r.2 ≠ 0 then r else
  if (yT r.1 first size).2.1 ≠ 0 then ((yT r.1 first size).1, (yT r.1 first size).2.1) else
  if (yH (yT r.1 first size).1 first size (yT r.1 first size).2.2 (yO [] 0)).2.2.2 ≠ 0 then ((yH (yT r.1 first size).1 first size (yT r.1 first size).2.2 (yO [] 0)).1, (yH (yT r.1 first size).1 first size (yT r.1 first size).2.2 (yO [] 0)).2.2.2) else
  ((wL (yH (yT r.1 first size).1 first size (yT r.1 first size).2.2 (yO [] 0)).1 (yH (yT r.1 first size).1 first size (yT r.1 first size).2.2 (yO [] 0)).2.1).1, (wL (yH (yT r.1 first size).1 first size (yT r.1 first size).2.2 (yO [] 0)).1 (yH (yT r.1 first size).1 first size (yT r.1 first size).2.2 (yO [] 0)).2.1).2.2) := λ r h => by unfold nM; rw [h]
 obtain ⟨⟨y, ey⟩, hr⟩ : ∃ r, xS x first size = r := ⟨_, rfl⟩;have Ht := zB (ht _ hr);have htwo := formatR_two x first size;have hyl := formatR_len x first size;rw [hr] at HFm htwo hyl;simp only at HFm Ht htwo hyl;clear hr ht;have hlt := h.dsk.lt;have H := zB h;clear h;go_enter Tryz.func15, Tryz.ntmps15
 go_wp2_with fail
 refine HF.out.mono ?_;rintro e w' ⟨rfl, rfl⟩
 go_wp2_with fail
 refine HFm.out.mono ?_;rintro e w1 ⟨rfl, b1, hd1, ha1, hX1, hS1⟩;rcases htwo with rfl | rfl
 . have Ht2 := zB (Ht.out.trans (if_neg (by decide)));have HP1 := zB (zC ha1 (zC hX1 hS1));have HO := zB (open_any b1 y (N + 65540) first size (by omega) (by rw [hyl]; exact h2) w1 hS1 (by omega));rw [hd1] at HO;clear ha1 hX1 hS1 HF HFm Ht
   go_wp2_with fail
   refine HO.out.mono ?_;intro e w2 hpost;unfold vN at hpost;have hok := λ h => openR_ok (size := size) (first := first) HP1.out.2.2.dsk.full HP1.out.2.2.ok.ok (by omega) h;have herr := λ h => openR_err (x := y) (first := first) (size := size) h;obtain ⟨⟨z, eo, L⟩, hz⟩ : ∃ r, yT y first size = r := ⟨_, rfl⟩;have ht2 := Ht2.out;rw [hz] at hpost ht2 hok herr;simp only at hpost ht2 hok herr;by_cases he : eo = 0
   . subst he;rw [if_pos rfl] at hpost;have ht3 := ht2.trans (if_neg (by decide));obtain ⟨b2, k2, rfl, hd2, ha2, hX2, hS2⟩ := hpost;have HPr := zB (sK (.slice none 0 0) [] 0 (by decide) (by decide) w2 (.inr ⟨rfl, rfl⟩));have Hok := zB (hok rfl);have Ht3 := zB ht3;have HS2 := zB (zC ha2 (zC hX2 hS2));clear hok herr ht2 ht3 ha2 hX2 hS2 hz Ht2 HO
     go_wp2_with fail
     refine HPr.out.mono ?_;rintro e w3 ⟨u, rfl, hown, hB3⟩;have hpl := tO [] 0 (by decide) (by decide);have hS3 := HS2.out.2.2.below hB3;have hA := nX b2 z (N + 65540 + 1) first size k2 L u (yO [] 0) w3 hS3 (by omega) Hok.out.1 (Src.of_owns hown) (λ j hj => by
      have h1 := (hown.lt j hj).1;exact ⟨λ h => by have := HS2.out.2.2.lt j (.inl h); omega, λ h => by have := HS2.out.2.2.lt j (.inr h); omega⟩) (oY (λ b hb => by cases hb) 0 (by decide) (by decide)) (by omega) (by omega)
     have htwo := fB (x := z) (first := first) (size := size) (L := L) (rec := yO [] 0);have hok3 := appendR_ok (x := z) (first := first) (rec := yO [] 0) Hok.out.1 (by omega) (by omega);have ht3 := Ht3.out;generalize yH z first size L (yO [] 0) = r at hA htwo hok3 ht3;obtain ⟨z3, L3, n3, e3⟩ := r;simp only at hA htwo hok3 ht3;have HA := zB hA;have Ht3' := zB ht3;have HB3 := zB hB3;obtain ⟨ua, uc, rfl, -⟩ := zP hown;clear hown hA ht3 hS3 HPr Ht3 hB3
     go_wp2_with fail
     refine HA.out.mono ?_;rintro e w4 ⟨rfl, hP4⟩;obtain ⟨b4, k4, hd4, hl4, ha4, hX4, hS4⟩ := hP4;have hab : ∀ j, (b2.all j \/ k2.all j) -> b.all j \/ w.heap.size <= j := λ j hj => by
      rcases HS2.out.1 j hj with h | h
      . exact HP1.out.1 j h
      . have := HP1.out.2.1.size; right; omega
     have e1 : Ext b.all w w2 := HP1.out.2.1.trans HS2.out.2.1 λ j hj h => (HP1.out.1 j h).elim id λ h => by omega
     have e2 : Ext b.all w w3 := e1.trans (Ext.of_below (S := b.all) HB3.out) λ _ _ h => h;have e4 : Ext b.all w w4 := e2.trans hX4 λ j hj h => (hab j h).elim id λ h => by omega
     have hab4 : ∀ j, (b4.all j \/ k4.all j) -> b.all j \/ w.heap.size <= j := λ j hj => by
      rcases ha4 j hj with h | h
      . exact hab j h
      . have := e2.size; right; omega
     by_cases he3 : e3 = 0
     . subst he3;have Ht4 := zB (Ht3'.out.trans (if_neg (by decide)));have HLF := zB (lflush_any b4 z3 (N + 65540 + 1 + 79) first size k4 L3 w4 hS4);rw [hl4] at HLF;have HF4 := zB (zC (hd4.trans (hd2.trans hd1)) (zC hab4 e4));clear hS4 hX4 ha4 hab hab4 e1 e2 e4 htwo
       go_wp2_with fail
       refine HLF.out.mono ?_;rintro e w5 ⟨rfl, b5, k5, hd5, hl5, ha5, hX5, hS5⟩
       go_wp2_with fail
       go_ret
       rw [Ht4.out];refine ⟨rfl, b5, hd5.trans HF4.out.1, λ j hj => ?_, HF4.out.2.2.trans hX5 λ j hj h => (HF4.out.2.1 j h).elim id λ h => by omega, hS5.sys.mono (Nat.le_trans (lflushN_le _ _ _) (by omega))⟩;rcases ha5 j (.inl hj) with h | h
       . exact HF4.out.2.1 j h
       . have := HF4.out.2.2.size; right; omega
     . have hne : (e3 != 0) = true := by simp [he3]
       have Ht4 := zB (Ht3'.out.trans (if_pos he3));have HF4 := zB (show wH w b z3 (N + 65700) w4 from ⟨b4, hd4.trans (hd2.trans hd1), λ j hj => hab4 j (.inl hj), e4, hS4.sys.mono (by omega)⟩);clear hS4 hX4 ha4 hab hab4 e1 e2 e4 htwo he3
       go_wp2_with fail
       go_ret
       rw [Ht4.out];exact ⟨rfl, HF4.out⟩
   . rw [if_neg he] at hpost;have ht3 := ht2.trans (if_pos he);obtain ⟨rfl, hP2⟩ := hpost;have hne : (eo != 0) = true := by simp [he]
     have Ht3 := zB ht3;have HP2 := zB hP2;clear hok herr ht2 ht3 hP2 hz Ht2 HO he
     go_wp2_with fail
     go_ret
     rw [Ht3.out];exact ⟨rfl, .mono (.trans hd1 HP1.out.1 HP1.out.2.1 HP2.out) (by omega)⟩
 . have Ht2 := zB (Ht.out.trans (if_pos (by decide)));have HP1 := zB (show wH w b y (N + 65540) w1 from ⟨b1, hd1, ha1, hX1, hS1⟩);clear ha1 hX1 hS1
   go_wp2_with fail
   go_ret
   rw [Ht2.out];exact ⟨rfl, HP1.out.mono (by omega)⟩
end Go.Proofs.YtbjofbhhnmehgaaGreatDoor.TT
namespace Go.Proofs.YtbjofbhhnmehgaaGreatDoor.SS
open Go.RowKit Go.RG Go.Hp Go.Proofs.YtbjofbhhnmehgaaGreatDoor
theorem fol : Tryz.prog.follows .mixedOrders = true := by kernel_rfl
theorem tK : Tryz.prog.underlying 73 = some (.slice 9) := by kernel_rfl
theorem nR : (Tryz.prog.info? 9).map (λ i => (i.zero, i.size, i.bytes)) = some (some (.string .empty), 1, 16) := by kernel_rfl
end Go.Proofs.YtbjofbhhnmehgaaGreatDoor.SS
namespace Go.Proofs.YtbjofbhhnmehgaaGreatDoor.SS
open Go.RowKit Go.RG Go.Hp Go.Proofs.YtbjofbhhnmehgaaGreatDoor
theorem clone_any (ad : Addr) (n c : Nat) (cs : List Value) (hl : cs.length = n * 1) (h1 : ∀ v ∈ cs, v.oneCell' = true) (hn : n <= 1099511627776) (w : World)
 (hsrc : ∀ j u, cs[j]? = some u -> w.cell? (ad.add j) = some u) :
 Calls Tryz.prog 69 #[.slice (some ad) n c] w λ e w' => ∃ v, e = .returned v /\ w'.ownsRow w.heap.size 9 1 v n cs /\ v ≠ .slice none 0 0 /\ Below w.heap.size w w' := by
 obtain ⟨i0, hi, hz0, hz1, hz2⟩ := info_parts nR;have he := λ w => Lib.run_eql_slice_nil (P := Tryz.prog) w 73 9 (some ad) n c 0 0 tK;have hB0 := zQ w (.cells #[] 9);have Hsrc := zB hsrc; clear hsrc;go_enter Tryz.func69, Tryz.ntmps69;have c1 : ∀ j u, cs[j]? = some u -> (w.alloc (.cells #[] 9)).cell? (ad.add j) = some u := λ j u h => zG hB0 (Hsrc.out j u h);have C1 := zB c1; clear c1;have c2 : 0 + n <= maxLen := by unfold maxLen; omega
 have c3 : (0 + n) * 16 <= 140737488355328 := by omega
 have c4 : w.heap.size <= (w.alloc (.cells #[] 9)).heap.size := by simp
 go_wp2_with (at_builtin; refine wpList_append_own _ rfl _ _ 73 rfl w.heap.size 9 i0 (.string .empty) 1 16 tK hi hz0 hz1 hz2 rfl (by decide) _ _ _ rfl (World.ownsRow_made w #[] 0 (Nat.le_refl _) (Nat.zero_le _) rfl) ad n c cs rfl hl C1.out h1 c2 c3 c4 ?_; intro v' w1 hown hgrow hnil)
 go_ret
 refine ⟨v', rfl, by simpa using hown, (λ h => by cases (hnil.1 h).1), ?_⟩;exact (hB0.trans ((Below.refl _ _).grown hgrow (by simp) (λ k hk => by injection hk with hk; subst hk; exact Nat.le_refl _)))
end Go.Proofs.YtbjofbhhnmehgaaGreatDoor.SS
namespace Go.Proofs.YtbjofbhhnmehgaaGreatDoor.TT
open Go.RowKit Go.RG Go.Hp Go.Proofs.YtbjofbhhnmehgaaGreatDoor
def klt : List Int -> List Int -> Bool
 | _, [] => false
 | [], _ :: _ => true
 | a :: x, b :: y => decide (a < b) || (decide (a = b) && klt x y)
theorem uA : ∀ a, klt a a = false
 | [] => rfl
 | a :: x => by simp [klt, uA x]
theorem uT : ∀ {a b c}, klt a b = true -> klt b c = true -> klt a c = true
 | _, [], _, h, _ => by simp [klt] at h
 | _, _ :: _, [], _, h => by simp [klt] at h
 | [], _ :: _, _ :: _, _, _ => rfl
 | a :: x, b :: y, c :: z, h1, h2 => by
  simp only [klt, Bool.or_eq_true, Bool.and_eq_true, decide_eq_true_eq] at h1 h2 ⊢;rcases h1 with h1 | ⟨h1, h3⟩
  . rcases h2 with h2 | ⟨h2, h4⟩
    . left; omega
    . left; omega
  . rcases h2 with h2 | ⟨h2, h4⟩
    . left; omega
    . right; exact ⟨by omega, uT h3 h4⟩
theorem klt_tri : ∀ {a b}, klt a b = false -> klt b a = false -> a = b
 | [], [], _, _ => rfl
 | [], _ :: _, h, _ => by simp [klt] at h
 | _ :: _, [], _, h => by simp [klt] at h
 | a :: x, b :: y, h1, h2 => by
  simp only [klt, Bool.or_eq_false_iff, Bool.and_eq_false_iff, decide_eq_false_iff_not] at h1 h2;have e : a = b := by omega
  subst e;rw [klt_tri (a := x) (b := y) (by simpa using h1.2) (by simpa using h2.2)]
theorem kF {a b} (h : klt a b = true) : klt b a = false := by
 cases k : klt b a
 . rfl
 . have := uT h k;rw [uA] at this
   cases this
theorem klt_ne {a b} (h : klt a b = true) : a ≠ b := by
 rintro rfl;rw [uA] at h
 cases h
theorem mE : ∀ {a b : List Int}, zO a -> zO b -> Op.bytesLess (a.map λ n => UInt8.ofNat n.toNat) (b.map λ n => UInt8.ofNat n.toNat) = klt a b
 | [], [], _, _ => rfl
 | _ :: _, [], _, _ => rfl
 | [], _ :: _, _, _ => rfl
 | a :: x, b :: y, h1, h2 => by
  have h3 := h1 a (List.mem_cons_self ..);have h4 := h2 b (List.mem_cons_self ..);have ih := mE (a := x) (b := y) (λ n hn => h1 n (List.mem_cons_of_mem _ hn)) (λ n hn => h2 n (List.mem_cons_of_mem _ hn));simp only [List.map_cons, Op.bytesLess, klt, ih];have e1 : decide (UInt8.ofNat a.toNat < UInt8.ofNat b.toNat) = decide (a < b) := by
   rw [decide_eq_decide, UInt8.lt_iff_toNat_lt, UInt8.toNat_ofNat', UInt8.toNat_ofNat'];omega
  have e2 : (UInt8.ofNat a.toNat == UInt8.ofNat b.toNat) = decide (a = b) := by
   rw [Bool.eq_iff_iff, beq_iff_eq, decide_eq_true_iff, <- UInt8.toNat_inj, UInt8.toNat_ofNat', UInt8.toNat_ofNat'];omega
  rw [e1, e2]
theorem less_strs {a b : List Int} (ha : zO a) (hb : zO b) : Op.bytesLess (strOfNums a).toList (strOfNums b).toList = klt a b := by
 rw [ByteArray.toList_eq, ByteArray.toList_eq];exact mE ha hb
def strs (l : List (List Int)) : List Value := l.map λ k => .string (strOfNums k)
theorem rL (l : List (List Int)) : (strs l).length = l.length := by simp [strs]
theorem iI (l : List (List Int)) : ∀ u ∈ strs l, u.oneCell' = true := by
 intro u hu;obtain ⟨b, -, rfl⟩ := List.mem_map.1 hu;rfl
theorem pR {l : List (List Int)} {i : Nat} {k : List Int} (h : l[i]? = some k) : (strs l)[i]? = some (.string (strOfNums k)) := by simp [strs, h]
def posK (l : List (List Int)) (x : List Int) : Nat := l.countP λ y => klt y x
theorem posK_le (l : List (List Int)) (x : List Int) : posK l x <= l.length := List.countP_le_length
theorem rR : ∀ {l : List (List Int)} {x : List Int} {i : Nat} (_ : i <= l.length) (_ : ∀ q n, q < i -> l[q]? = some n -> klt n x = true) (_ : ∀ q n, i <= q -> l[q]? = some n -> klt n x = false), posK l x = i
 | [], x, i, hi, _, _ => by simp at hi; subst hi; rfl
 | y :: l, x, 0, _, _, h2 => by
  have h0 := h2 0 y (Nat.le_refl _) rfl;have := rR (l := l) (x := x) (i := 0) (Nat.zero_le _) (λ q n hq => absurd hq (Nat.not_lt_zero _)) (λ q n _ hn => h2 (q + 1) n (Nat.zero_le _) (by simpa using hn));unfold posK at this ⊢;rw [List.countP_cons_of_neg (by simp [h0]), this]
 | y :: l, x, i + 1, hi, h1, h2 => by
  have h0 := h1 0 y (Nat.succ_pos _) rfl;have := rR (l := l) (x := x) (i := i) (by simpa using hi) (λ q n hq hn => h1 (q + 1) n (by omega) (by simpa using hn)) (λ q n hq hn => h2 (q + 1) n (by omega) (by simpa using hn));unfold posK at this ⊢;rw [List.countP_cons_of_pos (by simpa using h0), this]
theorem str_self (s : ByteArray) : (s.toList == s.toList) = true := by simp
theorem isNaN_str (x : List Int) (w : World) : Calls Tryz.prog 109 #[.string (strOfNums x)] w λ e w' => e = .returned (.bool false) /\ w = w' := by
 have h1 := str_self (strOfNums x);go_enter Tryz.func109, Tryz.ntmps109
 go_wp2_with fail
 go_ret
 exact ⟨rfl, rfl⟩
theorem cisNaN_str (x : List Int) (w : World) : Calls Tryz.prog 132 #[.string (strOfNums x)] w λ e w' => e = .returned (.bool false) /\ w = w' := by
 have h1 := str_self (strOfNums x);go_enter Tryz.func132, Tryz.ntmps132
 go_wp2_with fail
 go_ret
 exact ⟨rfl, rfl⟩
theorem less_str (x y : List Int) (hx : zO x) (hy : zO y) (w : World) : Calls Tryz.prog 108 #[.string (strOfNums x), .string (strOfNums y)] w λ e w' => e = .returned (.bool (klt x y)) /\ w = w' := by
 have L := cisNaN_str;have h1 := less_strs hx hy;go_enter Tryz.func108, Tryz.ntmps108
 go_wp2_with (go_at_call 132; refine (L _ _).mono ?_; rintro e w2 ⟨rfl, rfl⟩)
 go_ret
 exact ⟨rfl, rfl⟩
def yQ (l : List (List Int)) : Prop := l.Pairwise λ a b => klt a b = true
theorem rJ {l : List (List Int)} (h : yQ l) {i j : Nat} {a b : List Int} (hij : i < j) (ha : l[i]? = some a) (hb : l[j]? = some b) : klt a b = true := by
 obtain ⟨hi, rfl⟩ := List.getElem?_eq_some_iff.1 ha;obtain ⟨hj, rfl⟩ := List.getElem?_eq_some_iff.1 hb;exact List.pairwise_iff_getElem.1 h i j hi hj hij
theorem qY (v : Value) (l : List (List Int)) (hr : yQ l) (hlb : ∀ k ∈ l, zO k) (x : List Int) (hx : zO x) (w : World) (hv : Src w v (strs l)) (hl : l.length <= 1099511627776) :
 Calls Tryz.prog 68 #[v, .string (strOfNums x)] w λ e w' => e = .returned (.tuple #[.int .i64 (posK l x), .bool (decide (x ∈ l))]) /\ Below w.heap.size w w' := by
 have L := less_str;have L2 := isNaN_str;obtain ⟨n, hn⟩ : ∃ n, l.length = n := ⟨_, rfl⟩;obtain ⟨a, c, rfl, -⟩ := hv.shape;rw [rL, hn] at hv ⊢;rw [hn] at hl;have Hn := zB hn; clear hn;have hcell : ∀ (i : Nat), i < n -> ∃ g o, a = some ⟨g, o, none⟩ /\ ∀ W, Below w.heap.size w W -> W.cell? ⟨g, o + i, none⟩ = some (.string (strOfNums (l.getD i []))) := λ i hi => by
  rcases hv with ⟨g, o, c', e1, -, h⟩ | ⟨e1, e2⟩
  . injection e1 with e1 _ _;refine ⟨g, o, e1, λ W hW => zG hW (h i _ (pR ?_))⟩;rw [List.getD_eq_getElem?_getD, List.getElem?_eq_getElem (by rw [Hn.out]; exact hi)];rfl
  . injection e1 with e1 e3 _;subst e3;omega
 have Hc := zB hcell; clear hcell hv;have hget : ∀ (i : Nat), i < n -> l[i]? = some (l.getD i []) := λ i hi => by
  rw [List.getD_eq_getElem?_getD, List.getElem?_eq_getElem (by rw [Hn.out]; exact hi)]; rfl
 have Hg := zB hget; clear hget;go_enter Tryz.func68, Tryz.ntmps68
 go_wp2_with fail
 go_loopw [7, 8] (λ vi vj wr => ∃ i j : Nat, vi = .int .i64 i /\ vj = .int .i64 j /\ i <= j /\ j <= n /\ (∀ q y, q < i -> l[q]? = some y -> klt y x = true) /\ (∀ q y, j <= q -> l[q]? = some y -> klt y x = false) /\ Below w.heap.size w wr)
  (λ vi vj _ => (intOf vj).toNat - (intOf vi).toNat)
 case atStart => exact ⟨0, n, rfl, rfl, by omega, by omega, λ q y hq _ => absurd hq (Nat.not_lt_zero _), λ q y hq hy => (by rw [List.getElem?_eq_none (by rw [Hn.out]; exact hq)] at hy; cases hy), Below.refl _ _⟩
 case round =>
  obtain ⟨i, j, rfl, rfl, hij, hjn, hlo, hhi, hB⟩ := hrel;have Hlo := zB hlo; clear hlo;have Hhi := zB hhi; clear hhi;by_cases hlt : i < j
  . obtain ⟨h, hh1, hh2, hhe⟩ : ∃ h : Nat, i <= h /\ h < j /\ ((i : Int) + (j : Int)) / 2 = (h : Int) := ⟨(i + j) / 2, by omega, by omega, by omega⟩;obtain ⟨g, o, rfl, hc⟩ := Hc.out h (by omega)
    replace hc := hc wr hB
    have hhn : (h : Int) < (n : Int) := by omega
    obtain ⟨y, hy⟩ : ∃ y, l.getD h [] = y := ⟨_, rfl⟩;have hgy := Hg.out h (by omega);rw [hy] at hc hgy;have hyb := hlb y (List.mem_of_getElem? hgy);have Hy := zB hgy; clear hgy hy
    cases hyx : klt y x with
    | true =>
     go_wp2_with (first | (rw [hhe]) | (go_at_call 108; refine (L _ _ hyb hx _).mono ?_; rintro e w2 ⟨rfl, rfl⟩; rw [hyx]))
     refine ⟨⟨h + 1, j, by simp, rfl, by omega, by omega, λ q z hq hz => ?_, Hhi.out, hB⟩, by simp [intOf]; omega⟩;rcases Nat.lt_or_ge q h with hq1 | hq1
     . exact uT (rJ hr hq1 hz Hy.out) hyx
     . obtain rfl : q = h := by omega
       rw [Hy.out] at hz;injection hz with hz;rw [<- hz];exact hyx
    | false =>
     go_wp2_with (first | (rw [hhe]) | (go_at_call 108; refine (L _ _ hyb hx _).mono ?_; rintro e w2 ⟨rfl, rfl⟩; rw [hyx]))
     refine ⟨⟨i, h, rfl, rfl, by omega, by omega, Hlo.out, λ q z hq hz => ?_, hB⟩, by simp [intOf]; omega⟩;rcases Nat.lt_or_ge h q with hq1 | hq1
     . have h5 := rJ hr hq1 Hy.out hz
       cases h6 : klt z x
       . rfl
       . rw [uT h5 h6] at hyx
         cases hyx
     . obtain rfl : q = h := by omega
       rw [Hy.out] at hz;injection hz with hz;rw [<- hz];exact hyx
  . obtain rfl : j = i := by omega
    have hrank : posK l x = j := rR (by rw [Hn.out]; exact hjn) Hlo.out Hhi.out;have Hrank := zB hrank; clear hrank;by_cases hin : j < n
    . obtain ⟨g, o, rfl, hc⟩ := Hc.out j hin
      replace hc := hc wr hB
      have hhn : (j : Int) < (n : Int) := by omega
      obtain ⟨y, hy⟩ : ∃ y, l.getD j [] = y := ⟨_, rfl⟩;have hgy := Hg.out j (by omega);rw [hy] at hc hgy;have hyb := hlb y (List.mem_of_getElem? hgy);have Hy := zB hgy; clear hgy hy;have hbeq := lK hyb hx;by_cases hyx : y = x
      . have hm : decide (x ∈ l) = true := by rw [decide_eq_true_iff, <- hyx]; exact List.mem_of_getElem? Hy.out
        have Hm := zB hm; clear hm;rw [decide_eq_true hyx] at hbeq;subst hyx
        go_wp2_with (go_at_call 109; refine (L2 _ _).mono ?_; rintro e w2 ⟨rfl, rfl⟩)
        go_ret2
        rw [Hrank.out, Hm.out];exact ⟨rfl, hB⟩
      . have hm : decide (x ∈ l) = false := by
         rw [decide_eq_false_iff_not];intro hx;obtain ⟨q, hq⟩ := List.mem_iff_getElem?.1 hx;have h1 := Hhi.out j y (Nat.le_refl _) Hy.out;rcases Nat.lt_trichotomy q j with h2 | h2 | h2
         . have := Hlo.out q x h2 hq;rw [uA] at this
           cases this
         . subst h2;rw [Hy.out] at hq;injection hq with hq;exact hyx hq
         . rw [rJ hr h2 Hy.out hq] at h1
           cases h1
        have Hm := zB hm; clear hm;rw [decide_eq_false hyx] at hbeq
        go_wp2_with (go_at_call 109; refine (L2 _ _).mono ?_; rintro e w2 ⟨rfl, rfl⟩)
        go_ret2
        rw [Hrank.out, Hm.out];exact ⟨rfl, hB⟩
    . have hm : decide (x ∈ l) = false := by
       rw [decide_eq_false_iff_not];intro hx;obtain ⟨q, hq⟩ := List.mem_iff_getElem?.1 hx;have h3 := (List.getElem?_eq_some_iff.1 hq).1;rw [Hn.out] at h3;have := Hlo.out q x (by omega) hq;rw [uA] at this
       cases this
      have Hm := zB hm; clear hm;have hhn : ¬ (j : Int) < (n : Int) := by omega
      go_wp2_with (go_at_call 109; refine (L2 _ _).mono ?_; rintro e w2 ⟨rfl, rfl⟩)
      go_ret2
      rw [Hrank.out, Hm.out];exact ⟨rfl, hB⟩
theorem iF : Tryz.prog.underlying 72 = some (.map 9 52) := by kernel_rfl
theorem vZ : Tryz.prog.underlying 9 = some .string := by kernel_rfl
def keyL (k : List Int) : Lit := .string (strOfNums k).data.toList
theorem keyL_inj {a b : List Int} (ha : zO a) (hb : zO b) (h : keyL a = keyL b) : a = b := by
 refine lJ ha hb ?_;unfold keyL at h;injection h with h;exact ByteArray.ext (Array.toList_inj.1 h)
theorem rS (k : List Int) (hk : k.length <= 549755813888) : keyOf Tryz.prog 9 (.string (strOfNums k)) = some (keyL k) :=
 WideMaps.keyOf_string_mk vZ (by rw [strOfNums_size]; unfold maxLen; omega)
structure PMap (w : World) (bm : Nat) (ks : List (List Int)) (V : List Int -> Value) : Prop where
 some' : ∃ D, w.ownsMap Tryz.prog 9 asIs bm ks.length D /\ Maps.size D = ks.length /\ ks.Nodup /\
  (∀ k, zO k -> D.atKey (keyL k) (.held (.slice none 0 0)) = .held (V k) /\ Maps.has D (keyL k) = decide (k ∈ ks)) /\ ∀ k, k ∉ ks -> V k = .slice none 0 0
theorem PMap.keep {w w' : World} {bm : Nat} {ks : List (List Int)} {V : List Int -> Value} (h : PMap w bm ks V) (hb : w'.heap[bm]? = w.heap[bm]?) : PMap w' bm ks V := by
 obtain ⟨D, ⟨es, clock, h1, h2⟩, h3⟩ := h.some';exact ⟨D, ⟨es, clock, hb.trans h1, h2⟩, h3⟩
theorem PMap.lt {w : World} {bm : Nat} {ks : List (List Int)} {V : List Int -> Value} (h : PMap w bm ks V) : bm < w.heap.size := by
 obtain ⟨D, h1, -⟩ := h.some';exact h1.lt
theorem PMap.none' {w : World} {bm : Nat} {ks : List (List Int)} {V : List Int -> Value} (h : PMap w bm ks V) : ∀ k, k ∉ ks -> V k = .slice none 0 0 := by
 obtain ⟨D, -, -, -, -, h1⟩ := h.some';exact h1
theorem PMap.new {w : World} {g : Nat} (h : w.heap[g]? = some (.map #[] 0)) : PMap w g [] (λ _ => .slice none 0 0) := by
 obtain ⟨es, clock, hb, F, hs, hD⟩ := World.ownsMap_made w Tryz.prog 9 asIs;rw [World.alloc_heap_new] at hb;injection hb with hb;injection hb with e1 e2;subst e1 e2;exact ⟨⟨.map [], ⟨#[], 0, h, F, Nat.le_refl _, rfl⟩, rfl, List.nodup_nil, λ i _ => ⟨rfl, by simp [Maps.has]⟩, λ i _ => rfl⟩⟩
theorem kP {v u : Value} {ps : List MemPlace} (h : asIs v = some (.held u, ps)) : v = u := by
 unfold asIs at h;simp only [Option.some.injEq, Prod.mk.injEq] at h;obtain ⟨h, -⟩ := h;injection h with h
theorem eA (w : World) : (zeroValue 52).run Tryz.prog w = .ok (.slice none 0 0) w := by kernel_rfl
theorem PMap.look {w : World} {bm : Nat} {ks : List (List Int)} {V : List Int -> Value} (h : PMap w bm ks V) (k : List Int) (hk : zO k) (hl : k.length <= 549755813888) :
 Sem.run Tryz.prog (Instr.lookup 72 (.map (some bm)) (.string (strOfNums k)) false) w = .ok (V k) w := by
 obtain ⟨D, h1, -, -, h2, -⟩ := h.some';obtain ⟨v, ps, hr, hv⟩ := h1.lookup (Maps.string_keyed vZ) iF (eA w) (show asIs (.slice none 0 0) = some (.held (.slice none 0 0), []) from rfl) (rS k hl);rw [(h2 k hk).1] at hv;rw [kP hv] at hr;exact hr
theorem PMap.look_ok {w : World} {bm : Nat} {ks : List (List Int)} {V : List Int -> Value} (h : PMap w bm ks V) (k : List Int) (hk : zO k) (hl : k.length <= 549755813888) :
 Sem.run Tryz.prog (Instr.lookup 72 (.map (some bm)) (.string (strOfNums k)) true) w = .ok (.tuple #[V k, .bool (decide (k ∈ ks))]) w := by
 obtain ⟨D, h1, -, -, h2, -⟩ := h.some';obtain ⟨v, ps, hr, hv⟩ := h1.look_ok (Maps.string_keyed vZ) iF (eA w) (show asIs (.slice none 0 0) = some (.held (.slice none 0 0), []) from rfl) (rS k hl);rw [(h2 k hk).1] at hv;rw [kP hv, (h2 k hk).2] at hr;exact hr
theorem PMap.perm {w : World} {bm : Nat} {ks ks' : List (List Int)} {V : List Int -> Value} (h : PMap w bm ks V) (hp : ks.Perm ks') : PMap w bm ks' V := by
 obtain ⟨D, h1, h2, h3, h4, h5⟩ := h.some';refine ⟨D, by rw [<- hp.length_eq]; exact h1, by rw [<- hp.length_eq]; exact h2, hp.nodup_iff.1 h3, λ k hk => ⟨(h4 k hk).1, ?_⟩, λ k hk => h5 k λ e => hk (hp.mem_iff.1 e)⟩;rw [(h4 k hk).2, decide_eq_decide];exact hp.mem_iff
def sY (V : List Int -> Value) (i : List Int) (v : Value) (j : List Int) : Value := if j = i then v else V j
def uK (ks : List (List Int)) (i : List Int) : List (List Int) := if i ∈ ks then ks else i :: ks
theorem wD {ks : List (List Int)} {i j : List Int} : j ∈ uK ks i ↔ j = i \/ j ∈ ks := by
 unfold uK
 split
 . rename_i h;constructor
   . exact .inr
   . rintro (rfl | h')
     . exact h
     . exact h'
 . exact List.mem_cons
theorem PMap.store {w : World} {bm : Nat} {ks : List (List Int)} {V : List Int -> Value} (h : PMap w bm ks V) (hn : ks.length <= 549755813887) (k : List Int) (hk : zO k) (hl : k.length <= 549755813888) (v : Value) :
 ∃ w', (Instr.mapUpdate 72 (.map (some bm)) (.string (strOfNums k)) v).run Tryz.prog w = .ok () w' /\ PMap w' bm (uK ks k) (sY V k v) /\ Ext (· = bm) w w' := by
 obtain ⟨D, h1, h2, h3, h4, h5⟩ := h.some';have K := Maps.string_keyed vZ;obtain ⟨w', r1, r2, r3⟩ := h1.update K iF (by unfold maxLen; omega) (rS k hl) (show asIs v = some (.held v, []) from rfl);have ht := h1.tidy K;have hsz := Maps.size_put ht (k := keyL k) (.held v);rw [(h4 k hk).2, h2] at hsz;have hlen : Maps.size (D.put (keyL k) (.held v)) = (uK ks k).length := by
  rw [hsz];unfold uK;by_cases hm : k ∈ ks
  . simp [hm]
  . simp [hm]
 refine ⟨w', r1, ⟨D.put (keyL k) (.held v), by rw [<- hlen]; exact qZ r2, hlen, ?_, λ j hj => ?_, λ j hj => ?_⟩, ⟨r3.os, r3.tape, r3.output, r3.size, λ j hj hne => r3.block j hj λ e => hne (by injection e)⟩⟩
 . unfold uK
   split
   . exact h3
   . rename_i hm; exact List.nodup_cons.2 ⟨hm, h3⟩
 . have hD := h1.isMap;have hkl : WideAt.IsKeyLit (keyL k) := by first | trivial | simp [WideAt.IsKeyLit, keyL]
   by_cases hji : j = k
   . subst hji;exact ⟨by rw [Maps.atKey_put_same hD hkl]; simp [sY], by rw [Maps.has_put_same hD hkl]; simp [wD]⟩
   . have hne : keyL j ≠ keyL k := λ e => hji (keyL_inj hj hk e);refine ⟨?_, ?_⟩
     . rw [Maps.atKey_put_other hne, (h4 j hj).1]; simp [sY, hji]
     . rw [Maps.has_put_other hne, (h4 j hj).2];simp [wD, hji]
 . have := λ e => hj (wD.2 e);have h6 : j ≠ k := λ e => this (.inl e);have h7 : j ∉ ks := λ e => this (.inr e);simp [sY, h6, h5 j h7]
theorem PMap.drop {w : World} {bm : Nat} {ks : List (List Int)} {V : List Int -> Value} (h : PMap w bm ks V) (k : List Int) (hk : zO k) (hl : k.length <= 549755813888) (hin : k ∈ ks) (ty : TypeId) :
 ∃ w', (Builtin.delete_ #[72, 9] ty #[.map (some bm), .string (strOfNums k)]).run Tryz.prog w = .ok (.tuple #[]) w' /\ PMap w' bm (ks.erase k) (sY V k (.slice none 0 0)) /\ Ext (· = bm) w w' := by
 obtain ⟨D, h1, h2, h3, h4, h5⟩ := h.some';have K := Maps.string_keyed vZ;obtain ⟨w', r1, r2, r3⟩ := h1.drop K iF (rS k hl) ty;have r3 := r3.grown;have ht := h1.tidy K;have hsz := Maps.size_del ht (k := keyL k);rw [(h4 k hk).2, h2, decide_eq_true hin, if_pos rfl] at hsz;have hlen : Maps.size (D.del (keyL k)) = (ks.erase k).length := by
  rw [List.length_erase_of_mem hin];omega
 refine ⟨w', r1, ⟨D.del (keyL k), by rw [<- hlen]; exact qZ r2, hlen, h3.erase _, λ j hj => ?_, λ j hj => ?_⟩, ⟨r3.os, r3.tape, r3.output, r3.size, λ j hj hne => r3.block j hj λ e => hne (by injection e)⟩⟩
 . by_cases hji : j = k
   . subst hji;refine ⟨by rw [Maps.atKey_del_same]; simp [sY], ?_⟩;rw [Maps.has_del_same];symm;rw [decide_eq_false_iff_not, List.Nodup.mem_erase_iff h3];exact λ h => h.1 rfl
   . have hne : keyL j ≠ keyL k := λ e => hji (keyL_inj hj hk e);refine ⟨?_, ?_⟩
     . rw [Maps.atKey_del_other hne, (h4 j hj).1]; simp [sY, hji]
     . rw [Maps.has_del_other hne, (h4 j hj).2, decide_eq_decide, List.Nodup.mem_erase_iff h3];exact ⟨λ h => ⟨hji, h⟩, λ h => h.2⟩
 . unfold sY
   split
   . rfl
   . rename_i h6;exact h5 j λ h7 => hj ((List.Nodup.mem_erase_iff h3).2 ⟨h6, h7⟩)
abbrev Pr := List Int × List Int
def zS (ps : List Pr) : List (List Int) := ps.map Prod.fst
theorem xM (ps : List Pr) : (zS ps).length = ps.length := by simp [zS]
def valP (ps : List Pr) (k : List Int) : List Int := ((ps.find? λ p => decide (p.1 = k)).map Prod.snd).getD []
def zU (ps : List Pr) : Nat := (ps.map λ p => yY p.1 p.2).sum
def putP (ps : List Pr) (k v : List Int) : List Pr := if k ∈ zS ps then ps.map (λ p => if p.1 = k then (k, v) else p) else ps.take (posK (zS ps) k) ++ (k, v) :: ps.drop (posK (zS ps) k)
def delP (ps : List Pr) (k : List Int) : List Pr := if k ∈ zS ps then ps.take (posK (zS ps) k) ++ ps.drop (posK (zS ps) k + 1) else ps
structure Chg where
 key : List Int
 value : List Int
 gone : Bool
def chgP (ps : List Pr) (c : Chg) : List Pr := if c.gone then delP ps c.key else putP ps c.key c.value
theorem posK_at {l : List (List Int)} {x : List Int} (hr : yQ l) (hx : x ∈ l) : l[posK l x]? = some x := by
 obtain ⟨i, hi⟩ := List.mem_iff_getElem?.1 hx;have hil := (List.getElem?_eq_some_iff.1 hi).1;have : posK l x = i := rR (Nat.le_of_lt hil) (λ q n hq hn => rJ hr hq hn hi) (λ q n hq hn => by
  rcases Nat.eq_or_lt_of_le hq with rfl | h
  . rw [hi] at hn; injection hn with hn; rw [<- hn]; exact uA _
  . exact kF (rJ hr h hi hn))
 rw [this]; exact hi
theorem posK_split {l : List (List Int)} {x : List Int} (hr : yQ l) : (∀ y ∈ l.take (posK l x), klt y x = true) /\ (∀ y ∈ l.drop (posK l x), klt y x = false) := by
 induction l with
 | nil => simp
 | cons y l ih =>
  have hr' := List.pairwise_cons.1 hr;have ih := ih hr'.2;unfold posK at ih ⊢
  cases h : klt y x
  . have h0 : l.countP (λ y => klt y x) = 0 := by
     rw [List.countP_eq_zero];intro z hz hk;rw [uT (hr'.1 z hz) hk] at h
     cases h
    rw [List.countP_cons_of_neg (by simp [h]), h0];refine ⟨λ z hz => (by cases hz), λ z hz => ?_⟩;rcases List.mem_cons.1 hz with rfl | hz
    . exact h
    . cases h2 : klt z x
      . rfl
      . rw [uT (hr'.1 z hz) h2] at h; cases h
  . rw [List.countP_cons_of_pos (by simpa using h)];refine ⟨λ z hz => ?_, λ z hz => ih.2 z (by simpa using hz)⟩;rw [List.take_succ_cons] at hz;rcases List.mem_cons.1 hz with rfl | hz
    . exact h
    . exact ih.1 z hz
theorem krising_ins {l : List (List Int)} {x : List Int} (hr : yQ l) (hx : x ∉ l) : yQ (l.take (posK l x) ++ x :: l.drop (posK l x)) := by
 have h := posK_split (x := x) hr;have hd : ∀ y ∈ l.drop (posK l x), klt x y = true := λ y hy => by
  cases h2 : klt x y
  . exact absurd (klt_tri h2 (h.2 y hy)) (by rintro rfl; exact hx (List.mem_of_mem_drop hy))
  . rfl
 refine List.pairwise_append.2 ⟨hr.sublist (List.take_sublist _ _), List.pairwise_cons.2 ⟨hd, hr.sublist (List.drop_sublist _ _)⟩, λ a ha b hb => ?_⟩;rcases List.mem_cons.1 hb with rfl | hb
 . exact h.1 a ha
 . exact uT (h.1 a ha) (hd b hb)
theorem iT {ps : List Pr} {k v : List Int} : zS (putP ps k v) = if k ∈ zS ps then zS ps else (zS ps).take (posK (zS ps) k) ++ k :: (zS ps).drop (posK (zS ps) k) := by
 unfold putP
 split
 . unfold zS;rw [List.map_map];apply List.map_congr_left;intro p _;simp only [Function.comp]
   split
   . rename_i h; exact h.symm
   . rfl
 . simp [zS, List.map_take, List.map_drop]
theorem iU {ps : List Pr} {k : List Int} : zS (delP ps k) = if k ∈ zS ps then (zS ps).take (posK (zS ps) k) ++ (zS ps).drop (posK (zS ps) k + 1) else zS ps := by
 unfold delP
 split
 . simp [zS, List.map_take, List.map_drop]
 . rfl
theorem iL {ps : List Pr} {k v : List Int} (hr : yQ (zS ps)) : yQ (zS (putP ps k v)) := by
 rw [iT]
 split
 . exact hr
 . rename_i h; exact krising_ins hr h
theorem iM {ps : List Pr} {k : List Int} (hr : yQ (zS ps)) : yQ (zS (delP ps k)) := by
 rw [iU]
 split
 . refine hr.sublist ?_
   conv => rhs; rw [<- List.take_append_drop (posK (zS ps) k) (zS ps)]
   refine List.Sublist.append (List.Sublist.refl _) ?_;rw [Nat.add_comm, <- List.drop_drop]
   first | exact List.drop_sublist _ _ | (rw [List.drop_drop]; exact (List.drop_sublist_drop_left _ (by omega)))
 . exact hr
theorem wO {l : List (List Int)} (h : yQ l) : l.Nodup := List.Pairwise.imp (λ hab => klt_ne hab) h
theorem rA {ps : List Pr} {k : List Int} (hr : yQ (zS ps)) (hk : k ∈ zS ps) : ∃ v, ps[posK (zS ps) k]? = some (k, v) /\ (k, v) ∈ ps /\ valP ps k = v := by
 have h := posK_at hr hk;unfold zS at h;rw [List.getElem?_map] at h
 cases h2 : ps[posK (zS ps) k]? with
 | none => unfold zS at h2; rw [h2] at h; cases h
 | some p =>
  have h3 := h2;unfold zS at h3;rw [h3] at h;injection h with h;obtain ⟨a, v⟩ := p;simp only at h;subst h;refine ⟨v, rfl, List.mem_of_getElem? h2, ?_⟩;unfold valP;have hnd := wO hr;have hm := List.mem_of_getElem? h2
  cases h4 : ps.find? (λ p => decide (p.1 = a)) with
  | none =>
   have := List.find?_eq_none.1 h4 _ hm;simp at this
  | some p =>
   have h5 := List.find?_some h4;have h6 := List.mem_of_find?_eq_some h4;obtain ⟨b, u⟩ := p;simp only [decide_eq_true_eq] at h5;subst h5;simp only [Option.map_some, Option.getD_some];exact snd_of_nodup hnd h6 hm
where
 snd_of_nodup : ∀ {ps : List Pr} {b u v : List Int}, (zS ps).Nodup -> (b, u) ∈ ps -> (b, v) ∈ ps -> u = v
  | [], _, _, _, _, h, _ => by cases h
  | p :: ps, b, u, v, hn, h1, h2 => by
   have hn' := List.nodup_cons.1 hn;rcases List.mem_cons.1 h1 with rfl | k1
   . rcases List.mem_cons.1 h2 with h2 | h2
     . injection h2 with _ h2; exact h2.symm
     . exact absurd (show b ∈ ps.map Prod.fst from List.mem_map.2 ⟨(b, v), h2, rfl⟩) hn'.1
   . rcases List.mem_cons.1 h2 with rfl | h2
     . exact absurd (show b ∈ ps.map Prod.fst from List.mem_map.2 ⟨(b, u), k1, rfl⟩) hn'.1
     . exact snd_of_nodup hn'.2 k1 h2
theorem tP {ps : List Pr} {p : Pr} (h : p ∈ ps) : p.1 ∈ zS ps := List.mem_map.2 ⟨p, h, rfl⟩
theorem uH (a b : List Pr) : zU (a ++ b) = zU a + zU b := by simp [zU]
theorem rI (p : Pr) (l : List Pr) : zU (p :: l) = yY p.1 p.2 + zU l := by simp [zU]
theorem liveN_take {ps : List Pr} (i : Nat) {p : Pr} (h : ps[i]? = some p) : zU ps = zU (ps.take i) + yY p.1 p.2 + zU (ps.drop (i + 1)) := by
 obtain ⟨hi, rfl⟩ := List.getElem?_eq_some_iff.1 h
 conv => lhs; rw [<- List.take_append_drop i ps, List.drop_eq_getElem_cons hi, uH, rI]
 omega
theorem live_del {ps : List Pr} {k : List Int} (hr : yQ (zS ps)) (hk : k ∈ zS ps) : zU (delP ps k) + yY k (valP ps k) = zU ps := by
 obtain ⟨v, h1, -, h2⟩ := rA hr hk;rw [liveN_take _ h1, h2];unfold delP;rw [if_pos hk, uH];simp only;omega
theorem live_ins {ps : List Pr} {k v : List Int} (hk : k ∉ zS ps) : zU (putP ps k v) = zU ps + yY k v := by
 unfold putP;rw [if_neg hk]
 conv => rhs; rw [<- List.take_append_drop (posK (zS ps) k) ps, uH]
 rw [uH, rI];simp only;omega
theorem live_put {ps : List Pr} {k v : List Int} (hr : yQ (zS ps)) (hk : k ∈ zS ps) : zU (putP ps k v) + yY k (valP ps k) = zU ps + yY k v := by
 have hnd := wO hr;obtain ⟨v0, -, hm, h2⟩ := rA hr hk;rw [h2];unfold putP;rw [if_pos hk];clear h2 hr
 induction ps with
 | nil => cases hm
 | cons p ps ih =>
  have hn' := List.nodup_cons.1 hnd;rcases List.mem_cons.1 hm with rfl | hm
  . have hno : ps.map (λ p => if p.1 = k then (k, v) else p) = ps := by
     conv => rhs; rw [<- List.map_id ps]
     apply List.map_congr_left;intro q hq;rw [if_neg]
     . rfl
     . rintro rfl;exact hn'.1 (List.mem_map.2 ⟨q, hq, rfl⟩)
    simp only [List.map_cons, if_true, hno];simp [zU];omega
  . have hne : p.1 ≠ k := by
     rintro rfl;exact hn'.1 (List.mem_map.2 ⟨_, hm, rfl⟩)
    have := ih (tP hm) hn'.2 hm;simp only [List.map_cons, if_neg hne];simp only [zU, List.map_cons, List.sum_cons] at this ⊢;omega
theorem val_le {ps : List Pr} {k : List Int} (hr : yQ (zS ps)) (hk : k ∈ zS ps) : yY k (valP ps k) <= zU ps := by
 have := live_del hr hk;omega
theorem mem_put {ps : List Pr} {k v : List Int} {p : Pr} (h : p ∈ putP ps k v) : p = (k, v) \/ (p ∈ ps /\ p.1 ≠ k) := by
 unfold putP at h
 split at h
 . obtain ⟨q, hq, rfl⟩ := List.mem_map.1 h
   split
   . exact .inl rfl
   . rename_i hne; exact .inr ⟨hq, hne⟩
 . rename_i hk;rcases List.mem_append.1 h with h | h
   . exact .inr ⟨List.mem_of_mem_take h, λ e => hk (e ▸ tP (List.mem_of_mem_take h))⟩
   . rcases List.mem_cons.1 h with rfl | h
     . exact .inl rfl
     . exact .inr ⟨List.mem_of_mem_drop h, λ e => hk (e ▸ tP (List.mem_of_mem_drop h))⟩
theorem mem_del {ps : List Pr} {k : List Int} (hr : yQ (zS ps)) {p : Pr} (h : p ∈ delP ps k) : p ∈ ps /\ p.1 ≠ k := by
 unfold delP at h
 split at h
 . rename_i hk;have hp : p ∈ ps := by
    rcases List.mem_append.1 h with h | h
    . exact List.mem_of_mem_take h
    . exact List.mem_of_mem_drop h
   refine ⟨hp, λ e => ?_⟩;obtain ⟨v, h1, -, -⟩ := rA hr hk;have hnd := wO hr;have h2 : zS ps = (zS ps).take (posK (zS ps) k) ++ k :: (zS ps).drop (posK (zS ps) k + 1) := by
    have h3 := posK_at hr hk;obtain ⟨hi, h4⟩ := List.getElem?_eq_some_iff.1 h3
    conv => lhs; rw [<- List.take_append_drop (posK (zS ps) k) (zS ps), List.drop_eq_getElem_cons hi, h4]
   rw [h2] at hnd;have h5 := List.nodup_append.1 hnd;rcases List.mem_append.1 h with h | h
   . have : p.1 ∈ (zS ps).take (posK (zS ps) k) := by
      unfold zS; rw [<- List.map_take]; exact List.mem_map.2 ⟨p, h, rfl⟩
     exact h5.2.2 p.1 this k (List.mem_cons_self ..) e
   . have : p.1 ∈ (zS ps).drop (posK (zS ps) k + 1) := by
      unfold zS; rw [<- List.map_drop]; exact List.mem_map.2 ⟨p, h, rfl⟩
     rw [e] at this;exact (List.nodup_cons.1 h5.2.1).1 this
 . rename_i hk;exact ⟨h, λ e => hk (e ▸ tP h)⟩
theorem keys_perm_put {ps : List Pr} {k v : List Int} : (uK (zS ps) k).Perm (zS (putP ps k v)) := by
 rw [iT];unfold uK
 split
 . exact .refl _
 . refine List.Perm.trans ?_ List.perm_middle.symm;rw [List.take_append_drop]
theorem keys_perm_del {ps : List Pr} {k : List Int} (hr : yQ (zS ps)) (hk : k ∈ zS ps) : ((zS ps).erase k).Perm (zS (delP ps k)) := by
 rw [iU, if_pos hk];have h3 := posK_at hr hk;obtain ⟨hi, h4⟩ := List.getElem?_eq_some_iff.1 h3;have h2 : (zS ps).Perm (k :: ((zS ps).take (posK (zS ps) k) ++ (zS ps).drop (posK (zS ps) k + 1))) := by
  refine List.Perm.trans ?_ List.perm_middle;have : zS ps = (zS ps).take (posK (zS ps) k) ++ k :: (zS ps).drop (posK (zS ps) k + 1) := by
   conv => lhs; rw [<- List.take_append_drop (posK (zS ps) k) (zS ps), List.drop_eq_getElem_cons hi, h4]
  rw [<- this]
 have h5 := h2.erase k
 rwa [List.erase_cons_head] at h5
structure TblS where
 cap : Nat
 ps : List Pr
 live : Nat
 pending : Nat
 fallen : Int
structure TBk where
 t : Nat
 m : Nat
 s : Value
 V : List Int -> Value
def TBk.all (q : TBk) (j : Nat) : Prop := j = q.t \/ j = q.m \/ q.s.ownBlock = some j \/ ∃ k, (q.V k).ownBlock = some j
def uW (d l : Nat) (q : TBk) (T : TblS) : Array Value :=
 #[.pointer (some ⟨d, 0, none⟩), .pointer (some ⟨l, 0, none⟩), .int .i64 T.cap, .map (some q.m), q.s, .int .i64 T.live, .int .i64 T.pending, .int .i64 T.fallen]
structure TblG (w : World) (d l : Nat) (q : TBk) (T : TblS) (ks : List (List Int)) : Prop where
 cells : w.heap[q.t]? = some (.cells (uW d l q T) 75 (0, 0))
 keys : w.ownsRow 0 9 1 q.s ks.length (strs ks)
 map : PMap w q.m (zS T.ps) q.V
 vals : ∀ p ∈ T.ps, w.ownsRow 0 5 1 (q.V p.1) p.2.length (u8s p.2)
 rise : yQ (zS T.ps)
 good : ∀ p ∈ T.ps, zO p.1 /\ zO p.2 /\ p.1.length <= 64 /\ p.2.length <= 1024
 ne1 : q.t ≠ q.m /\ ∀ j, q.s.ownBlock = some j -> j ≠ q.t /\ j ≠ q.m
 ne2 : ∀ k j, (q.V k).ownBlock = some j -> j ≠ q.t /\ j ≠ q.m /\ q.s.ownBlock ≠ some j
abbrev sH (w : World) (d l : Nat) (q : TBk) (T : TblS) : Prop := TblG w d l q T (zS T.ps)
section
variable {w w' : World} {d l : Nat} {q : TBk} {T : TblS} {ks : List (List Int)}
theorem TblG.keep (h : TblG w d l q T ks) (hk : ∀ k, q.all k -> w'.heap[k]? = w.heap[k]?) : TblG w' d l q T ks where
 cells := by rw [hk _ (.inl rfl)]; exact h.cells
 keys := yJ h.keys λ k e => hk k (.inr (.inr (.inl e)))
 map := h.map.keep (hk _ (.inr (.inl rfl)))
 vals := λ p hp => yJ (h.vals p hp) λ k e => hk k (.inr (.inr (.inr ⟨_, e⟩)))
 rise := h.rise
 good := h.good
 ne1 := h.ne1
 ne2 := h.ne2
theorem TblG.own (h : TblG w d l q T ks) {k : List Int} {j : Nat} (e : (q.V k).ownBlock = some j) : k ∈ zS T.ps := by
 by_cases hk : k ∈ zS T.ps
 . exact hk
 . rw [h.map.none' k hk] at e; cases e
theorem uG {ps : List Pr} {k : List Int} (h : k ∈ zS ps) : ∃ v, (k, v) ∈ ps := by
 obtain ⟨p, hp, rfl⟩ := List.mem_map.1 h;exact ⟨p.2, hp⟩
theorem TblG.lt (h : TblG w d l q T ks) : ∀ k, q.all k -> k < w.heap.size := by
 rintro k (rfl | rfl | e | ⟨i, e⟩)
 . exact zI h.cells
 . exact h.map.lt
 . exact xD h.keys e
 . obtain ⟨v, hv⟩ := uG (h.own e);exact xD (h.vals _ hv) e
theorem TblG.ext {S : Nat -> Prop} (h : TblG w d l q T ks) (hX : Ext S w w') (hS : ∀ k, q.all k -> ¬ S k) : TblG w' d l q T ks := h.keep λ k hk => hX.block k (h.lt k hk) (hS k hk)
theorem TblG.below (h : TblG w d l q T ks) (hb : Below w.heap.size w w') : TblG w' d l q T ks := h.keep λ k hk => hb.block k (h.lt k hk)
theorem TblG.cs (h : TblG w d l q T ks) : w.cell? ⟨q.t, 0, none⟩ = some (.pointer (some ⟨d, 0, none⟩)) /\ w.cell? ⟨q.t, 1, none⟩ = some (.pointer (some ⟨l, 0, none⟩)) /\ w.cell? ⟨q.t, 2, none⟩ = some (.int .i64 T.cap) /\
 w.cell? ⟨q.t, 3, none⟩ = some (.map (some q.m)) /\ w.cell? ⟨q.t, 4, none⟩ = some q.s /\ w.cell? ⟨q.t, 5, none⟩ = some (.int .i64 T.live) /\ w.cell? ⟨q.t, 6, none⟩ = some (.int .i64 T.pending) /\ w.cell? ⟨q.t, 7, none⟩ = some (.int .i64 T.fallen) /\ ∀ j, w.frozen? ⟨q.t, j, none⟩ = false := by
 have := h.cells;unfold uW at this;simp [World.cell?, World.frozen?, this]
theorem valP_none {ps : List Pr} {k : List Int} (hk : k ∉ zS ps) : valP ps k = [] := by
 unfold valP;have : ps.find? (λ p => decide (p.1 = k)) = none := by
  rw [List.find?_eq_none];intro p hp he;rw [decide_eq_true_iff] at he;exact hk (he ▸ tP hp)
 rw [this]; rfl
theorem TblG.val (h : TblG w d l q T ks) (k : List Int) : Src w (q.V k) (u8s (valP T.ps k)) := by
 by_cases hk : k ∈ zS T.ps
 . obtain ⟨v, -, hm, hv⟩ := rA h.rise hk;rw [hv];exact Src.of_owns (h.vals _ hm)
 . rw [h.map.none' k hk, valP_none hk];exact .inr ⟨rfl, rfl⟩
theorem TblG.val_len (h : TblG w d l q T ks) (k : List Int) : (valP T.ps k).length <= 1024 := by
 by_cases hk : k ∈ zS T.ps
 . obtain ⟨v, -, hm, hv⟩ := rA h.rise hk;rw [hv];exact (h.good _ hm).2.2.2
 . rw [valP_none hk]; simp
def vX (w : World) (d l : Nat) (q : TBk) (T' : TblS) (ks : List (List Int)) (w' : World) : Prop :=
 ∃ q' : TBk, q'.t = q.t /\ q'.m = q.m /\ (∀ j, q'.all j -> q.all j \/ w.heap.size <= j) /\ Ext q.all w w' /\ TblG w' d l q' T' ks
theorem vX.trans {w1 w2 : World} {q1 : TBk} {T2 : TblS} (ht : q1.t = q.t) (hm : q1.m = q.m) (ha : ∀ j, q1.all j -> q.all j \/ w.heap.size <= j) (hX : Ext q.all w w1) (h2 : vX w1 d l q1 T2 ks w2) : vX w d l q T2 ks w2 := by
 obtain ⟨q2, t2, m2, a2, X2, S2⟩ := h2;refine ⟨q2, t2.trans ht, m2.trans hm, λ j hj => ?_, hX.trans X2 λ j hj h => ?_, S2⟩
 . rcases a2 j hj with h | h
   . exact ha j h
   . exact .inr (Nat.le_trans hX.size h)
 . rcases ha j h with h | h
   . exact h
   . omega
theorem vX.of_below {w1 w2 : World} {T2 : TblS} (hb : Below w.heap.size w w1) (h2 : vX w1 d l q T2 ks w2) : vX w d l q T2 ks w2 :=
 .trans rfl rfl (λ j h => .inl h) (Ext.of_below hb) h2
theorem vX.same (h : TblG w d l q T ks) (hb : Below w.heap.size w w') : vX w d l q T ks w' := ⟨q, rfl, rfl, λ j h => .inl h, Ext.of_below hb, h.below hb⟩
theorem TblG.head (h : TblG w d l q T ks) (j : Nat) (u : Value) (T' : TblS) (hps : T'.ps = T.ps) (hc : (uW d l q T).setIfInBounds j u = uW d l q T') : TblG (w.setCell ⟨q.t, j, none⟩ u) d l q T' ks := by
 have hb : ∀ k, k ≠ q.t -> (w.setCell ⟨q.t, j, none⟩ u).heap[k]? = w.heap[k]? := λ k hk => Below.heap_setCell _ _ _ _ hk;refine { cells := ?_, keys := yJ h.keys λ k e => hb k (h.ne1.2 k e).1, map := ?_, vals := ?_, rise := by rw [hps]; exact h.rise, good := by rw [hps]; exact h.good, ne1 := h.ne1, ne2 := h.ne2 }
 . rw [<- hc]; exact yB h.cells u
 . rw [hps]; exact h.map.keep (hb _ h.ne1.1.symm)
 . rw [hps]; exact λ p hp => yJ (h.vals p hp) λ k e => hb k (h.ne2 _ k e).1
theorem TblG.head_post (h : TblG w d l q T ks) (j : Nat) (u : Value) (T' : TblS) (hps : T'.ps = T.ps) (hc : (uW d l q T).setIfInBounds j u = uW d l q T') : vX w d l q T' ks (w.setCell ⟨q.t, j, none⟩ u) :=
 ⟨q, rfl, rfl, λ _ h => .inl h, Ext.setCell (.inl rfl) u, h.head j u T' hps hc⟩
theorem TblG.put {B : Nat} (h : TblG w d l q T ks) (k v : List Int) (hk : zO k) (hv : zO v) (hkl : k.length <= 64) (hvl : v.length <= 1024) (u : Value) (hown : w.ownsRow B 5 1 u v.length (u8s v)) (hu : ∀ j, u.ownBlock = some j -> ¬ q.all j) {w' : World}
 (hm : PMap w' q.m (uK (zS T.ps) k) (sY q.V k u)) (hX : Ext (· = q.m) w w') : TblG w' d l { q with V := sY q.V k u } { T with ps := putP T.ps k v } ks := by
 have hb : ∀ j, j < w.heap.size -> j ≠ q.m -> w'.heap[j]? = w.heap[j]? := λ j hj hne => hX.block j hj hne;refine { cells := ?_, keys := yJ h.keys λ j e => hb j (h.lt j (.inr (.inr (.inl e)))) (h.ne1.2 j e).2, map := hm.perm keys_perm_put, vals := λ p hp => ?_, rise := iL h.rise, good := λ p hp => ?_, ne1 := h.ne1, ne2 := λ i j e => ?_ }
 . show w'.heap[q.t]? = _;rw [hb _ (h.lt _ (.inl rfl)) h.ne1.1];exact h.cells
 . rcases mem_put hp with rfl | ⟨hp, hne⟩
   . simp only [sY, if_true];exact yC (yJ hown λ j e => hb j (xD hown e) (λ e2 => hu j e (.inr (.inl e2)))) λ j e => Nat.zero_le _
   . simp only [sY, if_neg hne];exact yJ (h.vals p hp) λ j e => hb j (xD (h.vals p hp) e) (h.ne2 _ j e).2.1
 . rcases mem_put hp with rfl | ⟨hp, hne⟩
   . exact ⟨hk, hv, hkl, hvl⟩
   . exact h.good p hp
 . simp only [sY] at e
   split at e
   . refine ⟨λ e2 => hu j e (.inl e2), λ e2 => hu j e (.inr (.inl e2)), λ e2 => hu j e (.inr (.inr (.inl e2)))⟩
   . exact h.ne2 i j e
theorem TblG.del (h : TblG w d l q T ks) (k : List Int) (hin : k ∈ zS T.ps) {w' : World} (hm : PMap w' q.m ((zS T.ps).erase k) (sY q.V k (.slice none 0 0))) (hX : Ext (· = q.m) w w') : TblG w' d l { q with V := sY q.V k (.slice none 0 0) } { T with ps := delP T.ps k } ks := by
 have hb : ∀ j, j < w.heap.size -> j ≠ q.m -> w'.heap[j]? = w.heap[j]? := λ j hj hne => hX.block j hj hne;refine { cells := ?_, keys := yJ h.keys λ j e => hb j (h.lt j (.inr (.inr (.inl e)))) (h.ne1.2 j e).2, map := hm.perm (keys_perm_del h.rise hin), vals := λ p hp => ?_, rise := iM h.rise, good := λ p hp => h.good p (mem_del h.rise hp).1, ne1 := h.ne1, ne2 := λ i j e => ?_ }
 . show w'.heap[q.t]? = _;rw [hb _ (h.lt _ (.inl rfl)) h.ne1.1];exact h.cells
 . obtain ⟨hp, hne⟩ := mem_del h.rise hp;simp only [sY, if_neg hne];exact yJ (h.vals p hp) λ j e => hb j (xD (h.vals p hp) e) (h.ne2 _ j e).2.1
 . simp only [sY] at e
   split at e
   . cases e
   . exact h.ne2 i j e
theorem TblG.rekey {w1 : World} {ks' : List (List Int)} (h : TblG w d l q T ks) (v : Value) (hown : w1.ownsRow 0 9 1 v ks'.length (strs ks')) (hX : Ext (λ j => q.s.ownBlock = some j) w w1) (hv : ∀ j, v.ownBlock = some j -> q.s.ownBlock = some j \/ w.heap.size <= j) :
 vX w d l q T ks' (w1.setCell ⟨q.t, 4, none⟩ v) := by
 have hlt := h.lt;have hb : ∀ j, j < w.heap.size -> q.s.ownBlock ≠ some j -> w1.heap[j]? = w.heap[j]? := λ j hj hne => hX.block j hj hne;have hb2 : ∀ j, j ≠ q.t -> (w1.setCell ⟨q.t, 4, none⟩ v).heap[j]? = w1.heap[j]? := λ k hk => Below.heap_setCell _ _ _ _ hk;have hnt : q.s.ownBlock ≠ some q.t := λ e => (h.ne1.2 _ e).1 rfl;have hnm : q.s.ownBlock ≠ some q.m := λ e => (h.ne1.2 _ e).2 rfl;have hvn : ∀ j, v.ownBlock = some j -> j ≠ q.t /\ j ≠ q.m /\ ∀ k, (q.V k).ownBlock ≠ some j := λ j e => by
  rcases hv j e with e | e
  . exact ⟨(h.ne1.2 j e).1, (h.ne1.2 j e).2, λ k e2 => (h.ne2 k j e2).2.2 e⟩
  . have l1 := hlt q.t (.inl rfl);have l2 := hlt q.m (.inr (.inl rfl));exact ⟨by omega, by omega, λ k e2 => by have := hlt j (.inr (.inr (.inr ⟨k, e2⟩))); omega⟩
 refine ⟨{ q with s := v }, rfl, rfl, λ j hj => ?_, ?_, ?_⟩
 . rcases hj with e | e | e | e
   . exact .inl (.inl e)
   . exact .inl (.inr (.inl e))
   . exact (hv j e).imp (λ e => .inr (.inr (.inl e))) id
   . exact .inl (.inr (.inr (.inr e)))
 . exact (hX.mono (S' := q.all) (λ j _ e => .inr (.inr (.inl e)))).trans (Ext.setCell (S := q.all) (.inl rfl) v) (λ _ _ h => h)
 . refine { cells := ?_, keys := yJ hown λ j e => hb2 j (hvn j e).1, map := h.map.keep ?_, vals := λ p hp => yJ (h.vals p hp) λ j e => ?_, rise := h.rise, good := h.good, ne1 := ⟨h.ne1.1, λ j e => ⟨(hvn j e).1, (hvn j e).2.1⟩⟩, ne2 := λ k j e => ⟨(h.ne2 k j e).1, (h.ne2 k j e).2.1, λ e2 => (hvn j e2).2.2 k e⟩ }
   . have := yB (j := 4) ((hb q.t (hlt _ (.inl rfl)) hnt).trans h.cells) v;exact this
   . show (w1.setCell ⟨q.t, 4, none⟩ v).heap[q.m]? = _;rw [hb2 _ h.ne1.1.symm, hb _ (hlt _ (.inr (.inl rfl))) hnm]
   . show (w1.setCell ⟨q.t, 4, none⟩ v).heap[j]? = _;have := h.ne2 p.1 j e;rw [hb2 _ this.1, hb _ (xD (h.vals p hp) e) this.2.2]
end
end Go.Proofs.YtbjofbhhnmehgaaGreatDoor.TT
namespace Go.Hp
theorem take_eq {α : Type} {L xs : List α} {n : Nat} (h : L.take n = xs) (hn : n <= L.length) : ∃ R, L = xs ++ R /\ xs.length = n :=
 ⟨L.drop n, by rw [<- h, List.take_append_drop], by rw [<- h, List.length_take]; omega⟩
theorem insert_new {α : Type} {L xs vs : List α} {a N : Nat} (hL : L.take a = xs.take a) (hN : xs.length = N) (ha : a <= N) (hl : N + vs.length <= L.length) :
 (splice (splice L a vs) (a + vs.length) (xs.drop a)).take (N + vs.length) = xs.take a ++ (vs ++ xs.drop a) := by
 obtain ⟨R, hR, hra⟩ := take_eq hL (by omega);subst hR;generalize hA : xs.take a = A at *;have hAl : A.length = a := hra;generalize hD : xs.drop a = D at *;have hDl : D.length = N - a := by rw [<- hD, List.length_drop, hN]
 rw [List.length_append] at hl;have e1 : splice (A ++ R) a vs = A ++ (vs ++ R.drop vs.length) := by
  unfold splice;rw [List.take_append_of_le_length (by omega), List.take_of_length_le (by omega), <- hAl, <- List.drop_drop, List.drop_left]
 rw [e1];have e2 : splice (A ++ (vs ++ R.drop vs.length)) (a + vs.length) D = A ++ (vs ++ (D ++ (R.drop vs.length).drop D.length)) := by
  unfold splice;have h1 : A ++ (vs ++ R.drop vs.length) = (A ++ vs) ++ R.drop vs.length := by simp
  rw [h1, List.take_append_of_le_length (by simp; omega), List.take_of_length_le (by simp; omega), <- List.drop_drop];have h2 : a + vs.length = (A ++ vs).length := by simp [hAl]
  rw [h2, List.drop_left];simp
 rw [e2];have h3 : A ++ (vs ++ (D ++ (R.drop vs.length).drop D.length)) = (A ++ (vs ++ D)) ++ (R.drop vs.length).drop D.length := by simp
 rw [h3, List.take_append_of_le_length (by simp; omega), List.take_of_length_le (by simp; omega)]
theorem insert_in {α : Type} {L xs vs : List α} {a N : Nat} (hL : L.take N = xs) (hN : xs.length = N) (ha : a <= N) (hl : N + vs.length <= L.length) :
 (splice (splice L (a + vs.length) (xs.drop a)) a vs).take (N + vs.length) = xs.take a ++ (vs ++ xs.drop a) := by
 generalize hD : xs.drop a = D at *;have hDl : D.length = N - a := by rw [<- hD, List.length_drop, hN]
 have h1 : splice L (a + vs.length) D = L.take (a + vs.length) ++ (D ++ L.drop (a + vs.length + D.length)) := rfl;have hTl : (L.take (a + vs.length)).length = a + vs.length := by rw [List.length_take]; omega
 rw [h1];unfold splice;have h2 : (L.take (a + vs.length) ++ (D ++ L.drop (a + vs.length + D.length))).take a = xs.take a := by
  rw [List.take_append_of_le_length (by omega), List.take_take, <- hL, List.take_take]
  congr 1
  omega
 have h3 : (L.take (a + vs.length) ++ (D ++ L.drop (a + vs.length + D.length))).drop (a + vs.length) = D ++ L.drop (a + vs.length + D.length) := by
  conv => lhs; arg 1; rw [<- hTl]
  rw [List.drop_left]
 rw [h2, h3];have h4 : xs.take a ++ (vs ++ (D ++ L.drop (a + vs.length + D.length))) = (xs.take a ++ (vs ++ D)) ++ L.drop (a + vs.length + D.length) := by simp
 have h5 : (xs.take a).length = a := by rw [List.length_take]; omega
 rw [h4, List.take_append_of_le_length (by simp only [List.length_append, h5, hDl]; omega), List.take_of_length_le (by simp only [List.length_append, h5, hDl]; omega)]
theorem delete_in {α : Type} {L xs zs : List α} {a b N : Nat} (hL : L.take N = xs) (hN : xs.length = N) (hab : a <= b) (hb : b <= N) (hl : N <= L.length) (hz : zs.length = b - a) :
 (splice (splice L a (xs.drop b)) (N - (b - a)) zs).take (N - (b - a)) = xs.take a ++ xs.drop b := by
 generalize hD : xs.drop b = D at *;have hDl : D.length = N - b := by rw [<- hD, List.length_drop, hN]
 have hAl : (L.take a).length = a := by rw [List.length_take]; omega
 have h0 : L.take a = xs.take a := by rw [<- hL, List.take_take]; congr 1; omega
 have h1 : splice L a D = (L.take a ++ D) ++ L.drop (a + D.length) := by simp [splice]
 have hTl : (L.take a ++ D).length = N - (b - a) := by rw [List.length_append, hAl, hDl]; omega
 rw [h1];unfold splice;rw [List.take_append_of_le_length (by rw [List.length_take, List.length_append, hTl]; omega), List.take_take, Nat.min_self, List.take_append_of_le_length (by omega), List.take_of_length_le (by omega), h0]
end Go.Hp
namespace Go.Proofs.YtbjofbhhnmehgaaGreatDoor.SS
open Go.RowKit Go.RG Go.Hp Go.Proofs.YtbjofbhhnmehgaaGreatDoor
theorem mK : Tryz.prog.underlying 3 = some (.int .i64) := by kernel_rfl
theorem size_elm (w : World) : (Go.sizeOf 9).run Tryz.prog w = .ok 1 w := by kernel_rfl
theorem over_apart (w : World) (gv g o la ca lb cb : Nat) (vs L : List Value) (hv : Row w gv 9 vs) (hg : Row w g 9 L) (hne : gv ≠ g) (hL : L.length ≠ 0) :
 (callFunc 130 #[.slice (some ⟨gv, 0, none⟩) la ca, .slice (some ⟨g, o, none⟩) lb cb]).run Tryz.prog w = .ok (.value (.bool false)) w := by
 rw [run_callFunc_extern Tryz.func130 (by kernel_rfl) (by kernel_rfl) (by kernel_rfl) (e := Extern.SlicesOverlaps.overlaps #[73, 73] #[4]) (by kernel_rfl), Lib.run_overlaps_apart w 73 4 9 tK 1 size_elm ⟨gv, 0, none⟩ ⟨g, o, none⟩ la ca lb cb hne 9 9 vs.length L.length (by unfold Row at hv; simp [World.shape?, hv]) (by unfold Row at hg; simp [World.shape?, hg]) hL (hv.frozen 0) (hv.frozen _)];rfl
def InsPost (B : Nat) (w : World) (g n i : Nat) (xs vs : List Value) (e : Ending) (w' : World) : Prop :=
 ∃ v, e = .returned v /\ w'.ownsRow B 9 1 v (n + 1) (xs.take (i) ++ (vs ++ xs.drop (i))) /\ Ext (· = g) w w' /\ ∀ k, v.ownBlock = some k -> k = g \/ w.heap.size <= k
theorem insert_end (B g n cap gv : Nat) (xs vs : List Value) (w : World) (hown : w.ownsRow B 9 1 (.slice (some ⟨g, 0, none⟩) n cap) n xs) (hB : B <= w.heap.size) (hn : n <= 549755813888)
 (hv : Row w gv 9 vs) (hvl : vs.length = 1) (h1v : ∀ v ∈ vs, v.oneCell' = true) :
 Calls Tryz.prog 106 #[.slice (some ⟨g, 0, none⟩) n cap, .int .i64 n, .slice (some ⟨gv, 0, none⟩) 1 1] w (InsPost B w g n n xs vs) := by
 obtain ⟨i0, hi, hz0, hz1, hz2⟩ := info_parts nR;have hxl := sC hown;obtain ⟨L, hg, hLl, hLt, hnc, hcm⟩ := qJ hown;have Hown := zB hown; clear hown;have Hv := zB hv; clear hv;have hm1 : cap <= 9223372036854775807 := by simp only [maxLen] at hcm; omega
 have c1 : n + 1 <= maxLen := by unfold maxLen; omega
 have c2 : (n + 1) * 16 <= 140737488355328 := by omega
 have C3 : Hid (∀ j u, vs[j]? = some u -> w.cell? ((⟨gv, 0, none⟩ : Addr).add j) = some u) := λ j u h => by rw [Addr.add_lit, Nat.zero_add, Hv.out.cell]; exact h
 have H1v := zB h1v; clear h1v;have hvl' : vs.length = 1 * 1 := by omega
 clear hLt;go_enter Tryz.func106, Tryz.ntmps106
 go_wp2_with (at_builtin; refine mZ rfl _ _ 73 rfl B 9 i0 (.string .empty) 1 16 tK hi hz0 hz1 hz2 rfl (by decide) g n cap xs rfl Hown.out ⟨gv, 0, none⟩ 1 1 vs rfl hvl' C3.out H1v.out c1 c2 hB ?_; intro v' w1 hown' hgrow hnil)
 all_goals
  go_ret
  refine ⟨v', rfl, ?_, Ext.grown hgrow (λ k hk _ => by injection hk with hk; exact hk.symm), hnil⟩;rw [List.take_of_length_le (by omega), List.drop_of_length_le (by omega), List.append_nil];exact hown'
theorem insert_grow (B g n cap i gv : Nat) (xs vs : List Value) (w : World) (hown : w.ownsRow B 9 1 (.slice (some ⟨g, 0, none⟩) n cap) n xs) (hB : B <= w.heap.size) (hn : n <= 549755813888) (hin : i < n) (hroom : cap < n + 1)
 (hv : Row w gv 9 vs) (hvl : vs.length = 1) (h1v : ∀ v ∈ vs, v.oneCell' = true) (h1x : ∀ v ∈ xs, v.oneCell' = true) :
 Calls Tryz.prog 106 #[.slice (some ⟨g, 0, none⟩) n cap, .int .i64 i, .slice (some ⟨gv, 0, none⟩) 1 1] w (InsPost B w g n i xs vs) := by
 obtain ⟨i0, hi, hz0, hz1, hz2⟩ := info_parts nR;have hxl := sC hown;obtain ⟨L, hg, hLl, hLt, hnc, hcm⟩ := qJ hown;obtain rfl : cap = n := by omega
 have hgB := (hown.lt g rfl).1;have Hg := zB hg; clear hg;have HLt := zB hLt; clear hLt;have HLl := zB hLl; clear hLl;have Hv := zB hv; clear hv;clear hown;have hm1 : cap <= 9223372036854775807 := by simp only [maxLen] at hcm; omega
 have hci : ¬ cap = i := by omega
 have hii : (i : Int) <= (cap : Int) := by omega
 have hie : ((i : Int) == (cap : Int)) = false := by rw [beq_eq_false_iff_ne]; omega
 have hk : (cap : Int) + 1 - (i : Int) = ((cap + 1 - i : Nat) : Int) := by omega
 have Hk := zB hk; clear hk;have c1 : i * 1 <= L.length := by rw [HLl.out]; omega
 have c2 : 0 < cap + 1 - i := by omega
 have c3 : cap < i + (cap + 1 - i) := by omega
 have c4 : i + (cap + 1 - i) <= maxLen := by unfold maxLen; omega
 have c5 : (i + (cap + 1 - i)) * 16 <= 140737488355328 := by omega
 have H1v := zB h1v; clear h1v;have H1x := zB h1x; clear h1x;go_enter Tryz.func106, Tryz.ntmps106;have C2 : Hid (vs.length = Nat.min 1 (cap + 1 - i) * 1) := by
  show vs.length = min 1 (cap + 1 - i) * 1;rw [hvl, show min 1 (cap + 1 - i) = 1 by omega]
 go_wp2_with first | (at_builtin; go_loud (refine mJ rfl (.tmp 34) (.tmp 39) 73 3 rfl 9 i0 (.string .empty) .i64 .i64 1 16 tK mK hi hz0 hz1 hz2 rfl (by decide) g i cap (cap + 1 - i) rfl (congrArg (Value.int .i64) Hk.out) L Hg.out c1 c2 c3 c4 c5 ?_; intro w1 L1 cap1 hr1 ht1 hl1 hc1 hm2 hb1; have HV1 := zB (Hv.out.below hb1); have d2 : i + vs.length <= L1.length := by rw [hl1, hvl]; omega)) | (refine tI rfl (.tmp 43) (.tmp 44) 73 73 rfl 9 i0 1 tK hi hz1 (some ⟨w.heap.size, i, none⟩) (some ⟨gv, 0, none⟩) (cap + 1 - i) (cap1 - i) 1 1 rfl rfl w.heap.size (i) 9 L1 vs hr1 C2.out (λ _ => ⟨rfl, _, rfl, λ j v h => by rw [Addr.add_lit, Nat.zero_add, HV1.out.cell]; exact h⟩) d2 H1v.out ?_; intro w2 hr2 hx2)
 have hgl := Hg.out.lt;have HG2 := zB ((Hg.out.below hb1).ext hx2 (by omega));have hci1 : ¬ cap1 = i + 1 := by omega
 have hle1 : (i : Int) + 1 <= ((i + (cap + 1 - i) : Nat) : Int) := by omega
 clear hr1;simp only [zD];refine zR 8 (λ _ => none) fol (by kernel_rfl) (λ W hW hh => ?_);have hr3 := hr2.below hW;have HG3 := zB (HG2.out.below hW);clear hh hr2;simp only [fT]
 repeat ((first | refine lxM ?_ | refine lxF ?_ | refine zM rfl ?_); simp only [zD])
 refine zZ ?_;have hmin : (xs.drop (i)).length = Nat.min (cap - i) (i + (cap + 1 - i) - (i + 1)) * 1 := by
  show _ = min _ _ * 1;rw [List.length_drop, hxl, show min (cap - i) (i + (cap + 1 - i) - (i + 1)) = cap - i by omega];omega
 have hspl : (splice L1 (i) vs).length = cap1 * 1 := by rw [length_splice _ _ _ d2, hl1]
 have hfit : (i + 1) + (xs.drop (i)).length <= (splice L1 (i) vs).length := by
  rw [hspl, List.length_drop, hxl]; omega
 refine tI rfl (.tmp 50) (.tmp 53) 73 73 rfl 9 i0 1 tK hi hz1 (some ⟨w.heap.size, (i + 1), none⟩) (some ⟨g, i, none⟩) _ _ _ _ rfl rfl w.heap.size ((i + 1)) 9 _ (xs.drop (i)) hr3 hmin
  (λ _ => ⟨rfl, _, rfl, λ j v h => by
   rw [Addr.add_lit, HG3.out.cell];rw [<- HLt.out, List.getElem?_drop, List.getElem?_take] at h
   split at h
   . exact h
   . cases h⟩) hfit (λ v hv => H1x.out v (List.mem_of_mem_drop hv)) ?_
 intro w3 hr4 hx4;have Hr4 := zB hr4; clear hr4 hr3 hmin hfit;simp only [zD]
 go_wp2_with fail
 go_ret
 refine ⟨_, rfl, ?_, ?_, ?_⟩
 . rw [show i + (cap + 1 - i) = cap + 1 by omega];refine sB Hr4.out ?_ (by omega) hm2 ?_ hB
   . rw [length_splice _ _ _ (by rw [hspl, List.length_drop, hxl]; omega), hspl]
   . have := insert_new (L := L1) (xs := xs) (vs := vs) (a := i) (N := cap * 1) (by rw [Nat.mul_one] at ht1; rw [ht1, <- HLt.out, List.take_take, show min (i) (cap * 1) = i by omega]) hxl (by omega) (by rw [hl1, hvl]; omega);rw [<- this, hvl]
     congr 1
 . have e1 : Ext (· = g) w w1 := Ext.of_below hb1;have e2 : Ext (· = g) w w2 := e1.trans hx2 (λ k hk h => by omega);have e3 : Ext (· = g) w W := e2.trans (Ext.of_below (S := (· = g)) hW) (λ k hk h => h);exact e3.trans hx4 (λ k hk h => by omega)
 . intro k hk;exact .inr (Nat.le_of_eq (Option.some.inj hk))
theorem insert_room (B g n cap i gv : Nat) (xs vs : List Value) (w : World) (hown : w.ownsRow B 9 1 (.slice (some ⟨g, 0, none⟩) n cap) n xs) (hn : n <= 549755813888) (hin : i < n) (hroom : n + 1 <= cap)
 (hv : Row w gv 9 vs) (hne : gv ≠ g) (hvl : vs.length = 1) (h1v : ∀ v ∈ vs, v.oneCell' = true) (h1x : ∀ v ∈ xs, v.oneCell' = true) :
 Calls Tryz.prog 106 #[.slice (some ⟨g, 0, none⟩) n cap, .int .i64 i, .slice (some ⟨gv, 0, none⟩) 1 1] w (InsPost B w g n i xs vs) := by
 obtain ⟨i0, hi, hz0, hz1, hz2⟩ := info_parts nR;have hxl := sC hown;obtain ⟨L, hg, hLl, hLt, hnc, hcm⟩ := qJ hown;have hgB := (hown.lt g rfl).1;have hov := λ lb cb => over_apart w gv g ((i + 1)) 1 1 lb cb vs L hv hg hne (by omega);have Hg := zB hg; clear hg;have HLt := zB hLt; clear hLt;have HLl := zB hLl; clear hLl;have Hv := zB hv; clear hv;clear hown;have hm1 : cap <= 9223372036854775807 := by simp only [maxLen] at hcm; omega
 have hci : ¬ cap = i := by omega
 have hci1 : ¬ cap = i + 1 := by omega
 have hii : (i : Int) <= (n : Int) := by omega
 have hie : ((i : Int) == (n : Int)) = false := by rw [beq_eq_false_iff_ne]; omega
 have hin1 : (n : Int) + 1 <= (cap : Int) := by omega
 have H1v := zB h1v; clear h1v;have H1x := zB h1x; clear h1x;go_enter Tryz.func106, Tryz.ntmps106
 go_wp2_with (simp only [hov])
 clear hov;refine zR 8 (λ _ => none) fol (by kernel_rfl) (λ W hW hh => ?_);have HG1 := zB (Hg.out.below hW);have HV1 := zB (Hv.out.below hW);clear hh;simp only [fT]
 repeat ((first | refine lxM ?_ | refine lxF ?_ | refine zM rfl ?_); simp only [zD])
 refine zZ ?_;have hmin : (xs.drop (i)).length = Nat.min (n + 1 - i) (n - i) * 1 := by
  show _ = min _ _ * 1;rw [List.length_drop, hxl, show min (n + 1 - i) (n - i) = n - i by omega];omega
 have hfit : (i + 1) + (xs.drop (i)).length <= L.length := by
  rw [HLl.out, List.length_drop, hxl]; omega
 refine tI rfl (.tmp 73) (.tmp 76) 73 73 rfl 9 i0 1 tK hi hz1 (some ⟨g, (i + 1), none⟩) (some ⟨g, i, none⟩) _ _ _ _ rfl rfl g ((i + 1)) 9 L (xs.drop (i)) HG1.out hmin
  (λ _ => ⟨rfl, _, rfl, λ j v h => by
   rw [Addr.add_lit, HG1.out.cell];rw [<- HLt.out, List.getElem?_drop, List.getElem?_take] at h
   split at h
   . exact h
   . cases h⟩) hfit (λ v hv => H1x.out v (List.mem_of_mem_drop hv)) ?_
 intro w3 hr4 hx4;have HV3 := zB (HV1.out.ext hx4 hne);have d2 : i + vs.length <= (splice L ((i + 1)) (xs.drop (i))).length := by
  rw [length_splice _ _ _ hfit, HLl.out, hvl]; omega
 have C2 : Hid (vs.length = Nat.min 1 (n + 1 - i) * 1) := by
  show vs.length = min 1 (n + 1 - i) * 1;rw [hvl, show min 1 (n + 1 - i) = 1 by omega]
 simp only [zD]
 go_wp2_with (refine tI rfl (.tmp 80) (.tmp 81) 73 73 rfl 9 i0 1 tK hi hz1 (some ⟨g, i, none⟩) (some ⟨gv, 0, none⟩) _ _ _ _ rfl rfl g (i) 9 _ vs hr4 C2.out (λ _ => ⟨rfl, _, rfl, λ j v h => by rw [Addr.add_lit, Nat.zero_add, HV3.out.cell]; exact h⟩) d2 H1v.out ?_; intro w5 hr5 hx5)
 go_ret
 refine ⟨_, rfl, ?_, ?_, ?_⟩
 . refine sB hr5 ?_ hroom hcm ?_ hgB
   . rw [length_splice _ _ _ d2, length_splice _ _ _ hfit, HLl.out]
   . have := insert_in (L := L) (xs := xs) (vs := vs) (a := i) (N := n * 1) HLt.out hxl (by omega) (by rw [HLl.out, hvl]; omega);rw [<- this, hvl]
     congr 1
 . have e1 : Ext (· = g) w W := Ext.of_below hW;have e2 : Ext (· = g) w w3 := e1.trans hx4 (λ k hk h => h);exact e2.trans hx5 (λ k hk h => h)
 . intro k hk;exact .inl (Option.some.inj hk).symm
theorem insert_nil (gv : Nat) (vs : List Value) (w : World)
 (hv : Row w gv 9 vs) (hvl : vs.length = 1) (h1v : ∀ v ∈ vs, v.oneCell' = true) :
 Calls Tryz.prog 106 #[.slice none 0 0, .int .i64 0, .slice (some ⟨gv, 0, none⟩) 1 1] w λ e w' => ∃ v, e = .returned v /\ w'.ownsRow w.heap.size 9 1 v 1 vs /\ Below w.heap.size w w' := by
 obtain ⟨i0, hi, hz0, hz1, hz2⟩ := info_parts nR;have Hv := zB hv; clear hv;have C3 : Hid (∀ j u, vs[j]? = some u -> w.cell? ((⟨gv, 0, none⟩ : Addr).add j) = some u) := λ j u h => by rw [Addr.add_lit, Nat.zero_add, Hv.out.cell]; exact h
 have H1v := zB h1v; clear h1v;have hvl' : vs.length = 1 * 1 := by omega
 have hown : w.ownsRow w.heap.size 9 1 (.slice none 0 0) 0 [] := ⟨rfl, .inl ⟨rfl, rfl⟩⟩;have c1 : 0 + 1 <= maxLen := by decide
 have c2 : (0 + 1) * 16 <= 140737488355328 := by decide
 go_enter Tryz.func106, Tryz.ntmps106
 go_wp2_with (at_builtin; refine wpList_append_own _ rfl _ _ 73 rfl w.heap.size 9 i0 (.string .empty) 1 16 tK hi hz0 hz1 hz2 rfl (by decide) _ _ _ rfl hown ⟨gv, 0, none⟩ 1 1 vs rfl hvl' C3.out H1v.out c1 c2 (Nat.le_refl _) ?_; intro v' w1 hown' hgrow hnil)
 go_ret
 exact ⟨v', rfl, by simpa using hown', (Below.refl _ _).grown hgrow (Nat.le_refl _) (λ k hk => by cases hk)⟩
theorem insert_any (B g n cap i gv : Nat) (xs vs : List Value) (w : World) (hown : w.ownsRow B 9 1 (.slice (some ⟨g, 0, none⟩) n cap) n xs) (hB : B <= w.heap.size) (hn : n <= 549755813888) (hin : i <= n)
 (hv : Row w gv 9 vs) (hne : gv ≠ g) (hvl : vs.length = 1) (h1v : ∀ v ∈ vs, v.oneCell' = true) (h1x : ∀ v ∈ xs, v.oneCell' = true) :
 Calls Tryz.prog 106 #[.slice (some ⟨g, 0, none⟩) n cap, .int .i64 i, .slice (some ⟨gv, 0, none⟩) 1 1] w (InsPost B w g n i xs vs) := by
 rcases Nat.eq_or_lt_of_le hin with rfl | h
 . exact insert_end B g i cap gv xs vs w hown hB hn hv hvl h1v
 . rcases Nat.lt_or_ge cap (n + 1) with h2 | h2
   . exact insert_grow B g n cap i gv xs vs w hown hB hn h h2 hv hvl h1v h1x
   . exact insert_room B g n cap i gv xs vs w hown hn h h2 hv hne hvl h1v h1x
end Go.Proofs.YtbjofbhhnmehgaaGreatDoor.SS
namespace Go.Proofs.YtbjofbhhnmehgaaGreatDoor.SS
open Go.RowKit Go.RG Go.Hp Go.Proofs.YtbjofbhhnmehgaaGreatDoor
def DelPost (B : Nat) (w : World) (g n cap i : Nat) (xs : List Value) (e : Ending) (w' : World) : Prop :=
 e = .returned (.slice (some ⟨g, 0, none⟩) (n - 1) cap) /\ w'.ownsRow B 9 1 (.slice (some ⟨g, 0, none⟩) (n - 1) cap) (n - 1) (xs.take (i * 1) ++ xs.drop ((i + 1) * 1)) /\ Ext (· = g) w w'
theorem delete_any (B g n cap i : Nat) (xs : List Value) (w : World) (hown : w.ownsRow B 9 1 (.slice (some ⟨g, 0, none⟩) n cap) n xs) (hn : n <= 549755813888) (hin : i < n) (h1x : ∀ v ∈ xs, v.oneCell' = true) :
 Calls Tryz.prog 107 #[.slice (some ⟨g, 0, none⟩) n cap, .int .i64 i, .int .i64 ((i : Int) + 1)] w (DelPost B w g n cap i xs) := by
 obtain ⟨i0, hi, hz0, hz1, hz2⟩ := info_parts nR;have hxl := sC hown;obtain ⟨L, hg, hLl, hLt, hnc, hcm⟩ := qJ hown;have hgB := (hown.lt g rfl).1;have Hg := zB hg; clear hg;have HLt := zB hLt; clear hLt;have HLl := zB hLl; clear hLl;clear hown;have hm1 : cap <= 9223372036854775807 := by simp only [maxLen] at hcm; omega
 have hii : (i : Int) + 1 <= (n : Int) := by omega
 have hie : ((i : Int) == (i : Int) + 1) = false := by rw [beq_eq_false_iff_ne]; omega
 have H1x := zB h1x; clear h1x;have hci : ¬ cap = i := by omega
 by_cases hci1 : cap = i + 1
 . obtain rfl : n = i + 1 := by omega
   subst hci1;have hDl : (xs.drop ((i + 1) * 1)).length = 0 * 1 := by rw [List.length_drop, hxl]; omega
   have hroom : i + 0 <= i + 1 := by omega
   have hfit : i * 1 + (xs.drop ((i + 1) * 1)).length <= L.length := by rw [hDl, HLl.out]; omega
   have hfit2 : (i + 0) + 1 * 1 <= (splice L (i * 1) (xs.drop ((i + 1) * 1))).length := by
    rw [length_splice _ _ _ hfit, HLl.out]; omega
   go_enter Tryz.func107, Tryz.ntmps107
   go_wp2_with fail
   refine zR 6 (λ _ => none) fol (by kernel_rfl) (λ W hW hh => ?_);have HG1 := zB (Hg.out.below hW);clear hh;simp only [fT]
   repeat ((first | refine lxM ?_ | refine lxF ?_ | refine zM rfl ?_); simp only [zD])
   refine zZ ?_;refine qE rfl (.tmp 22) (.tmp 25) 73 rfl 9 i0 1 tK hi hz1 g i _ _ (0) _ rfl rfl L (xs.drop ((i + 1) * 1)) HG1.out hDl
    (λ hpos => by
     omega) (λ v hv => H1x.out v (List.mem_of_mem_drop hv)) hroom hfit ?_
   intro w3 hr4 hx4;simp only [zD]
   go_wp2_with (refine nZ rfl (.tmp 31) 73 rfl 9 i0 (.string .empty) 1 tK hi hz0 rfl (by decide) (by decide) g ((i + (0))) (1) _ rfl 9 _ hr4 hfit2 ?_; intro w5 zs hzl hr5 hx5)
   go_ret
   refine ⟨rfl, ?_, ?_⟩
   . refine sB hr5 ?_ (by omega) hcm ?_ hgB
     . rw [length_splice _ _ _ (by rw [hzl]; exact hfit2), length_splice _ _ _ hfit, HLl.out]
     . have := delete_in (L := L) (xs := xs) (zs := zs) (a := i * 1) (b := (i + 1) * 1) (N := _) HLt.out hxl (by omega) (by omega) (by rw [HLl.out]; omega) (by rw [hzl]; omega)
       first | rw [<- this] | (simp only [Nat.add_sub_cancel] at this ⊢; rw [<- this])
       congr 1
       . omega
       . congr 1
         omega
   . have e1 : Ext (· = g) w W := Ext.of_below hW;have e2 : Ext (· = g) w w3 := e1.trans hx4 (λ k hk h => h);exact e2.trans hx5 (λ k hk h => h)
 . have hDl : (xs.drop ((i + 1) * 1)).length = (n - (i + 1)) * 1 := by rw [List.length_drop, hxl]; omega
   have hroom : i + (n - (i + 1)) <= cap := by omega
   have hfit : i * 1 + (xs.drop ((i + 1) * 1)).length <= L.length := by rw [hDl, HLl.out]; omega
   have hfit2 : (i + (n - (i + 1))) + (n - (i + (n - (i + 1)))) * 1 <= (splice L (i * 1) (xs.drop ((i + 1) * 1))).length := by
    rw [length_splice _ _ _ hfit, HLl.out]; omega
   have hcn : ¬ cap = i + (n - (i + 1)) := by omega
   go_enter Tryz.func107, Tryz.ntmps107
   go_wp2_with fail
   refine zR 6 (λ _ => none) fol (by kernel_rfl) (λ W hW hh => ?_);have HG1 := zB (Hg.out.below hW);clear hh;simp only [fT]
   repeat ((first | refine lxM ?_ | refine lxF ?_ | refine zM rfl ?_); simp only [zD])
   refine zZ ?_;refine qE rfl (.tmp 22) (.tmp 25) 73 rfl 9 i0 1 tK hi hz1 g i _ _ (n - (i + 1)) _ rfl rfl L (xs.drop ((i + 1) * 1)) HG1.out hDl
    (λ hpos => by
     exact ⟨_, rfl, λ j v h => by rw [Addr.add_lit, HG1.out.cell]; rw [<- HLt.out, List.getElem?_drop, List.getElem?_take] at h; split at h; (first | exact h | simpa using h); cases h⟩) (λ v hv => H1x.out v (List.mem_of_mem_drop hv)) hroom hfit ?_
   intro w3 hr4 hx4;simp only [zD]
   go_wp2_with (refine nZ rfl (.tmp 31) 73 rfl 9 i0 (.string .empty) 1 tK hi hz0 rfl (by decide) (by decide) g ((i + (n - (i + 1)))) (n - (i + (n - (i + 1)))) _ rfl 9 _ hr4 hfit2 ?_; intro w5 zs hzl hr5 hx5)
   go_ret
   refine ⟨by rw [show i + (n - (i + 1)) = n - 1 by omega]; rfl, ?_, ?_⟩
   . refine sB hr5 ?_ (by omega) hcm ?_ hgB
     . rw [length_splice _ _ _ (by rw [hzl]; exact hfit2), length_splice _ _ _ hfit, HLl.out]
     . have := delete_in (L := L) (xs := xs) (zs := zs) (a := i * 1) (b := (i + 1) * 1) (N := _) HLt.out hxl (by omega) (by omega) (by rw [HLl.out]; omega) (by rw [hzl]; omega)
       first | rw [<- this] | (simp only [Nat.add_sub_cancel] at this ⊢; rw [<- this])
       congr 1
       . omega
       . congr 1
         omega
   . have e1 : Ext (· = g) w W := Ext.of_below hW;have e2 : Ext (· = g) w w3 := e1.trans hx4 (λ k hk h => h);exact e2.trans hx5 (λ k hk h => h)
end Go.Proofs.YtbjofbhhnmehgaaGreatDoor.SS
namespace Go.Proofs.YtbjofbhhnmehgaaGreatDoor.TT
open Go.RowKit Go.RG Go.Hp Go.Proofs.YtbjofbhhnmehgaaGreatDoor
def TblS.change (T : TblS) (c : Chg) : TblS := { T with ps := chgP T.ps c, live := zU (chgP T.ps c) }
theorem pairN_pos (k v : List Int) : 2 <= yY k v := by
 unfold yY wW;obtain ⟨a, h1, -⟩ := rM k.length;obtain ⟨b, h2, -⟩ := rM v.length;simp only [List.length_append, zH, h1, h2];omega
theorem uY : ∀ (ps : List Pr), 2 * ps.length <= zU ps
 | [] => by simp [zU]
 | p :: ps => by
  have := uY ps;have := pairN_pos p.1 p.2;rw [rI, List.length_cons];omega
structure ChgAt (w : World) (q : TBk) (c : Chg) (va vb : Value) : Prop where
 key : Src w va (u8s c.key)
 value : Src w vb (u8s c.value)
 far : ∀ j, va.ownBlock = some j \/ vb.ownBlock = some j -> ¬ q.all j
 kb : zO c.key
 vb' : zO c.value
 kl : c.key.length <= 64
 vl : c.gone = true \/ c.value.length <= 1024
theorem xG {w w' : World} {v : Value} {xs : List Value} {S : Nat -> Prop} (h : Src w v xs) (hX : Ext S w w') (hS : ∀ j, v.ownBlock = some j -> ¬ S j) : Src w' v xs := by
 rcases h with ⟨g, o, c, rfl, hc, h⟩ | h
 . exact .inl ⟨g, o, c, rfl, hc, λ j u hu => hX.cell_some (h j u hu) (hS g rfl)⟩
 . exact .inr h
theorem change_none (d l : Nat) (q : TBk) (T : TblS) (c : Chg) (va vb : Value) (w : World) (h : sH w d l q T) (hsum : zU T.ps <= 1073741824) (hc : ChgAt w q c va vb) (hk : c.key ∉ zS T.ps) :
 Calls Tryz.prog 65 #[.pointer (some ⟨q.t, 0, none⟩), .agg #[va, vb, .bool true]] w λ e w' => (∃ t, e = .returned t) /\ vX w d l q T (zS T.ps) w' := by
 have HT := zB h;have HC := zB hc;have hlt := h.lt;have hb0 := zQ w (.cells #[va, vb, .bool true] 78);have g0 := World.alloc_heap_new w (.cells #[va, vb, .bool true] 78);have hs0 : (w.alloc (.cells #[va, vb, .bool true] 78)).heap.size = w.heap.size + 1 := by simp
 have hl2 := uY T.ps;have HS := zB (qY q.s (zS T.ps) h.rise (λ k hk => by obtain ⟨v, hv⟩ := uG hk; exact (h.good _ hv).1) c.key hc.kb (w.alloc (.cells #[va, vb, .bool true] 78)) (Src.of_owns (h.below hb0).keys) (by rw [xM]; omega));have hcv : Sem.run Tryz.prog (convert 52 9 va) (w.alloc (.cells #[va, vb, .bool true] 78)) = .ok (.string (strOfNums c.key)) (w.alloc (.cells #[va, vb, .bool true] 78)) := sQ (hc.key.below hb0);obtain ⟨-, -, -, c3, c4, c5, -, -, cf⟩ := h.cs;have c3' := zG hb0 c3;have c4' := zG hb0 c4;have k0 := yV g0 0 va rfl;have k1 := yV g0 1 vb rfl;have k2 := yV g0 2 (.bool true) rfl;clear g0;generalize hw0 : w.alloc (.cells #[va, vb, .bool true] 78) = w0 at *;clear h hc hl2;go_enter Tryz.func65, Tryz.ntmps65
 go_wp2_with (simp only [hw0])
 refine HS.out.mono ?_;rintro e w1 ⟨rfl, hB1⟩;clear HS;have k2' := zG hB1 k2;have hd : decide (c.key ∈ zS T.ps) = false := decide_eq_false hk;rw [hd]
 go_wp2_with fail
 go_end0
 refine ⟨⟨_, rfl⟩, vX.same HT.out (hb0.trans (hB1.mono hb0.size))⟩
theorem change_del (d l : Nat) (q : TBk) (T : TblS) (c : Chg) (va vb : Value) (w : World) (h : sH w d l q T) (hlive : T.live = zU T.ps) (hsum : zU T.ps <= 1073741824) (hc : ChgAt w q c va vb) (hk : c.key ∈ zS T.ps) :
 Calls Tryz.prog 65 #[.pointer (some ⟨q.t, 0, none⟩), .agg #[va, vb, .bool true]] w λ e w' => (∃ t, e = .returned t) /\ vX w d l q { T with ps := delP T.ps c.key, live := T.live - yY c.key (valP T.ps c.key) } (zS (delP T.ps c.key)) w' := by
 have HT := zB h;have HC := zB hc;have hlt := h.lt;have hb0 := zQ w (.cells #[va, vb, .bool true] 78);have g0 := World.alloc_heap_new w (.cells #[va, vb, .bool true] 78);have hs0 : (w.alloc (.cells #[va, vb, .bool true] 78)).heap.size = w.heap.size + 1 := by simp
 have hl2 := uY T.ps;have HS := zB (qY q.s (zS T.ps) h.rise (λ k hk => by obtain ⟨v, hv⟩ := uG hk; exact (h.good _ hv).1) c.key hc.kb (w.alloc (.cells #[va, vb, .bool true] 78)) (Src.of_owns (h.below hb0).keys) (by rw [xM]; omega));have hcv : Sem.run Tryz.prog (convert 52 9 va) (w.alloc (.cells #[va, vb, .bool true] 78)) = .ok (.string (strOfNums c.key)) (w.alloc (.cells #[va, vb, .bool true] 78)) := sQ (hc.key.below hb0);obtain ⟨-, -, -, c3, c4, c5, -, -, cf⟩ := h.cs;have c3' := zG hb0 c3;have c4' := zG hb0 c4;have k0 := yV g0 0 va rfl;have k1 := yV g0 1 vb rfl;have k2 := yV g0 2 (.bool true) rfl;clear g0;generalize hw0 : w.alloc (.cells #[va, vb, .bool true] 78) = w0 at *;clear h hc hl2;go_enter Tryz.func65, Tryz.ntmps65
 go_wp2_with (simp only [hw0])
 refine HS.out.mono ?_;rintro e w1 ⟨rfl, hB1⟩;clear HS;have HL := zB hlive; clear hlive;have k0' := zG hB1 k0;have k1' := zG hB1 k1;have k2' := zG hB1 k2;have c3'' := zG hB1 c3';have c4'' := zG hB1 c4';have hT1 := (HT.out.below hb0).below hB1;have c5'' := hT1.cs.2.2.2.2.2.1;have cf'' := hT1.cs.2.2.2.2.2.2.2.2;have hle := val_le HT.out.rise hk;rw [<- HL.out] at hle;have HV := zB (hT1.val c.key);have HVl := hT1.val_len c.key;have HM := zB hT1.map;have HK := zB ((HC.out.key.below hb0).below hB1);have hd : decide (c.key ∈ zS T.ps) = true := decide_eq_true hk;have e1 : (T.live : Int) - (yY c.key (valP T.ps c.key) : Int) = ((T.live - yY c.key (valP T.ps c.key) : Nat) : Int) := by omega
 have e2 := (IntWalk.i64_in ((T.live : Int) - (yY c.key (valP T.ps c.key) : Int)) (by have := HL.out; omega)).trans e1;have hkl := HC.out.kl;have hkb := HC.out.kb;have hqt := hlt q.t (.inl rfl);have hqm := hlt q.m (.inr (.inl rfl));have hwt : ¬ w.heap.size = q.t := by omega
 have HT1 := zB hT1;clear hT1 e1;clear c3' c4' k0 k1 k2 c3 c4 c5 cf hcv;rw [hd];clear hd
 go_wp2_with fail
 refine zR 13 (λ i => if i = 12 then some (λ v _ => v = .int .i64 (yY c.key (valP T.ps c.key))) else none) fol (by kernel_rfl) (λ W hW hh => ?_);clear hh;simp only [fT];have r0 := zV hW k0';have r3 := zV hW c3'';have r5 := zV hW c5'';have hlk : ∀ w2, Below W.heap.size W w2 -> Sem.run Tryz.prog (Instr.lookup 72 (.map (some q.m)) (.string (strOfNums c.key)) false) w2 = .ok (q.V c.key) w2 := λ w2 h2 => ((HT1.out.below hW).below h2).map.look c.key hkb (by omega)
 repeat ((first | refine lxM ?_ | refine lxF ?_ | refine zM rfl ?_); simp only [zD])
 refine zW _ rfl (λ _ _ _ h _ => h) rfl (λ w1 hb1 hf1 => ?_) ?_
 . have hb1' := hb1
   (unfold yE; go_simp; simp only [zN])
   refine (wV va (q.V c.key) c.key (valP T.ps c.key) _ ((HK.out.below hW).below hb1') (((HT1.out.below hW).below hb1').val c.key) (by omega) (by omega)).mono ?_;rintro e w' ⟨rfl, hB⟩;exact ⟨_, rfl, hB, rfl⟩
 rintro v3 W3 hB3 rfl;simp only [zD]
 repeat ((first | refine lxM ?_ | refine lxF ?_ | refine zM rfl ?_); simp only [zD])
 refine zZ ?_;have hBW := zF hW hB3;clear r0 r3 r5 hlk hW hB3;have k0 := zG hBW k0';have k1 := zG hBW k1';have k2 := zG hBW k2';have HT3 := zB (HT1.out.below hBW);have HK3 := zB (HK.out.below hBW);have H03 := zB ((hb0.trans (hB1.mono hb0.size)).trans (hBW.mono (Nat.le_trans hb0.size hB1.size)));have hs3 := H03.out.size;have hbw := Nat.le_trans hB1.size hBW.size;have c3 := HT3.out.cs.2.2.2.1;have c4 := HT3.out.cs.2.2.2.2.1;have c5 := HT3.out.cs.2.2.2.2.2.1;have cf := HT3.out.cs.2.2.2.2.2.2.2.2;clear k0' k1' k2' c3'' c4'' c5'' cf'' HT1 HK HM HV hBW hB1;have hT4 := HT3.out.head 5 (.int .i64 ((T.live - yY c.key (valP T.ps c.key) : Nat) : Int)) { T with live := T.live - yY c.key (valP T.ps c.key) } rfl rfl;have hP4 := HT3.out.head_post 5 (.int .i64 ((T.live - yY c.key (valP T.ps c.key) : Nat) : Int)) { T with live := T.live - yY c.key (valP T.ps c.key) } rfl rfl;obtain ⟨W4, hr4, hm4, hX4⟩ := hT4.map.drop c.key hkb (by omega) hk 0;have hT5 := hT4.del c.key hk hm4 hX4;obtain ⟨g, cap, hqs⟩ : ∃ g cap, q.s = .slice (some ⟨g, 0, none⟩) (zS T.ps).length cap := by
  rcases hT4.keys.2 with ⟨h1, h2⟩ | ⟨g, cap, cur, h1, -⟩
  . rw [List.length_eq_zero_iff.1 h2] at hk; cases hk
  . exact ⟨g, cap, h1⟩
 have hpos := posK_at HT3.out.rise hk;have hposl := (List.getElem?_eq_some_iff.1 hpos).1;have hlen : (zS T.ps).length <= 549755813888 := by have := uY T.ps; rw [xM]; omega
 have HD := zB (SS.delete_any 0 g (zS T.ps).length cap (posK (zS T.ps) c.key) (strs (zS T.ps)) W4 (by have := hT5.keys; rw [<- hqs]; exact this) hlen hposl (iI _));have HX := zB (zC hT5 (zC hP4 hX4));have c4a := hT5.cs.2.2.2.2.1;have cfa := hT5.cs.2.2.2.2.2.2.2.2;simp only at c4a cfa;clear hT4 hT5 hP4 hm4 hX4 hpos;have Hqs := zB hqs;clear hqs
 go_wp2_with fail
 rw [Hqs.out];refine HD.out.mono ?_;rintro e W5 ⟨rfl, hown5, hX5⟩;have hlt5 := HX.out.1.lt q.t (.inl rfl);have hne5 : ¬ g = q.t := λ e => (HX.out.1.ne1.2 g (by rw [Hqs.out, e]; rfl)).1 e;have c4b : W5.cell? ⟨q.t, 4, none⟩ = some q.s := hX5.cell_some c4a (λ e => hne5 e.symm);have cfb : ∀ j, W5.frozen? ⟨q.t, j, none⟩ = false := λ j => by
  have := hX5.block q.t hlt5 (λ e => hne5 e.symm);have h2 := cfa j;simp only [World.frozen?] at h2 ⊢;rw [this];exact h2
 have e3 : (zS (delP T.ps c.key)).length = (zS T.ps).length - 1 := by
  rw [iU, if_pos hk, List.length_append, List.length_take, List.length_drop];omega
 have hR := HX.out.1.rekey (.slice (some ⟨g, 0, none⟩) ((zS T.ps).length - 1) cap) (ks' := zS (delP T.ps c.key)) (w1 := W5) (by
  rw [e3];have e4 : strs (zS (delP T.ps c.key)) = (strs (zS T.ps)).take (posK (zS T.ps) c.key * 1) ++ (strs (zS T.ps)).drop ((posK (zS T.ps) c.key + 1) * 1) := by
   rw [iU, if_pos hk, Nat.mul_one, Nat.mul_one];simp [strs, List.map_take, List.map_drop]
  rw [e4];exact hown5) (hX5.mono λ j _ e => by subst e; show q.s.ownBlock = _; rw [Hqs.out]; rfl) (λ j e => .inl (by show q.s.ownBlock = _; rw [Hqs.out]; exact e))
 have HR := zB hR;clear hR hown5
 go_wp2_with fail
 go_end0
 refine ⟨⟨_, rfl⟩, vX.of_below H03.out ?_⟩;refine vX.trans rfl rfl (λ j h => .inl h) (Ext.setCell (S := q.all) (w := W3) (p := ⟨q.t, 5, none⟩) (.inl rfl) (.int .i64 ((T.live - yY c.key (valP T.ps c.key) : Nat) : Int))) ?_;refine vX.trans (q1 := { q with V := sY q.V c.key (.slice none 0 0) }) rfl rfl (λ j h => ?_) (HX.out.2.2.mono λ j _ e => .inr (.inl e)) HR.out;rcases h with h | h | h | ⟨k, h⟩
 . exact .inl (.inl h)
 . exact .inl (.inr (.inl h))
 . exact .inl (.inr (.inr (.inl h)))
 . simp only [sY] at h
   split at h
   . cases h
   . exact .inl (.inr (.inr (.inr ⟨k, h⟩)))
theorem oC {k v : List Int} (hk : k.length <= 64) (hv : v.length <= 1024) : yY k v <= 1108 := by
 unfold yY wW;have := xU k.length (by omega);have := xU v.length (by omega);simp only [List.length_append, zH];omega
theorem setVK_all {q : TBk} {k : List Int} {u : Value} {n : Nat} (hu : ∀ j, u.ownBlock = some j -> n <= j) : ∀ j, ({ q with V := sY q.V k u } : TBk).all j -> q.all j \/ n <= j := λ j h => by
 rcases h with h | h | h | ⟨i, h⟩
 . exact .inl (.inl h)
 . exact .inl (.inr (.inl h))
 . exact .inl (.inr (.inr (.inl h)))
 . simp only [sY] at h
   split at h
   . exact .inr (hu j h)
   . exact .inl (.inr (.inr (.inr ⟨i, h⟩)))
theorem change_in (d l : Nat) (q : TBk) (T : TblS) (c : Chg) (va vb : Value) (w : World) (h : sH w d l q T) (hlive : T.live = zU T.ps) (hsum : zU T.ps <= 1073741824) (hc : ChgAt w q c va vb) (hvl0 : c.value.length <= 1024) (hk : c.key ∈ zS T.ps) :
 Calls Tryz.prog 65 #[.pointer (some ⟨q.t, 0, none⟩), .agg #[va, vb, .bool false]] w λ e w' => (∃ t, e = .returned t) /\ vX w d l q { T with ps := putP T.ps c.key c.value, live := T.live - yY c.key (valP T.ps c.key) + yY c.key c.value } (zS T.ps) w' := by
 have HVL := zB hvl0;clear hvl0;have HT := zB h;have HC := zB hc;have hlt := h.lt;have hb0 := zQ w (.cells #[va, vb, .bool false] 78);have g0 := World.alloc_heap_new w (.cells #[va, vb, .bool false] 78);have hs0 : (w.alloc (.cells #[va, vb, .bool false] 78)).heap.size = w.heap.size + 1 := by simp
 have hl2 := uY T.ps;have HS := zB (qY q.s (zS T.ps) h.rise (λ k hk => by obtain ⟨v, hv⟩ := uG hk; exact (h.good _ hv).1) c.key hc.kb (w.alloc (.cells #[va, vb, .bool false] 78)) (Src.of_owns (h.below hb0).keys) (by rw [xM]; omega));have hcv : Sem.run Tryz.prog (convert 52 9 va) (w.alloc (.cells #[va, vb, .bool false] 78)) = .ok (.string (strOfNums c.key)) (w.alloc (.cells #[va, vb, .bool false] 78)) := sQ (hc.key.below hb0);obtain ⟨-, -, -, c3, c4, c5, -, -, cf⟩ := h.cs;have c3' := zG hb0 c3;have c4' := zG hb0 c4;have k0 := yV g0 0 va rfl;have k1 := yV g0 1 vb rfl;have k2 := yV g0 2 (.bool false) rfl;clear g0;generalize hw0 : w.alloc (.cells #[va, vb, .bool false] 78) = w0 at *;clear h hc hl2;go_enter Tryz.func65, Tryz.ntmps65
 go_wp2_with (simp only [hw0])
 refine HS.out.mono ?_;rintro e w1 ⟨rfl, hB1⟩;clear HS;have HL := zB hlive; clear hlive;have k0' := zG hB1 k0;have k1' := zG hB1 k1;have k2' := zG hB1 k2;have c3'' := zG hB1 c3';have c4'' := zG hB1 c4';have hT1 := (HT.out.below hb0).below hB1;have c5'' := hT1.cs.2.2.2.2.2.1;have cf'' := hT1.cs.2.2.2.2.2.2.2.2;have hle := val_le HT.out.rise hk;rw [<- HL.out] at hle;have HV := zB (hT1.val c.key);have HVl := hT1.val_len c.key;have HM := zB hT1.map;have HK := zB ((HC.out.key.below hb0).below hB1);have hd : decide (c.key ∈ zS T.ps) = true := decide_eq_true hk;have e1 : (T.live : Int) - (yY c.key (valP T.ps c.key) : Int) = ((T.live - yY c.key (valP T.ps c.key) : Nat) : Int) := by omega
 have e2 := (IntWalk.i64_in ((T.live : Int) - (yY c.key (valP T.ps c.key) : Int)) (by have := HL.out; omega)).trans e1;have hkl := HC.out.kl;have hkb := HC.out.kb;have hqt := hlt q.t (.inl rfl);have hqm := hlt q.m (.inr (.inl rfl));have hwt : ¬ w.heap.size = q.t := by omega
 have HT1 := zB hT1;clear hT1 e1;clear c3' c4' k0 k1 k2 c3 c4 c5 cf hcv;rw [hd];clear hd
 go_wp2_with fail
 refine zR 13 (λ i => if i = 12 then some (λ v _ => v = .int .i64 (yY c.key (valP T.ps c.key))) else none) fol (by kernel_rfl) (λ W hW hh => ?_);clear hh;simp only [fT];have r0 := zV hW k0';have r3 := zV hW c3'';have r5 := zV hW c5'';have hlk : ∀ w2, Below W.heap.size W w2 -> Sem.run Tryz.prog (Instr.lookup 72 (.map (some q.m)) (.string (strOfNums c.key)) false) w2 = .ok (q.V c.key) w2 := λ w2 h2 => ((HT1.out.below hW).below h2).map.look c.key hkb (by omega)
 repeat ((first | refine lxM ?_ | refine lxF ?_ | refine zM rfl ?_); simp only [zD])
 refine zW _ rfl (λ _ _ _ h _ => h) rfl (λ w1 hb1 hf1 => ?_) ?_
 . have hb1' := hb1
   (unfold yE; go_simp; simp only [zN])
   refine (wV va (q.V c.key) c.key (valP T.ps c.key) _ ((HK.out.below hW).below hb1') (((HT1.out.below hW).below hb1').val c.key) (by omega) (by omega)).mono ?_;rintro e w' ⟨rfl, hB⟩;exact ⟨_, rfl, hB, rfl⟩
 rintro v3 W3 hB3 rfl;simp only [zD]
 repeat ((first | refine lxM ?_ | refine lxF ?_ | refine zM rfl ?_); simp only [zD])
 refine zZ ?_;have hBW := zF hW hB3;clear r0 r3 r5 hlk hW hB3;have k0 := zG hBW k0';have k1 := zG hBW k1';have k2 := zG hBW k2';have HT3 := zB (HT1.out.below hBW);have HK3 := zB (HK.out.below hBW);have H03 := zB ((hb0.trans (hB1.mono hb0.size)).trans (hBW.mono (Nat.le_trans hb0.size hB1.size)));have hs3 := H03.out.size;have hbw := Nat.le_trans hB1.size hBW.size;have c3 := HT3.out.cs.2.2.2.1;have c4 := HT3.out.cs.2.2.2.2.1;have c5 := HT3.out.cs.2.2.2.2.2.1;have cf := HT3.out.cs.2.2.2.2.2.2.2.2;clear k0' k1' k2' c3'' c4'' c5'' cf'' HT1 HK HM HV hBW hB1;have HTa := zB (HT3.out.head 5 (.int .i64 ((T.live - yY c.key (valP T.ps c.key) : Nat) : Int)) { T with live := T.live - yY c.key (valP T.ps c.key) } rfl rfl);have hXa := Ext.setCell (S := (· = q.t)) (w := W3) (p := ⟨q.t, 5, none⟩) rfl (.int .i64 ((T.live - yY c.key (valP T.ps c.key) : Nat) : Int));have k0a := hXa.cell_some k0 hwt;have k1a := hXa.cell_some k1 hwt;have k2a := hXa.cell_some k2 hwt;have HKa := zB (xG HK3.out hXa (λ j hj e => HC.out.far j (.inl hj) (.inl e)));have HVa := zB (xG (HC.out.value.below H03.out) hXa (λ j hj e => HC.out.far j (.inr hj) (.inl e)));have HXa := zB (hXa.mono (S' := q.all) λ j _ e => .inl e);have hsa := Nat.le_trans hs3 hXa.size;have HLV : T.live - yY c.key (valP T.ps c.key) <= 1073741824 := by have := HL.out; omega
 clear hXa
 go_wp2_with fail
 generalize W3.setCell ⟨q.t, 5, none⟩ (.int .i64 ((T.live - yY c.key (valP T.ps c.key) : Nat) : Int)) = Wa at *;generalize hlv : T.live - yY c.key (valP T.ps c.key) = lv at *;have HLE := zB hlv;clear hlv;clear k0 k1 k2 c3 c4 c5 cf e2 hle;have k0 := k0a;have k1 := k1a;have hlta := HTa.out.lt;have c3 := HTa.out.cs.2.2.2.1;have hpl := oC HC.out.kl HVL.out;have e5 := IntWalk.i64_in ((lv : Int) + (yY c.key c.value : Int)) (by omega);have hkl := HC.out.kl;have hvl := HVL.out;have hkb := HC.out.kb;refine zR 8 (λ i => if i = 7 then some (λ v w' => w'.ownsRow Wa.heap.size 5 1 v (u8s c.value).length (u8s c.value)) else none) fol (by kernel_rfl) (λ W hW hh => ?_);clear hh;simp only [fT];have r1 := zV hW k1;have r3 := zV hW c3;have hsz6 := hW.size
 repeat ((first | refine lxM ?_ | refine lxF ?_ | refine zM rfl ?_); simp only [zD])
 refine zW _ rfl (by exact λ _ _ _ h hb => yA h hb) rfl (λ w1 hb1 hf1 => ?_) ?_
 . have hb1' := hb1
   (unfold yE; go_simp; simp only [zN])
   refine (clone_any vb (u8s c.value) _ ((HVa.out.below hW).below hb1') (yU _) (by rw [zH]; omega)).mono ?_;rintro e w' ⟨u, rfl, hown, hB⟩;exact ⟨u, rfl, hB, yC hown λ j hj => Nat.le_trans (Nat.le_trans hsz6 hb1'.size) (hown.lt j hj).1⟩
 rintro v6 W6 hB6 hown6;simp only [zD];refine zZ ?_;have hBa := zF hW hB6;clear r1 r3;have HT6 := zB (HTa.out.below hBa);have hfr6 := λ j hj => (hown6.lt j hj).1;obtain ⟨W7, hr7, hm7, hX7⟩ := HT6.out.map.store (by have := uY T.ps; show (zS T.ps).length <= _; rw [xM]; omega) c.key hkb (by omega) v6;rw [zH] at hown6;have HT7 := zB (HT6.out.put c.key c.value hkb HC.out.vb' hkl hvl v6 hown6 (λ j hj e => by have := hlta j e; have := hfr6 j hj; omega) hm7 hX7);have k06 := zG hBa k0;have k16 := zG hBa k1;have hwm : ¬ w.heap.size = q.m := by have := hlt q.m (.inr (.inl rfl)); omega
 have k07 : W7.cell? ⟨w.heap.size, 0, none⟩ = some va := hX7.cell_some k06 hwm;have k17 : W7.cell? ⟨w.heap.size, 1, none⟩ = some vb := hX7.cell_some k16 hwm;have HK7 := zB (xG (HKa.out.below hBa) hX7 (λ j hj e => HC.out.far j (.inl hj) (.inr (.inl e))));have HV7 := zB (xG (HVa.out.below hBa) hX7 (λ j hj e => HC.out.far j (.inr hj) (.inr (.inl e))));have c57 := HT7.out.cs.2.2.2.2.2.1;simp only at c57;have HX7 := zB (zC hBa (zC hX7 hfr6));have hsz7 := Nat.le_trans hBa.size hX7.size;clear hown6 hm7 k06 k16 hX7 hBa hW hB6 k0 k1 c3 hfr6 hsz6
 go_wp2_with fail
 clear hr7;refine zR 9 (λ i => if i = 8 then some (λ v _ => v = .int .i64 (yY c.key c.value)) else none) fol (by kernel_rfl) (λ W hW hh => ?_);clear hh;simp only [fT];have r0 := zV hW k07;have r1 := zV hW k17;have r5 := zV hW c57
 repeat ((first | refine lxM ?_ | refine lxF ?_ | refine zM rfl ?_); simp only [zD])
 refine zW _ rfl (λ _ _ _ h _ => h) rfl (λ w1 hb1 hf1 => ?_) ?_
 . have hb1' := hb1
   (unfold yE; go_simp; simp only [zN])
   refine (wV va vb c.key c.value _ ((HK7.out.below hW).below hb1') ((HV7.out.below hW).below hb1') (by omega) (by omega)).mono ?_;rintro e w' ⟨rfl, hB⟩;exact ⟨_, rfl, hB, rfl⟩
 rintro v8 W8 hB8 rfl;simp only [zD]
 repeat ((first | refine lxM ?_ | refine lxF ?_ | refine zM rfl ?_); simp only [zD])
 refine zZ ?_;have hB78 := zF hW hB8;have HT8 := zB (HT7.out.below hB78);clear r0 r1 r5 k07 k17 c57 hW hB8;have c58 := HT8.out.cs.2.2.2.2.2.1;have cf8 := HT8.out.cs.2.2.2.2.2.2.2.2;simp only at c58 cf8;have HP := zB (show ∀ T2 ks2 WZ, vX (W8.setCell ⟨q.t, 5, none⟩ (.int .i64 ((lv : Int) + (yY c.key c.value : Int)))) d l { q with V := sY q.V c.key v6 } T2 ks2 WZ -> vX Wa d l q T2 ks2 WZ from λ T2 ks2 WZ h => by
  refine vX.trans (q1 := { q with V := sY q.V c.key v6 }) rfl rfl (setVK_all HX7.out.2.2) ?_ h;exact (((Ext.of_below (S := q.all) HX7.out.1).trans (HX7.out.2.1.mono (S' := q.all) λ j _ e => .inr (.inl e)) (λ _ _ h => h)).trans (Ext.of_below (S := q.all) hB78) (λ _ _ h => h)).trans (Ext.setCell (S := q.all) (.inl rfl) _) (λ _ _ h => h))
 have HT9 := zB (HT8.out.head 5 (.int .i64 ((lv : Int) + (yY c.key c.value : Int))) { T with ps := putP T.ps c.key c.value, live := lv + yY c.key c.value } rfl (by simp [uW]))
 go_wp2_with fail
 go_end0
 rw [HLE.out];exact ⟨⟨_, rfl⟩, vX.of_below H03.out (vX.trans (q1 := q) rfl rfl (λ j h => .inl h) HXa.out (HP.out _ _ _ (vX.same HT9.out (Below.refl _ _))))⟩
theorem insert_keys (v : Value) (ks : List (List Int)) (k : List Int) (i gv : Nat) (w : World) (hown : w.ownsRow 0 9 1 v ks.length (strs ks)) (hn : ks.length <= 549755813888) (hi : i <= ks.length) (hg : w.heap[gv]? = some (.cells #[.string (strOfNums k)] 9 (0, 0))) (hne : v.ownBlock ≠ some gv) :
 Calls Tryz.prog 106 #[v, .int .i64 i, .slice (some ⟨gv, 0, none⟩) 1 1] w λ e w' => ∃ u, e = .returned u /\ w'.ownsRow 0 9 1 u (ks.take i ++ k :: ks.drop i).length (strs (ks.take i ++ k :: ks.drop i)) /\ Ext (λ j => v.ownBlock = some j) w w' /\ ∀ j, u.ownBlock = some j -> v.ownBlock = some j \/ w.heap.size <= j := by
 have hv : Row w gv 9 [.string (strOfNums k)] := hg;have hl : (ks.take i ++ k :: ks.drop i).length = ks.length + 1 := by simp; omega
 have hs : strs (ks.take i ++ k :: ks.drop i) = (strs ks).take i ++ ([.string (strOfNums k)] ++ (strs ks).drop i) := by simp [strs, List.map_take, List.map_drop]
 rw [hl, hs];rcases hown.2 with ⟨rfl, h0⟩ | ⟨g, cap, cur, rfl, -⟩
 . obtain rfl : i = 0 := by omega
   obtain rfl := List.eq_nil_of_length_eq_zero h0;refine (SS.insert_nil gv _ w hv rfl (λ u hu => by rw [List.mem_singleton.1 hu]; rfl)).mono ?_;rintro e w' ⟨u, rfl, h1, h2⟩;exact ⟨u, rfl, yC (by simpa [strs] using h1) λ j hj => Nat.zero_le _, Ext.of_below h2, λ j hj => .inr (h1.lt j hj).1⟩
 . refine (SS.insert_any 0 g ks.length cap i gv (strs ks) _ w hown (Nat.zero_le _) hn hi hv (λ e => hne (by rw [e]; rfl)) rfl (λ u hu => by rw [List.mem_singleton.1 hu]; rfl) (iI _)).mono ?_;rintro e w' ⟨u, rfl, h1, h2, h3⟩;exact ⟨u, rfl, h1, h2.mono λ j _ e => (by rw [e]; rfl), λ j hj => (h3 j hj).imp (λ e => (by rw [e]; rfl)) id⟩
theorem change_new (d l : Nat) (q : TBk) (T : TblS) (c : Chg) (va vb : Value) (w : World) (h : sH w d l q T) (hlive : T.live <= 1073741824) (hsum : zU T.ps <= 1073741824) (hc : ChgAt w q c va vb) (hvl0 : c.value.length <= 1024) (hk : c.key ∉ zS T.ps) :
 Calls Tryz.prog 65 #[.pointer (some ⟨q.t, 0, none⟩), .agg #[va, vb, .bool false]] w λ e w' => (∃ t, e = .returned t) /\ vX w d l q { T with ps := putP T.ps c.key c.value, live := T.live + yY c.key c.value } (zS (putP T.ps c.key c.value)) w' := by
 have HVL := zB hvl0;clear hvl0;have HT := zB h;have HC := zB hc;have hlt := h.lt;have hb0 := zQ w (.cells #[va, vb, .bool false] 78);have g0 := World.alloc_heap_new w (.cells #[va, vb, .bool false] 78);have hs0 : (w.alloc (.cells #[va, vb, .bool false] 78)).heap.size = w.heap.size + 1 := by simp
 have hl2 := uY T.ps;have HS := zB (qY q.s (zS T.ps) h.rise (λ k hk => by obtain ⟨v, hv⟩ := uG hk; exact (h.good _ hv).1) c.key hc.kb (w.alloc (.cells #[va, vb, .bool false] 78)) (Src.of_owns (h.below hb0).keys) (by rw [xM]; omega));have hcv : Sem.run Tryz.prog (convert 52 9 va) (w.alloc (.cells #[va, vb, .bool false] 78)) = .ok (.string (strOfNums c.key)) (w.alloc (.cells #[va, vb, .bool false] 78)) := sQ (hc.key.below hb0);obtain ⟨-, -, -, c3, c4, c5, -, -, cf⟩ := h.cs;have c3' := zG hb0 c3;have c4' := zG hb0 c4;have k0 := yV g0 0 va rfl;have k1 := yV g0 1 vb rfl;have k2 := yV g0 2 (.bool false) rfl;clear g0;generalize hw0 : w.alloc (.cells #[va, vb, .bool false] 78) = w0 at *;clear h hc hl2;go_enter Tryz.func65, Tryz.ntmps65
 go_wp2_with (simp only [hw0])
 refine HS.out.mono ?_;rintro e w1 ⟨rfl, hB1⟩;clear HS;have hd : decide (c.key ∈ zS T.ps) = false := decide_eq_false hk;have k0a := zG hB1 k0;have k1a := zG hB1 k1;have k2a := zG hB1 k2;have H0 := zB (hb0.trans (hB1.mono hb0.size));have HTa := zB (HT.out.below H0.out);have HKa := zB (HC.out.key.below H0.out);have HVa := zB (HC.out.value.below H0.out);have hsa := H0.out.size;have hwq : ¬ w.heap.size = q.t := by have := hlt q.t (.inl rfl); omega
 rw [hd];clear hd k0 k1 k2 c3' c4' c3 c4 c5 cf hcv hb0 hB1 hs0 hw0
 go_wp2_with fail
 generalize w1 = Wa at *;have k0 := k0a;have k1 := k1a;have hlta := HTa.out.lt;have c3 := HTa.out.cs.2.2.2.1;have hpl := oC HC.out.kl HVL.out;have e5 := IntWalk.i64_in ((T.live : Int) + (yY c.key c.value : Int)) (by omega);have hkl := HC.out.kl;have hvl := HVL.out;have hkb := HC.out.kb;refine zR 8 (λ i => if i = 7 then some (λ v w' => w'.ownsRow Wa.heap.size 5 1 v (u8s c.value).length (u8s c.value)) else none) fol (by kernel_rfl) (λ W hW hh => ?_);clear hh;simp only [fT];have r1 := zV hW k1;have r3 := zV hW c3;have hsz6 := hW.size
 repeat ((first | refine lxM ?_ | refine lxF ?_ | refine zM rfl ?_); simp only [zD])
 refine zW _ rfl (by exact λ _ _ _ h hb => yA h hb) rfl (λ w1 hb1 hf1 => ?_) ?_
 . have hb1' := hb1
   (unfold yE; go_simp; simp only [zN])
   refine (clone_any vb (u8s c.value) _ ((HVa.out.below hW).below hb1') (yU _) (by rw [zH]; omega)).mono ?_;rintro e w' ⟨u, rfl, hown, hB⟩;exact ⟨u, rfl, hB, yC hown λ j hj => Nat.le_trans (Nat.le_trans hsz6 hb1'.size) (hown.lt j hj).1⟩
 rintro v6 W6 hB6 hown6;simp only [zD];refine zZ ?_;have hBa := zF hW hB6;clear r1 r3;have HT6 := zB (HTa.out.below hBa);have hfr6 := λ j hj => (hown6.lt j hj).1;obtain ⟨W7, hr7, hm7, hX7⟩ := HT6.out.map.store (by have := uY T.ps; show (zS T.ps).length <= _; rw [xM]; omega) c.key hkb (by omega) v6;rw [zH] at hown6;have HT7 := zB (HT6.out.put c.key c.value hkb HC.out.vb' hkl hvl v6 hown6 (λ j hj e => by have := hlta j e; have := hfr6 j hj; omega) hm7 hX7);have k06 := zG hBa k0;have k16 := zG hBa k1;have hwm : ¬ w.heap.size = q.m := by have := hlt q.m (.inr (.inl rfl)); omega
 have k07 : W7.cell? ⟨w.heap.size, 0, none⟩ = some va := hX7.cell_some k06 hwm;have k17 : W7.cell? ⟨w.heap.size, 1, none⟩ = some vb := hX7.cell_some k16 hwm;have HK7 := zB (xG (HKa.out.below hBa) hX7 (λ j hj e => HC.out.far j (.inl hj) (.inr (.inl e))));have HV7 := zB (xG (HVa.out.below hBa) hX7 (λ j hj e => HC.out.far j (.inr hj) (.inr (.inl e))));have c57 := HT7.out.cs.2.2.2.2.2.1;simp only at c57;have HX7 := zB (zC hBa (zC hX7 hfr6));have hsz7 := Nat.le_trans hBa.size hX7.size;clear hown6 hm7 k06 k16 hX7 hBa hW hB6 k0 k1 c3 hfr6 hsz6
 go_wp2_with fail
 clear hr7;refine zR 9 (λ i => if i = 8 then some (λ v _ => v = .int .i64 (yY c.key c.value)) else none) fol (by kernel_rfl) (λ W hW hh => ?_);clear hh;simp only [fT];have r0 := zV hW k07;have r1 := zV hW k17;have r5 := zV hW c57
 repeat ((first | refine lxM ?_ | refine lxF ?_ | refine zM rfl ?_); simp only [zD])
 refine zW _ rfl (λ _ _ _ h _ => h) rfl (λ w1 hb1 hf1 => ?_) ?_
 . have hb1' := hb1
   (unfold yE; go_simp; simp only [zN])
   refine (wV va vb c.key c.value _ ((HK7.out.below hW).below hb1') ((HV7.out.below hW).below hb1') (by omega) (by omega)).mono ?_;rintro e w' ⟨rfl, hB⟩;exact ⟨_, rfl, hB, rfl⟩
 rintro v8 W8 hB8 rfl;simp only [zD]
 repeat ((first | refine lxM ?_ | refine lxF ?_ | refine zM rfl ?_); simp only [zD])
 refine zZ ?_;have hB78 := zF hW hB8;have HT8 := zB (HT7.out.below hB78);clear r0 r1 r5 k07 k17 c57 hW hB8;have c58 := HT8.out.cs.2.2.2.2.2.1;have cf8 := HT8.out.cs.2.2.2.2.2.2.2.2;simp only at c58 cf8;have HP := zB (show ∀ T2 ks2 WZ, vX (W8.setCell ⟨q.t, 5, none⟩ (.int .i64 ((T.live : Int) + (yY c.key c.value : Int)))) d l { q with V := sY q.V c.key v6 } T2 ks2 WZ -> vX Wa d l q T2 ks2 WZ from λ T2 ks2 WZ h => by
  refine vX.trans (q1 := { q with V := sY q.V c.key v6 }) rfl rfl (setVK_all HX7.out.2.2) ?_ h;exact (((Ext.of_below (S := q.all) HX7.out.1).trans (HX7.out.2.1.mono (S' := q.all) λ j _ e => .inr (.inl e)) (λ _ _ h => h)).trans (Ext.of_below (S := q.all) hB78) (λ _ _ h => h)).trans (Ext.setCell (S := q.all) (.inl rfl) _) (λ _ _ h => h))
 have HT9 := zB (HT8.out.head 5 (.int .i64 ((T.live : Int) + (yY c.key c.value : Int))) { T with ps := putP T.ps c.key c.value, live := T.live + yY c.key c.value } rfl (by simp [uW]));have c48 := HT8.out.cs.2.2.2.2.1;simp only at c48
 go_wp2_with fail
 generalize hW9 : W8.setCell ⟨q.t, 5, none⟩ (.int .i64 ((T.live : Int) + (yY c.key c.value : Int))) = W9 at *;have hb9 := zQ W9 (.cells #[.string (strOfNums c.key)] 9);have g9 := World.alloc_heap_new W9 (.cells #[.string (strOfNums c.key)] 9);have hT10 := HT9.out.below hb9;have hq9 := HT9.out.lt;have HI := zB (insert_keys q.s (zS T.ps) c.key (posK (zS T.ps) c.key) W9.heap.size _ hT10.keys (by have := uY T.ps; rw [xM]; omega) (posK_le _ _) g9 (λ e => by have := hq9 _ (.inr (.inr (.inl e))); omega));have hsz9 : W9.heap.size = W8.heap.size := by rw [<- hW9]; simp
 rw [hsz9] at HI;have c40 := hT10.cs.2.2.2.2.1;have cf0 := hT10.cs.2.2.2.2.2.2.2.2;have HT10 := zB hT10;have HB9 := zB hb9;have hlt10 := hT10.lt q.t (.inl rfl);simp only at c40 cf0;clear hT10 hb9 g9;refine HI.out.mono ?_;rintro e W11 ⟨u, rfl, hown, hX11, hu⟩;obtain ⟨ua, uc, rfl, -⟩ := zP hown;generalize hul : (List.take (posK (zS T.ps) c.key) (zS T.ps) ++ c.key :: List.drop (posK (zS T.ps) c.key) (zS T.ps)).length = ul at *;have hne : ¬ q.s.ownBlock = some q.t := λ e => (HT10.out.ne1.2 q.t e).1 rfl;have c41 := hX11.cell_some c40 hne;have cf1 : ∀ j, W11.frozen? ⟨q.t, j, none⟩ = false := λ j => by
  have := hX11.block q.t hlt10 hne;have h2 := cf0 j;simp only [World.frozen?] at h2 ⊢;rw [this];exact h2
 have HR := zB (HT10.out.rekey _ (ks' := zS (putP T.ps c.key c.value)) (w1 := W11) (by rw [iT, if_neg hk, hul]; exact hown) hX11 hu);clear hul hown hX11 hu c40 cf0 HI
 go_wp2_with fail
 go_end0
 exact ⟨⟨_, rfl⟩, vX.of_below H0.out (HP.out _ _ _ (vX.of_below HB9.out HR.out))⟩
theorem nV (d l : Nat) (q : TBk) (T : TblS) (c : Chg) (va vb : Value) (w : World) (h : sH w d l q T) (hlive : T.live = zU T.ps) (hsum : zU T.ps <= 1073741824) (hc : ChgAt w q c va vb) :
 Calls Tryz.prog 65 #[.pointer (some ⟨q.t, 0, none⟩), .agg #[va, vb, .bool c.gone]] w λ e w' => (∃ t, e = .returned t) /\ vX w d l q (T.change c) (zS (T.change c).ps) w' := by
 by_cases hk : c.key ∈ zS T.ps <;> cases hg : c.gone
 . have e1 : T.change c = { T with ps := putP T.ps c.key c.value, live := T.live - yY c.key (valP T.ps c.key) + yY c.key c.value } := by
    unfold TblS.change chgP;rw [hg];have h1 := live_put (v := c.value) h.rise hk;have h2 := val_le h.rise hk;have h3 : zU (putP T.ps c.key c.value) = T.live - yY c.key (valP T.ps c.key) + yY c.key c.value := by omega
    simp [h3]
   rw [e1];have e2 : zS (putP T.ps c.key c.value) = zS T.ps := by rw [iT, if_pos hk]
   simp only [e2];exact change_in d l q T c va vb w h hlive hsum hc (hc.vl.resolve_left (by rw [hg]; decide)) hk
 . have e1 : T.change c = { T with ps := delP T.ps c.key, live := T.live - yY c.key (valP T.ps c.key) } := by
    unfold TblS.change chgP;rw [hg];have h1 := live_del h.rise hk;have h3 : zU (delP T.ps c.key) = T.live - yY c.key (valP T.ps c.key) := by omega
    simp [h3]
   rw [e1];exact change_del d l q T c va vb w h hlive hsum hc hk
 . have e1 : T.change c = { T with ps := putP T.ps c.key c.value, live := T.live + yY c.key c.value } := by
    unfold TblS.change chgP;rw [hg];have h1 := live_ins (v := c.value) hk;have h3 : zU (putP T.ps c.key c.value) = T.live + yY c.key c.value := by omega
    simp [h3]
   rw [e1];exact change_new d l q T c va vb w h (by omega) hsum hc (hc.vl.resolve_left (by rw [hg]; decide)) hk
 . have e1 : T.change c = T := by
    unfold TblS.change chgP;rw [hg];have h3 : delP T.ps c.key = T.ps := by unfold delP; rw [if_neg hk]
    simp only [h3, if_true, <- hlive]
   rw [e1];exact change_none d l q T c va vb w h hsum hc hk
end Go.Proofs.YtbjofbhhnmehgaaGreatDoor.TT
