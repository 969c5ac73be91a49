
/-
 A log in memory; what looks at its head alone; falls, ready.
-/
import Derived.Test.YtbjofbhhnmehgaaGreatDoorCNIz3
import Derived.Test.YtbjofbhhnmehgaaGreatDoorCNIz0
set_option linter.unusedSimpArgs false
set_option linter.unusedVariables false
set_option maxHeartbeats 4000000
set_option maxRecDepth 100000
open Go.IntWalk (toNatUp iteOmega)
namespace Go.Proofs.YtbjofbhhnmehgaaGreatDoor.TT
open Go.RowKit Go.RG Go.Hp Go.Proofs.YtbjofbhhnmehgaaGreatDoor
structure LogS where
 head : Head
 next : Nat
 starts : List Nat
 epochs : List Nat
 fallen : Bool
structure LBk where
 l : Nat
 s : Value
 e : Value
def LBk.all (k : LBk) (j : Nat) : Prop := j = k.l \/ k.s.ownBlock = some j \/ k.e.ownBlock = some j
def tQ (d first size : Nat) (k : LBk) (L : LogS) : Array Value :=
 #[.pointer (some ⟨d, 0, none⟩), .int .i64 first, .int .i64 size, .int .u64 L.head.gen, .int .u64 L.head.epoch, .int .u64 L.head.first, .int .u64 L.head.least, .int .u64 L.next, k.s, k.e, .bool L.fallen]
structure tH (w : World) (d first size : Nat) (k : LBk) (L : LogS) : Prop where
 cells : w.heap[k.l]? = some (.cells (tQ d first size k L) 134 (0, 0))
 starts : w.ownsRow 0 28 1 k.s L.starts.length (nums L.starts)
 epochs : w.ownsRow 0 28 1 k.e L.epochs.length (nums L.epochs)
 ne1 : k.s.ownBlock ≠ some k.l
 ne2 : k.e.ownBlock ≠ some k.l
 ne3 : ∀ j, k.s.ownBlock = some j -> k.e.ownBlock ≠ some j
 far : ∀ j, k.all j -> 10 <= j
theorem tH.keep {w w' : World} {d first size : Nat} {k : LBk} {L : LogS} (h : tH w d first size k L) (hk : ∀ j, k.all j -> w'.heap[j]? = w.heap[j]?) : tH w' d first size k L :=
 ⟨(hk _ (.inl rfl)).trans h.cells, yJ h.starts λ j e => hk j (.inr (.inl e)), yJ h.epochs λ j e => hk j (.inr (.inr e)), h.ne1, h.ne2, h.ne3, h.far⟩
theorem tH.lt {w : World} {d first size : Nat} {k : LBk} {L : LogS} (h : tH w d first size k L) : ∀ j, k.all j -> j < w.heap.size := by
 rintro j (rfl | e | e)
 . exact zI h.cells
 . exact xD h.starts e
 . exact xD h.epochs e
theorem tH.below {w w' : World} {d first size : Nat} {k : LBk} {L : LogS} (h : tH w d first size k L) (hb : Below w.heap.size w w') : tH w' d first size k L := h.keep λ j hj => hb.block j (h.lt j hj)
theorem tH.ext {w w' : World} {d first size : Nat} {k : LBk} {L : LogS} {S : Nat -> Prop} (h : tH w d first size k L) (hX : Ext S w w') (hS : ∀ j, k.all j -> ¬ S j) : tH w' d first size k L := h.keep λ j hj => hX.block j (h.lt j hj) (hS j hj)
theorem yV {w : World} {g : Nat} {c : Array Value} {t : TypeId} (h : w.heap[g]? = some (.cells c t (0, 0))) (j : Nat) (v : Value) (hv : c[j]? = some v) : w.cell? ⟨g, j, none⟩ = some v := by
 simp [World.cell?, h, hv]
theorem tH.cs {w : World} {d first size : Nat} {k : LBk} {L : LogS} (h : tH w d first size k L) :
 w.cell? ⟨k.l, 0, none⟩ = some (.pointer (some ⟨d, 0, none⟩)) /\ w.cell? ⟨k.l, 1, none⟩ = some (.int .i64 first) /\ w.cell? ⟨k.l, 2, none⟩ = some (.int .i64 size) /\ w.cell? ⟨k.l, 3, none⟩ = some (.int .u64 L.head.gen) /\
 w.cell? ⟨k.l, 4, none⟩ = some (.int .u64 L.head.epoch) /\ w.cell? ⟨k.l, 5, none⟩ = some (.int .u64 L.head.first) /\ w.cell? ⟨k.l, 6, none⟩ = some (.int .u64 L.head.least) /\ w.cell? ⟨k.l, 7, none⟩ = some (.int .u64 L.next) /\
 w.cell? ⟨k.l, 8, none⟩ = some k.s /\ w.cell? ⟨k.l, 9, none⟩ = some k.e /\ w.cell? ⟨k.l, 10, none⟩ = some (.bool L.fallen) /\ ∀ j, w.frozen? ⟨k.l, j, none⟩ = false :=
 ⟨yV h.cells 0 _ rfl, yV h.cells 1 _ rfl, yV h.cells 2 _ rfl, yV h.cells 3 _ rfl, yV h.cells 4 _ rfl, yV h.cells 5 _ rfl, yV h.cells 6 _ rfl, yV h.cells 7 _ rfl, yV h.cells 8 _ rfl, yV h.cells 9 _ rfl, yV h.cells 10 _ rfl, λ j => by simp [World.frozen?, h.cells]⟩
theorem tH.heads {w w' : World} {d first size : Nat} {k : LBk} {L L' : LogS} (h : tH w d first size k L) (hX : Ext (· = k.l) w w') (hc : w'.heap[k.l]? = some (.cells (tQ d first size k L') 134 (0, 0)))
 (hs : L'.starts = L.starts) (he : L'.epochs = L.epochs) : tH w' d first size k L' :=
 ⟨hc, by rw [hs]; exact xQ h.starts hX λ j e e2 => h.ne1 (by rw [<- e2]; exact e), by rw [he]; exact xQ h.epochs hX λ j e e2 => h.ne2 (by rw [<- e2]; exact e), h.ne1, h.ne2, h.ne3, h.far⟩
theorem yB {w : World} {g j : Nat} {c : Array Value} {t : TypeId} (h : w.heap[g]? = some (.cells c t (0, 0))) (v : Value) : (w.setCell ⟨g, j, none⟩ v).heap[g]? = some (.cells (c.setIfInBounds j v) t (0, 0)) := uB v h
def LogS.fall (L : LogS) (now : Bool) : LogS := { L with fallen := L.fallen || now }
def fallE (b : Bool) : Int := if b then 5 else 0
theorem pE (d first size : Nat) (k : LBk) (L : LogS) (now : Bool) (w : World) (h : tH w d first size k L) :
 Calls Tryz.prog 87 #[.pointer (some ⟨k.l, 0, none⟩), .bool now] w λ e w' => e = .returned (.int .i64 (fallE (L.fallen || now))) /\ tH w' d first size k (L.fall now) /\ Ext (· = k.l) w w' := by
 obtain ⟨-, -, -, -, -, -, -, -, -, -, c10, fr⟩ := h.cs;have hX := Ext.setCell (S := (· = k.l)) (w := w) (p := ⟨k.l, 10, none⟩) rfl (.bool (L.fallen || now))
 have hc := yB (j := 10) h.cells (.bool (L.fallen || now))
 have hL := h.heads (L' := L.fall now) hX (by rw [hc]; rfl) rfl rfl;have HL := zB (zC hL hX);clear hX hc hL h
 cases hf : L.fallen <;> cases hn : now <;> rw [hf, hn] at HL <;> rw [hf] at c10 <;> (
  have Hf := zB hf; clear hf;go_enter Tryz.func87, Tryz.ntmps87
  go_wp2_with fail
  go_ret
  exact ⟨rfl, HL.out.1, HL.out.2⟩)
theorem next_any (d first size : Nat) (k : LBk) (L : LogS) (w : World) (h : tH w d first size k L) : Calls Tryz.prog 64 #[.pointer (some ⟨k.l, 0, none⟩)] w λ e w' => e = .returned (.int .u64 L.next) /\ w = w' := by
 obtain ⟨-, -, -, -, -, -, -, c7, -, -, -, -⟩ := h.cs;clear h;go_enter Tryz.func64, Tryz.ntmps64
 go_wp2_with fail
 go_ret
 exact ⟨rfl, rfl⟩
theorem epoch_any (d first size : Nat) (k : LBk) (L : LogS) (w : World) (h : tH w d first size k L) : Calls Tryz.prog 71 #[.pointer (some ⟨k.l, 0, none⟩)] w λ e w' => e = .returned (.int .u64 L.head.epoch) /\ w = w' := by
 obtain ⟨-, -, -, -, c4, -, -, -, -, -, -, -⟩ := h.cs;clear h;go_enter Tryz.func71, Tryz.ntmps71
 go_wp2_with fail
 go_ret
 exact ⟨rfl, rfl⟩
structure LogS.ok (L : LogS) (size : Nat) : Prop where
 gen : L.head.gen < 281474976710656
 epoch : L.head.epoch < 281474976710656
 first : L.head.first <= 281474976710656
 least : L.head.least < 281474976710656
 next : L.next <= 281474976710656
 order : L.head.first <= L.next
 ring : L.next - L.head.first <= size - 2
 rise : L.starts.Pairwise (· < ·)
 len : L.epochs.length = L.starts.length
 short : L.starts.length <= 65536
 low : ∀ n ∈ L.starts, L.head.first <= n /\ n < L.next
 ep : ∀ n ∈ L.epochs, n <= L.head.epoch
def LogS.free (L : LogS) (size : Nat) : Nat := size - 2 - (L.next - L.head.first)
theorem free_any (d first size : Nat) (k : LBk) (L : LogS) (w : World) (h : tH w d first size k L) (h2 : 2 < size) (hs : size <= 65536) (ho : L.ok size) : Calls Tryz.prog 63 #[.pointer (some ⟨k.l, 0, none⟩)] w λ e w' => e = .returned (.int .i64 (L.free size)) /\ Below w.heap.size w w' := by
 obtain ⟨c0, -, c2, -, -, c5, -, c7, -, -, -, -⟩ := h.cs;have o1 := ho.first;have o2 := ho.next;have o3 := ho.order;have o4 := ho.ring;have e1 := IntWalk.i64_in ((size : Int) - 2) (by omega);have e2 := IntWalk.u64_in ((L.next : Int) - (L.head.first : Int)) (by omega);have e3 := IntWalk.i64_in ((L.next : Int) - (L.head.first : Int)) (by omega);have e4 := IntWalk.i64_in ((size : Int) - 2 - ((L.next : Int) - (L.head.first : Int))) (by omega);have hf : (L.free size : Int) = (size : Int) - 2 - ((L.next : Int) - (L.head.first : Int)) := by unfold LogS.free; omega
 have Hf := zB hf;clear hf h ho;go_enter Tryz.func63, Tryz.ntmps63
 go_wp2_with fail
 refine zY (λ _ => none) fol (by kernel_rfl) (λ W hW hh => ?_);clear hh;have r2 := zV hW c2;have r5 := zV hW c5;have r7 := zV hW c7;clear c0 c2 c5 c7
 repeat ((first | refine lxM ?_ | refine lxF ?_ | refine zM rfl ?_); simp only [zD])
 refine zZ ?_;clear r2 r5 r7
 go_wp2_with fail
 go_ret
 exact ⟨by rw [Hf.out]; simp, hW⟩
structure LSys (w : World) (b : Bks) (x : Dsk) (N first size : Nat) (k : LBk) (L : LogS) : Prop where
 sys : Sys w b x N
 log : tH w b.d first size k L
 apart : ∀ j, k.all j -> ¬ b.all j
 big : 2 < size
 fit : first + size <= x.dur.length
theorem LSys.below {w w' : World} {b : Bks} {x : Dsk} {N first size : Nat} {k : LBk} {L : LogS} (h : LSys w b x N first size k L) (hb : Below w.heap.size w w') : LSys w' b x N first size k L :=
 ⟨h.sys.below hb, h.log.below hb, h.apart, h.big, h.fit⟩
theorem LSys.ext {w w' : World} {b : Bks} {x : Dsk} {N first size : Nat} {k : LBk} {L : LogS} {S : Nat -> Prop} (h : LSys w b x N first size k L) (hX : Ext S w w') (hS : ∀ j, S j -> 10 <= j /\ ¬ b.all j /\ ¬ k.all j) : LSys w' b x N first size k L :=
 ⟨h.sys.ext hX λ j hj => ⟨(hS j hj).1, (hS j hj).2.1⟩, h.log.ext hX λ j hj hs => (hS j hs).2.2 hj, h.apart, h.big, h.fit⟩
theorem LSys.mono {w : World} {b : Bks} {x : Dsk} {N M first size : Nat} {k : LBk} {L : LogS} (h : LSys w b x N first size k L) (hm : N <= M) : LSys w b x M first size k L := ⟨h.sys.mono hm, h.log, h.apart, h.big, h.fit⟩
theorem LSys.le {w : World} {b : Bks} {x : Dsk} {N first size : Nat} {k : LBk} {L : LogS} (h : LSys w b x N first size k L) : first + size <= 65536 := Nat.le_trans h.fit h.sys.dsk.lim
def tU (w : World) (b : Bks) (k : LBk) (x' : Dsk) (N' first size : Nat) (L' : LogS) (w' : World) : Prop :=
 ∃ (b' : Bks) (k' : LBk), b'.d = b.d /\ k'.l = k.l /\ (∀ j, b'.all j \/ k'.all j -> (b.all j \/ k.all j) \/ w.heap.size <= j) /\ Ext (λ j => b.all j \/ k.all j) w w' /\ LSys w' b' x' N' first size k' L'
theorem tU.trans {w w1 w2 : World} {b b1 : Bks} {k k1 : LBk} {x2 : Dsk} {N2 first size : Nat} {L2 : LogS} (hd : b1.d = b.d) (hl : k1.l = k.l) (ha : ∀ j, b1.all j \/ k1.all j -> (b.all j \/ k.all j) \/ w.heap.size <= j) (hX : Ext (λ j => b.all j \/ k.all j) w w1)
 (h2 : tU w1 b1 k1 x2 N2 first size L2 w2) : tU w b k x2 N2 first size L2 w2 := by
 obtain ⟨b2, k2, d2, l2, a2, X2, S2⟩ := h2;refine ⟨b2, k2, d2.trans hd, l2.trans hl, λ j hj => ?_, hX.trans X2 λ j hj h => ?_, S2⟩
 . rcases a2 j hj with h | h
   . exact ha j h
   . exact .inr (Nat.le_trans hX.size h)
 . rcases ha j h with h | h
   . exact h
   . omega
theorem tU.of_below {w w1 w2 : World} {b : Bks} {k : LBk} {x2 : Dsk} {N2 first size : Nat} {L2 : LogS} (hb : Below w.heap.size w w1) (h2 : tU w1 b k x2 N2 first size L2 w2) : tU w b k x2 N2 first size L2 w2 :=
 .trans rfl rfl (λ j h => .inl h) (Ext.of_below hb) h2
theorem tU.same {w w' : World} {b : Bks} {x : Dsk} {N first size : Nat} {k : LBk} {L : LogS} (h : LSys w b x N first size k L) (hb : Below w.heap.size w w') : tU w b k x N first size L w' :=
 ⟨b, k, rfl, rfl, λ j h => .inl h, Ext.of_below hb, h.below hb⟩
theorem tU.mono {w w' : World} {b : Bks} {x : Dsk} {N M first size : Nat} {k : LBk} {L : LogS} (h : tU w b k x N first size L w') (hm : N <= M) : tU w b k x M first size L w' := by
 obtain ⟨b', k', h1, h2, h3, h4, h5⟩ := h;exact ⟨b', k', h1, h2, h3, h4, h5.mono hm⟩
theorem LSys.headed {w w' : World} {b : Bks} {x : Dsk} {N first size : Nat} {k : LBk} {L L' : LogS} (h : LSys w b x N first size k L) (hX : Ext (· = k.l) w w') (hl : tH w' b.d first size k L') : tU w b k x N first size L' w' := by
 refine ⟨b, k, rfl, rfl, λ j h => .inl h, hX.mono λ j _ e => .inr (.inl e), h.sys.ext hX λ j e => ?_, hl, h.apart, h.big, h.fit⟩;subst e;exact ⟨h.log.far _ (.inl rfl), h.apart _ (.inl rfl)⟩
theorem LSys.disked {w w' : World} {b : Bks} {x x' : Dsk} {N N' first size : Nat} {k : LBk} {L : LogS} (h : LSys w b x N first size k L) (hP : wH w b x' N' w') (hl : x'.dur.length = x.dur.length) : tU w b k x' N' first size L w' := by
 obtain ⟨b', h1, h2, h3, h4⟩ := hP;have hlt := h.log.lt;refine ⟨b', k, h1, rfl, λ j hj => ?_, h3.mono λ j _ e => .inl e, h4, ?_, λ j hj hb => ?_, h.big, by rw [hl]; exact h.fit⟩
 . rcases hj with hj | hj
   . rcases h2 j hj with h | h
     . exact .inl (.inl h)
     . exact .inr h
   . exact .inl (.inr hj)
 . rw [h1];exact h.log.ext h3 h.apart
 . rcases h2 j hb with h5 | h5
   . exact h.apart j hj h5
   . have := hlt j hj; omega
theorem jF (b : Bks) (x : Dsk) (N first size : Nat) (k : LBk) (L : LogS) (w : World) (h : LSys w b x N first size k L) :
 Calls Tryz.prog 84 #[.pointer (some ⟨k.l, 0, none⟩)] w λ e w' => e = .returned (.int .i64 (fallE (L.fallen || x.off))) /\ tU w b k x N first size (L.fall x.off) w' := by
 obtain ⟨c0, -⟩ := h.log.cs;have HD := zB (kK b x w h.sys.dsk.head);have HF := zB (pE b.d first size k L x.off w h.log);have H := zB h;clear h;go_enter Tryz.func84, Tryz.ntmps84
 go_wp2_with fail
 refine HD.out.mono ?_;rintro e w' ⟨rfl, rfl⟩
 go_wp2_with fail
 refine HF.out.mono ?_;rintro e w2 ⟨rfl, hL, hX⟩
 go_wp2_with fail
 go_ret
 exact ⟨rfl, H.out.headed hX hL⟩
theorem nK : Tryz.prog.underlying 101 = some (.slice 28) := by kernel_rfl
theorem info_u64 : (Tryz.prog.info? 28).map (λ i => (i.zero, i.size, i.bytes)) = some (some (.int .u64 0), 1, 8) := by kernel_rfl
theorem app_num (w : World) (v : Value) (n : Nat) (xs : List Value) (hown : w.ownsRow 0 28 1 v n xs) (hn : n <= 1048576) (g c : Nat) (y : Value) (hy : w.cell? ⟨g, 0, none⟩ = some y) (h1 : y.oneCell' = true) (ty : TypeId) :
 ∃ v' w', (Builtin.append_ #[101, 101] ty #[v, .slice (some ⟨g, 0, none⟩) 1 c]).run Tryz.prog w = .ok v' w' /\ w'.ownsRow 0 28 1 v' (n + 1) (xs ++ [y]) /\ yL (λ k j z => v.ownBlock = some k /\ j = n /\ z = y) w w' /\ (∀ k, v'.ownBlock = some k -> v.ownBlock = some k \/ w.heap.size <= k) := by
 obtain ⟨i0, hi, hz0, hz1, hz2⟩ := info_parts info_u64;obtain ⟨v', w', r1, r2, r3, r4⟩ := sG (P := Tryz.prog) w 0 101 ty 28 i0 (.int .u64 0) 1 8 nK hi hz0 hz1 hz2 rfl (by decide) v n xs hown ⟨g, 0, none⟩ 1 c [y] rfl (λ j u hu => by
  have : j = 0 := by
   have := (List.getElem?_eq_some_iff.1 hu).1;simpa using this
  subst this;simp at hu;subst hu;rw [Addr.add_lit];exact hy) (by simpa using h1) (by unfold maxLen; omega) (by omega) (Nat.zero_le _)
 refine ⟨v', w', r1, r2, r3.mono λ k j z ⟨h1, h2, h3⟩ => ?_, r4⟩;have : j - n * 1 = 0 := by
  have := (List.getElem?_eq_some_iff.1 h3).1;simp at this;omega
 rw [this] at h3;simp at h3;exact ⟨h1, by omega, h3.symm⟩
def numS (k : LBk) (L : LogS) (n ep : Nat) (g j : Nat) (y : Value) : Prop := (k.s.ownBlock = some g /\ j = L.starts.length /\ y = .int .u64 n) \/ (k.e.ownBlock = some g /\ j = L.epochs.length /\ y = .int .u64 ep)
theorem numS_not {w : World} {d first size : Nat} {k : LBk} {L : LogS} {n ep : Nat} (h : tH w d first size k L) {g : Nat} (hg : ¬ k.all g \/ g = k.l) : ∀ j y, ¬ numS k L n ep g j y := by
 rintro j y (⟨h1, -⟩ | ⟨h1, -⟩) <;> rcases hg with hg | rfl
 . exact hg (.inr (.inl h1))
 . exact h.ne1 h1
 . exact hg (.inr (.inr h1))
 . exact h.ne2 h1
theorem numS_new {w : World} {d first size : Nat} {k : LBk} {L : LogS} {n ep : Nat} (h : tH w d first size k L) {g : Nat} (hg : w.heap.size <= g) : ∀ j y, ¬ numS k L n ep g j y :=
 numS_not h (.inl λ hk => by have := h.lt g hk; omega)
def oneN (B : Nat) (n : Nat) (v : Value) (w : World) : Prop := ∃ g, v = .slice (some ⟨g, 0, none⟩) 1 1 /\ B <= g /\ w.cell? ⟨g, 0, none⟩ = some (.int .u64 n)
theorem kA {w : World} {d first size : Nat} {k : LBk} {L : LogS} {n ep m : Nat} (h : tH w d first size k L) : Spec.stab (vF (numS k L n ep)) (oneN w.heap.size m) := by
 rintro v w1 w2 ⟨g, rfl, hg, hc⟩ hr;exact ⟨g, rfl, hg, yL.cell (p := ⟨g, 0, none⟩) hr hc (numS_new h hg)⟩
def appS (B : Nat) (k : LBk) (L : LogS) (n : Nat) (v : Value) (w : World) : Prop := w.ownsRow 0 28 1 v (L.starts.length + 1) (nums (L.starts ++ [n])) /\ ∀ j, v.ownBlock = some j -> k.s.ownBlock = some j \/ B <= j
def appE (B : Nat) (k : LBk) (L : LogS) (ep : Nat) (u v : Value) (w : World) : Prop := w.ownsRow 0 28 1 v (L.epochs.length + 1) (nums (L.epochs ++ [ep])) /\ (∀ j, v.ownBlock = some j -> k.e.ownBlock = some j \/ B <= j) /\ ∀ j, u.ownBlock = some j -> v.ownBlock ≠ some j
theorem tD (a : List Nat) (n : Nat) : nums (a ++ [n]) = nums a ++ [.int .u64 n] := by simp [nums]
theorem kQ {w : World} {d first size : Nat} {k : LBk} {L : LogS} {n ep : Nat} (h : tH w d first size k L) : Spec.stab (vF (numS k L n ep)) (appS w.heap.size k L n) := by
 rintro v w1 w2 ⟨h1, h2⟩ hr;refine ⟨yL.owns hr h1 λ g j y hg hs => ?_, h2⟩;rcases h2 g hg with h3 | h3
 . rcases hs with ⟨-, rfl, rfl⟩ | ⟨h4, -⟩
   . right;rw [tD, List.getElem?_append_right (by rw [xE]; exact Nat.le_refl _), xE, Nat.sub_self];rfl
   . exact absurd h4 (h.ne3 g h3)
 . exact absurd hs (numS_new h h3 j y)
theorem appE_stab {w : World} {d first size : Nat} {k : LBk} {L : LogS} {n ep : Nat} (h : tH w d first size k L) (u : Value) : Spec.stab (vF (numS k L n ep)) (appE w.heap.size k L ep u) := by
 rintro v w1 w2 ⟨h1, h2, h5⟩ hr;refine ⟨yL.owns hr h1 λ g j y hg hs => ?_, h2, h5⟩;rcases h2 g hg with h3 | h3
 . rcases hs with ⟨h4, -⟩ | ⟨-, rfl, rfl⟩
   . exact absurd h3 (h.ne3 g h4)
   . right;rw [tD, List.getElem?_append_right (by rw [xE]; exact Nat.le_refl _), xE, Nat.sub_self];rfl
 . exact absurd hs (numS_new h h3 j y)
theorem yL.logExt {w w' : World} {k : LBk} {L : LogS} {n ep : Nat} (h : yL (numS k L n ep) w w') : Ext k.all w w' := h.ext.mono λ g _ ⟨j, y, hs⟩ => by
 rcases hs with ⟨h1, -⟩ | ⟨h1, -⟩
 . exact .inr (.inl h1)
 . exact .inr (.inr h1)
theorem LSys.num {wr w19 w20 : World} {b : Bks} {x : Dsk} {N first size n ep : Nat} {k : LBk} {LL L' : LogS} {v8 v19 : Value} (h : LSys wr b x N first size k LL) (hr : Ext k.all wr w19) (hS : appS wr.heap.size k LL n v8 w19) (hE : appE wr.heap.size k LL ep v8 v19 w19) (hX : Ext (· = k.l) w19 w20)
 (hc : w20.heap[k.l]? = some (.cells (tQ b.d first size ⟨k.l, v8, v19⟩ L') 134 (0, 0))) (hs : L'.starts = LL.starts ++ [n]) (he : L'.epochs = LL.epochs ++ [ep]) : tU wr b k x N first size L' w20 := by
 have hlt := h.log.lt;have hbl := h.sys.dsk.lt;have hkl := hlt k.l (.inl rfl);have hXa : Ext k.all wr w20 := hr.trans hX λ j _ e => by subst e; exact .inl rfl
 have h8 : ∀ j, v8.ownBlock = some j -> k.all j \/ wr.heap.size <= j := λ j e => (hS.2 j e).imp (λ h => .inr (.inl h)) id;have h19 : ∀ j, v19.ownBlock = some j -> k.all j \/ wr.heap.size <= j := λ j e => (hE.2.1 j e).imp (λ h => .inr (.inr h)) id;have h8l : v8.ownBlock ≠ some k.l := λ e => by
  rcases hS.2 _ e with h1 | h1
  . exact h.log.ne1 h1
  . omega
 have h19l : v19.ownBlock ≠ some k.l := λ e => by
  rcases hE.2.1 _ e with h1 | h1
  . exact h.log.ne2 h1
  . omega
 have hall : ∀ j, (⟨k.l, v8, v19⟩ : LBk).all j -> k.all j \/ wr.heap.size <= j := by
  rintro j (rfl | e | e)
  . exact .inl (.inl rfl)
  . exact h8 j e
  . exact h19 j e
 refine ⟨b, ⟨k.l, v8, v19⟩, rfl, rfl, λ j hj => ?_, hXa.mono λ j _ e => .inr e, ?_, ?_, λ j hj hb => ?_, h.big, h.fit⟩
 . rcases hj with hj | hj
   . exact .inl (.inl hj)
   . exact (hall j hj).imp .inr id
 . exact h.sys.ext hXa λ j hj => ⟨h.log.far j hj, h.apart j hj⟩
 . refine ⟨hc, ?_, ?_, h8l, h19l, hE.2.2, λ j hj => ?_⟩
   . rw [hs, List.length_append];exact xQ hS.1 hX λ j e e2 => h8l (by rw [<- e2]; exact e)
   . rw [he, List.length_append];exact xQ hE.1 hX λ j e e2 => h19l (by rw [<- e2]; exact e)
   . rcases hall j hj with h1 | h1
     . exact h.log.far j h1
     . exact Nat.le_trans h.sys.pkg.lt h1
 . rcases hall j hj with h1 | h1
   . exact h.apart j h1 hb
   . have := hbl j hb; omega
theorem nF (n : Nat) (w : World) : (Instr.buildSlice 101 1 #[(0, .int .u64 n)]).run Tryz.prog w = .ok (.slice (some ⟨w.heap.size, 0, none⟩) 1 1) (w.alloc (.cells #[.int .u64 n] 28)) := by
 kernel_rfl
theorem uJ {S : Nat -> Nat -> Value -> Prop} {W : World} {p : Addr} {v : Value} (c : W.cell? p = some v) (hS : ∀ j y, ¬ S p.block j y) : ∀ w2, (vF S).r W w2 -> w2.cell? p = some v := λ w2 h => yL.cell h c hS
theorem posU_lt : ∀ {l : List Nat} {x : Nat}, x ∈ l -> posU l x < l.length
 | [], _, h => by cases h
 | y :: l, x, h => by
  unfold posU;rcases Nat.lt_or_ge y x with h1 | h1
  . rw [List.countP_cons_of_pos (by simpa using h1), List.length_cons];have : x ∈ l := by
     rcases List.mem_cons.1 h with h | h
     . omega
     . exact h
    exact Nat.succ_lt_succ (posU_lt this)
  . rw [List.countP_cons_of_neg (by simp; omega), List.length_cons];exact Nat.lt_succ_of_le List.countP_le_length
def sX (L : LogS) (h : Head) : Head := ⟨h.gen, h.epoch, h.first, if h.first ∈ L.starts then L.epochs.getD (posU L.starts h.first) 0 else h.epoch⟩
def turnI (first : Nat) (h : Head) : Nat := first + h.gen % 2
def tC (x : Dsk) (first size : Nat) (L : LogS) (h : Head) : Int := layE x (turnI first h) (yR (sX L h) size)
def qU (x : Dsk) (first size : Nat) (L : LogS) (h : Head) : Dsk := layX x (turnI first h) (yR (sX L h) size)
def turnN (x : Dsk) (first size : Nat) (L : LogS) (h : Head) (N : Nat) : Nat := layN x (turnI first h) (yR (sX L h) size) N
def tZ (x : Dsk) (first size : Nat) (L : LogS) (h : Head) : LogS := if tC x first size L h = 0 then { L with head := sX L h } else L.fall true
theorem goesE_two (x : Dsk) : uO x = 0 \/ uO x = 5 := by unfold uO; split <;> simp
theorem nQ (x : Dsk) (i : Nat) (bs : List Int) : layE x i bs = 0 \/ layE x i bs = 5 := by
 unfold layE
 split
 . exact goesE_two _
 . exact .inr rfl
theorem nL {L : LogS} {hg he hf hl v : Nat} (h : (if hf ∈ L.starts then L.epochs.getD (posU L.starts hf) 0 else he) = v) : sX L ⟨hg, he, hf, hl⟩ = ⟨hg, he, hf, v⟩ := by
 unfold sX;simp only;rw [h]
theorem turnH_ok {L : LogS} {hg he hf hl : Nat} (h1 : hg < 281474976710656) (h2 : he < 281474976710656) (h3 : hf <= 281474976710656) (hep : ∀ n ∈ L.epochs, n < 281474976710656) : (sX L ⟨hg, he, hf, hl⟩).ok := by
 refine ⟨by show hg < _; omega, by show he < _; omega, by show hf < _; omega, ?_⟩;show (if hf ∈ L.starts then L.epochs.getD (posU L.starts hf) 0 else he) < _
 split
 . rw [List.getD_eq_getElem?_getD]
   cases hq : L.epochs[posU L.starts hf]? with
   | none => decide
   | some v => have := hep v (List.mem_of_getElem? hq); show v < _; omega
 . omega
theorem lH (b : Bks) (x : Dsk) (N first size : Nat) (k : LBk) (L : LogS) (hd : Head) (w : World) (h : LSys w b x N first size k L) (hN : N <= 1099511627775)
 (h1 : hd.gen < 281474976710656) (h2 : hd.epoch < 281474976710656) (h3 : hd.first <= 281474976710656) (hr : L.starts.Pairwise (· < ·)) (hle : L.epochs.length = L.starts.length) (hsh : L.starts.length <= 65536) (hep : ∀ n ∈ L.epochs, n < 281474976710656) :
 Calls Tryz.prog 83 #[.pointer (some ⟨k.l, 0, none⟩), uU hd] w λ e w' => e = .returned (.int .i64 (tC x first size L hd)) /\ tU w b k (qU x first size L hd) (turnN x first size L hd N) first size (tZ x first size L hd) w' := by
 obtain ⟨hg, he, hf, hl⟩ := hd;have hb0 := zQ w (.cells #[.int .u64 hg, .int .u64 he, .int .u64 hf, .int .u64 he] 128);have g0 := World.alloc_heap_new w (.cells #[.int .u64 hg, .int .u64 he, .int .u64 hf, .int .u64 he] 128);simp only at h1 h2 h3;have hlt := h.log.lt;have HB := zB h.sys.dsk.lt;have hkl := hlt k.l (.inl rfl);have H := zB h; clear h;unfold uU;simp only;go_enter Tryz.func83, Tryz.ntmps83
 go_wp2_with fail
 generalize World.alloc w _ = w1 at hb0 g0 ⊢;have H1 := zB (H.out.below hb0);obtain ⟨y0, y1, y2, -, -, -, -, -, y8, y9, -⟩ := H1.out.log.cs;obtain ⟨p0, p1, p2, p3⟩ := box4 g0;obtain ⟨sa, sc, hks, -⟩ := zP H1.out.log.starts;obtain ⟨ea, ec, hke, -⟩ := zP H1.out.log.epochs;rw [hks] at y8;rw [hke] at y9;have HBS := zB (λ W (hW : Below w1.heap.size w1 W) => nN k.s L.starts hr hf W (Src.of_owns (H1.out.below hW).log.starts) (by omega));rw [hks] at HBS;refine zY (λ i => if i = 6 then some (λ v _ => v = .tuple #[.int .i64 (posU L.starts hf), .bool (decide (hf ∈ L.starts))]) else none) fol (by kernel_rfl) (λ W hW hh => ?_);clear hh;have q8 := zV hW y8;have z2 := zV hW p2
 repeat ((first | refine lxM ?_ | refine lxF ?_ | refine zM rfl ?_); simp only [zD])
 refine zW _ rfl (λ _ _ _ h _ => h) rfl (λ w1 hb1 hf1 => ?_) ?_
 . have hb1' := hb1
   (unfold yE; go_simp; simp only [zN])
   refine (HBS.out _ (zF hW hb1')).mono ?_;rintro e w' ⟨rfl, hB⟩;exact ⟨_, rfl, hB, rfl⟩
 rintro v W2 hB2 rfl;simp only [zD]
 repeat ((first | refine lxM ?_ | refine lxF ?_ | refine zM rfl ?_); simp only [zD])
 refine zZ ?_;clear q8 z2 HBS;have hW2 := zF hW hB2;have HW := zB (H1.out.below hW2);have GW := zB (zK hW2 g0);have BW := zB (zF hb0 hW2);clear y0 y1 y2 y8 y9 p0 p1 p2 p3 hW hB2;obtain ⟨y0, y1, y2, -, -, -, -, -, -, y9, -⟩ := HW.out.log.cs;obtain ⟨p0, p1, p2, p3⟩ := box4 GW.out;by_cases hin : hf ∈ L.starts
 . have hp := posU_lt hin;have hps : ∃ ps, posU L.starts hf = ps := ⟨_, rfl⟩;obtain ⟨ps, hps⟩ := hps;obtain ⟨ev, hev⟩ : ∃ ev, L.epochs.getD ps 0 = ev := ⟨_, rfl⟩;have hpe : ps < L.epochs.length := by rw [hle, <- hps]; exact hp
   have hge : L.epochs[ps]? = some ev := by rw [<- hev, List.getD_eq_getElem?_getD, List.getElem?_eq_getElem hpe]; rfl
   obtain ⟨g, c, hkg, -, -, hc, -, hcell, -⟩ := xB HW.out.log.epochs (Nat.lt_of_le_of_lt (Nat.zero_le _) hpe);have hce : W2.cell? ⟨g, ps, none⟩ = some (.int .u64 ev) := by rw [hcell ps (by omega)]; exact iQ hge
   rw [hkg] at y9;have HI := zB (show (if hf ∈ L.starts then L.epochs.getD (posU L.starts hf) 0 else he) = ev by rw [if_pos hin, hps, hev]);rw [decide_eq_true hin, hps];have hpe' : (ps : Int) < (L.epochs.length : Int) := by omega
   have hX := Ext.setCell (S := (· = w.heap.size)) (w := W2) (p := ⟨w.heap.size, 3, none⟩) rfl (.int .u64 ev);have hg4 := yB (j := 3) GW.out (.int .u64 ev);have fr : W2.frozen? ⟨w.heap.size, 3, none⟩ = false := by simp [World.frozen?, GW.out]
   have HX := zB (zC hX hg4);have Hps := zB hps;clear hin hp hps hev hge hcell hkg hc hX hg4
   go_wp2_with fail
   have hX := HX.out.1;have hg4 := HX.out.2;clear HX hce fr;generalize World.setCell W2 _ _ = W3 at hX hg4 ⊢;have hW3 : LSys W3 b x N first size k L := HW.out.ext hX λ j e => by
    subst e;refine ⟨Nat.le_trans H.out.sys.pkg.lt (Nat.le_refl _), λ h => Nat.lt_irrefl _ (HB.out _ h), λ h => Nat.lt_irrefl _ (hlt _ h)⟩
   have hB3 : Below w.heap.size w W3 := BW.out.trans (hX.to_belowAt BW.out.size λ j hj => by omega);clear HW GW BW y0 y1 y2 y9 p0 p1 p2 p3 hX;have HW := zB hW3;have GW := zB hg4;have BW := zB hB3;clear hW3 hg4 hB3;obtain ⟨y0, y1, y2, -⟩ := HW.out.log.cs;obtain ⟨p0, p1, p2, p3⟩ := box4 GW.out;have HL := zB (HI.out);refine zR 5 (λ _ => none) fol (by kernel_rfl) (λ U hU hh => ?_);clear hh;have q0 := zV hU y0;have q1 := zV hU y1;have q2 := zV hU y2;have z0 := zV hU p0;have z1 := zV hU p1;have z2 := zV hU p2;have z3 := zV hU p3;simp only [fT]
   repeat ((first | refine lxM ?_ | refine lxF ?_ | refine zM rfl ?_); simp only [zD])
   refine zZ ?_;clear q0 q1 q2 z0 z1 z2 z3;have HU := zB (zC (HW.out.below hU) (zC (zK hU GW.out) (zF BW.out hU)));have HC := zB (kR b x N first size (sX L ⟨hg, he, hf, hl⟩) (turnH_ok h1 h2 h3 hep) (by have := HU.out.1.fit; have := HU.out.1.big; omega) (by have := HU.out.1.le; omega) U HU.out.1.sys hN);have hth := nL (hg := hg) (hl := hl) HL.out;rw [hth] at HC;unfold uU vH at HC;simp only at HC;clear y0 y1 y2 p0 p1 p2 p3 hth
   go_wp2_with fail
   refine HC.out.mono ?_;rintro e V ⟨rfl, hP⟩;have hth := nL (hg := hg) (hl := hl) HL.out;have HT := zB (show tC x first size L ⟨hg, he, hf, hl⟩ = layE x (first + hg % 2) (yR ⟨hg, he, hf, ev⟩ size) /\ qU x first size L ⟨hg, he, hf, hl⟩ = layX x (first + hg % 2) (yR ⟨hg, he, hf, ev⟩ size) /\ turnN x first size L ⟨hg, he, hf, hl⟩ N = layN x (first + hg % 2) (yR ⟨hg, he, hf, ev⟩ size) N by
    unfold tC qU turnN turnI; rw [hth]; exact ⟨rfl, rfl, rfl⟩)
   obtain ⟨b2, k2, hd2, hl2, ha2, hX2, hS2⟩ := HU.out.1.disked hP (sL _ _ _);have hnot : ¬ (b.all w.heap.size \/ k.all w.heap.size) := λ h => by
    rcases h with h | h
    . exact Nat.lt_irrefl _ (HB.out _ h)
    . exact Nat.lt_irrefl _ (hlt _ h)
   have gV := hX2.heap HU.out.2.1 hnot;obtain ⟨p0, p1, p2, p3⟩ := box4 gV;rcases nQ x (first + hg % 2) (yR ⟨hg, he, hf, ev⟩ size) with hE | hE
   . rw [hE];have hcs := hS2.log.cs;rw [hl2] at hcs;obtain ⟨y0, y1, y2, y3, y4, y5, y6, -, -, -, -, fr⟩ := hcs;have HTE := zB (HT.out.1.trans hE);have HS := zB (zC hS2 (zC hX2 ha2));clear hE hS2 hX2 hP;have hX3 : Ext (· = k.l) V ((((V.setCell ⟨k.l, 3, none⟩ (.int .u64 hg)).setCell ⟨k.l, 4, none⟩ (.int .u64 he)).setCell ⟨k.l, 5, none⟩ (.int .u64 hf)).setCell ⟨k.l, 6, none⟩ (.int .u64 ev)) :=
      (((Ext.setCell (S := (· = k.l)) (p := ⟨k.l, 3, none⟩) rfl _).trans (Ext.setCell (S := (· = k.l)) (p := ⟨k.l, 4, none⟩) rfl _) (λ _ _ h => h)).trans (Ext.setCell (S := (· = k.l)) (p := ⟨k.l, 5, none⟩) rfl _) (λ _ _ h => h)).trans (Ext.setCell (S := (· = k.l)) (p := ⟨k.l, 6, none⟩) rfl _) (λ _ _ h => h)
     have hc3 := yB (j := 6) (yB (j := 5) (yB (j := 4) (yB (j := 3) (by have := HS.out.1.log.cells; rw [hl2] at this; exact this) (.int .u64 hg)) (.int .u64 he)) (.int .u64 hf)) (.int .u64 ev);have HX3 := zB (zC hX3 hc3);clear hX3 hc3 gV
     go_wp2_with fail
     go_ret
     have hX3 := HX3.out.1;rw [<- hl2] at hX3;have hL3 := HS.out.1.log.heads (L' := tZ x first size L ⟨hg, he, hf, hl⟩) hX3 (by
      rw [hl2];refine HX3.out.2.trans ?_;unfold tZ;rw [if_pos HTE.out];have hth := nL (hg := hg) (hl := hl) HL.out;rw [hth];rfl) (by unfold tZ; split <;> rfl) (by unfold tZ; split <;> rfl)
     rw [hl2] at hL3 hX3;refine ⟨HTE.out.symm ▸ rfl, ?_⟩;rw [HT.out.2.1, HT.out.2.2];refine .of_below HU.out.2.2 (.trans hd2 hl2 HS.out.2.2 HS.out.2.1 ?_);have hX3' := HX3.out.1.mono (S' := (· = k2.l)) λ j _ e => e.trans hl2.symm;exact HS.out.1.headed hX3' hL3
   . rw [hE];have HF := zB (pE b2.d first size k2 L true V hS2.log);rw [hl2] at HF;have HTE := zB (HT.out.1.trans hE);have HS := zB (zC hS2 (zC hX2 ha2));clear hE hS2 hX2 hP gV p0 p1 p2 p3
     go_wp2_with fail
     refine HF.out.mono ?_;rintro e V3 ⟨rfl, hL3, hX3⟩;have hne : tZ x first size L ⟨hg, he, hf, hl⟩ = L.fall true := by unfold tZ; rw [if_neg (by rw [HTE.out]; decide)]
     rw [Bool.or_true];have HNE := zB (zC hne (zC hL3 hX3));clear hne hL3 hX3
     go_wp2_with fail
     go_ret
     refine ⟨HTE.out.symm ▸ rfl, ?_⟩;rw [HT.out.2.1, HT.out.2.2, HNE.out.1];refine .of_below HU.out.2.2 (.trans hd2 hl2 HS.out.2.2 HS.out.2.1 ?_);have hX3 := HNE.out.2.2;rw [<- hl2] at hX3;exact HS.out.1.headed hX3 HNE.out.2.1
 . have HI := zB (show (if hf ∈ L.starts then L.epochs.getD (posU L.starts hf) 0 else he) = he by rw [if_neg hin]);rw [decide_eq_false hin];clear hin y9
   go_wp2_with fail
   have HL := zB (HI.out);refine zR 5 (λ _ => none) fol (by kernel_rfl) (λ U hU hh => ?_);clear hh;have q0 := zV hU y0;have q1 := zV hU y1;have q2 := zV hU y2;have z0 := zV hU p0;have z1 := zV hU p1;have z2 := zV hU p2;have z3 := zV hU p3;simp only [fT]
   repeat ((first | refine lxM ?_ | refine lxF ?_ | refine zM rfl ?_); simp only [zD])
   refine zZ ?_;clear q0 q1 q2 z0 z1 z2 z3;have HU := zB (zC (HW.out.below hU) (zC (zK hU GW.out) (zF BW.out hU)));have HC := zB (kR b x N first size (sX L ⟨hg, he, hf, hl⟩) (turnH_ok h1 h2 h3 hep) (by have := HU.out.1.fit; have := HU.out.1.big; omega) (by have := HU.out.1.le; omega) U HU.out.1.sys hN);have hth := nL (hg := hg) (hl := hl) HL.out;rw [hth] at HC;unfold uU vH at HC;simp only at HC;clear y0 y1 y2 p0 p1 p2 p3 hth
   go_wp2_with fail
   refine HC.out.mono ?_;rintro e V ⟨rfl, hP⟩;have hth := nL (hg := hg) (hl := hl) HL.out;have HT := zB (show tC x first size L ⟨hg, he, hf, hl⟩ = layE x (first + hg % 2) (yR ⟨hg, he, hf, he⟩ size) /\ qU x first size L ⟨hg, he, hf, hl⟩ = layX x (first + hg % 2) (yR ⟨hg, he, hf, he⟩ size) /\ turnN x first size L ⟨hg, he, hf, hl⟩ N = layN x (first + hg % 2) (yR ⟨hg, he, hf, he⟩ size) N by
    unfold tC qU turnN turnI; rw [hth]; exact ⟨rfl, rfl, rfl⟩)
   obtain ⟨b2, k2, hd2, hl2, ha2, hX2, hS2⟩ := HU.out.1.disked hP (sL _ _ _);have hnot : ¬ (b.all w.heap.size \/ k.all w.heap.size) := λ h => by
    rcases h with h | h
    . exact Nat.lt_irrefl _ (HB.out _ h)
    . exact Nat.lt_irrefl _ (hlt _ h)
   have gV := hX2.heap HU.out.2.1 hnot;obtain ⟨p0, p1, p2, p3⟩ := box4 gV;rcases nQ x (first + hg % 2) (yR ⟨hg, he, hf, he⟩ size) with hE | hE
   . rw [hE];have hcs := hS2.log.cs;rw [hl2] at hcs;obtain ⟨y0, y1, y2, y3, y4, y5, y6, -, -, -, -, fr⟩ := hcs;have HTE := zB (HT.out.1.trans hE);have HS := zB (zC hS2 (zC hX2 ha2));clear hE hS2 hX2 hP;have hX3 : Ext (· = k.l) V ((((V.setCell ⟨k.l, 3, none⟩ (.int .u64 hg)).setCell ⟨k.l, 4, none⟩ (.int .u64 he)).setCell ⟨k.l, 5, none⟩ (.int .u64 hf)).setCell ⟨k.l, 6, none⟩ (.int .u64 he)) :=
      (((Ext.setCell (S := (· = k.l)) (p := ⟨k.l, 3, none⟩) rfl _).trans (Ext.setCell (S := (· = k.l)) (p := ⟨k.l, 4, none⟩) rfl _) (λ _ _ h => h)).trans (Ext.setCell (S := (· = k.l)) (p := ⟨k.l, 5, none⟩) rfl _) (λ _ _ h => h)).trans (Ext.setCell (S := (· = k.l)) (p := ⟨k.l, 6, none⟩) rfl _) (λ _ _ h => h)
     have hc3 := yB (j := 6) (yB (j := 5) (yB (j := 4) (yB (j := 3) (by have := HS.out.1.log.cells; rw [hl2] at this; exact this) (.int .u64 hg)) (.int .u64 he)) (.int .u64 hf)) (.int .u64 he);have HX3 := zB (zC hX3 hc3);clear hX3 hc3 gV
     go_wp2_with fail
     go_ret
     have hX3 := HX3.out.1;rw [<- hl2] at hX3;have hL3 := HS.out.1.log.heads (L' := tZ x first size L ⟨hg, he, hf, hl⟩) hX3 (by
      rw [hl2];refine HX3.out.2.trans ?_;unfold tZ;rw [if_pos HTE.out];have hth := nL (hg := hg) (hl := hl) HL.out;rw [hth];rfl) (by unfold tZ; split <;> rfl) (by unfold tZ; split <;> rfl)
     rw [hl2] at hL3 hX3;refine ⟨HTE.out.symm ▸ rfl, ?_⟩;rw [HT.out.2.1, HT.out.2.2];refine .of_below HU.out.2.2 (.trans hd2 hl2 HS.out.2.2 HS.out.2.1 ?_);have hX3' := HX3.out.1.mono (S' := (· = k2.l)) λ j _ e => e.trans hl2.symm;exact HS.out.1.headed hX3' hL3
   . rw [hE];have HF := zB (pE b2.d first size k2 L true V hS2.log);rw [hl2] at HF;have HTE := zB (HT.out.1.trans hE);have HS := zB (zC hS2 (zC hX2 ha2));clear hE hS2 hX2 hP gV p0 p1 p2 p3
     go_wp2_with fail
     refine HF.out.mono ?_;rintro e V3 ⟨rfl, hL3, hX3⟩;have hne : tZ x first size L ⟨hg, he, hf, hl⟩ = L.fall true := by unfold tZ; rw [if_neg (by rw [HTE.out]; decide)]
     rw [Bool.or_true];have HNE := zB (zC hne (zC hL3 hX3));clear hne hL3 hX3
     go_wp2_with fail
     go_ret
     refine ⟨HTE.out.symm ▸ rfl, ?_⟩;rw [HT.out.2.1, HT.out.2.2, HNE.out.1];refine .of_below HU.out.2.2 (.trans hd2 hl2 HS.out.2.2 HS.out.2.1 ?_);have hX3 := HNE.out.2.2;rw [<- hl2] at hX3;exact HS.out.1.headed hX3 HNE.out.2.1
def nE (rec : List Int) (i : Nat) : List Int := (rec.drop (i * 104)).take 104
def uE (n epoch : Nat) (rec : List Int) (i : Nat) : List Int := tM (wN ⟨n + i, epoch, rec.length, i, nE rec i⟩)
def appX (x : Dsk) (first size n epoch : Nat) (rec : List Int) : Nat -> Dsk × Bool
 | 0 => (x, true)
 | j + 1 => match appX x first size n epoch rec j with
  | (y, true) => (vP y (wY first size (n + j)) (uE n epoch rec j), vC y)
  | (y, false) => (y, false)
def yH (x : Dsk) (first size : Nat) (L : LogS) (rec : List Int) : Dsk × LogS × Nat × Int :=
 if L.fallen || x.off then (x, L.fall x.off, 0, 5) else
 if 281474976710655 < L.next + need rec.length - 1 then (x, L.fall x.off, 0, 6) else
 if L.free size < need rec.length then (x, L.fall x.off, 0, 2) else
 match appX x first size L.next L.head.epoch rec (need rec.length) with
 | (y, true) => (y, ⟨L.head, L.next + need rec.length, L.starts ++ [L.next], L.epochs ++ [L.head.epoch], L.fallen || x.off⟩, L.next, 0)
 | (y, false) => (y, L.fall true, 0, 5)
theorem pieceRaw_len {p : qC} (hb : zO p.data) (hl : p.data.length <= 104) : (tM (wN p)).length = 128 /\ zO (tM (wN p)) := by
 have h0 : (yP ++ yN 120).length = 124 := by simp [yP, wF]
 have b0 : zO (yP ++ yN 120) := uN.2.append (uL _);have s1 : ∀ {bs : List Int} {at' : Nat} {D : List Int}, bs.length = 124 -> at' + D.length <= 124 -> (layB bs at' D).length = 124 := λ h1 h2 => by rw [mV (by omega), h1]
 have h1 : (wN p).length = 124 := by
  unfold wN;refine s1 (s1 (s1 (s1 (s1 h0 ?_) ?_) ?_) ?_) (by omega) <;> rw [yI] <;> decide
 refine ⟨by simp [tM, h1, pU], ?_⟩;unfold tM wN;exact (((((b0.lay (yK _ _)).lay (yK _ _)).lay (yK _ _)).lay (yK _ _)).lay hb).append (mB _)
theorem appX_stop {x : Dsk} {first size n epoch : Nat} {rec : List Int} {y : Dsk} {i K : Nat} (h : appX x first size n epoch rec i = (y, false)) (hK : i <= K) : appX x first size n epoch rec K = (y, false) := by
 induction K with
 | zero => rw [Nat.le_zero.1 hK] at h; exact h
 | succ K ih =>
  rcases Nat.eq_or_lt_of_le hK with rfl | hK
  . exact h
  . unfold appX;rw [ih (Nat.lt_succ_iff.1 hK)]
theorem kL (rec : List Int) (i : Nat) : (nE rec i).length = min 104 (rec.length - i * 104) := by unfold nE; rw [List.length_take, List.length_drop]
theorem LogS.ok.fall {L : LogS} {size : Nat} (h : L.ok size) (now : Bool) : (L.fall now).ok size := ⟨h.gen, h.epoch, h.first, h.least, h.next, h.order, h.ring, h.rise, h.len, h.short, h.low, h.ep⟩
theorem nX (b : Bks) (x : Dsk) (N first size : Nat) (k : LBk) (L : LogS) (v : Value) (rec : List Int) (w : World) (h : LSys w b x N first size k L) (hN : N <= 1099511627600) (ho : L.ok size)
 (hv : Src w v (u8s rec)) (hfar : ∀ j, v.ownBlock = some j -> ¬ b.all j /\ ¬ k.all j) (hb : zO rec) (h0 : 0 < rec.length) (hl : rec.length <= 8192) :
 Calls Tryz.prog 46 #[.pointer (some ⟨k.l, 0, none⟩), v] w λ e w' => e = .returned (.tuple #[.int .u64 (yH x first size L rec).2.2.1, .int .i64 (yH x first size L rec).2.2.2]) /\ tU w b k (yH x first size L rec).1 (N + 79) first size (yH x first size L rec).2.1 w' := by
 obtain ⟨c0, -⟩ := h.log.cs;obtain ⟨m, hm⟩ : ∃ m, rec.length = m := ⟨_, rfl⟩;obtain ⟨g, o, c, rfl, hc, hr⟩ : ∃ g o c, v = .slice (some ⟨g, o, none⟩) m c /\ m <= c /\ ∀ j u, (u8s rec)[j]? = some u -> w.cell? ⟨g, o + j, none⟩ = some u := by
  rcases hv with ⟨g, o, c, rfl, hc, hr⟩ | ⟨-, h2⟩
  . rw [zH, hm] at hc ⊢;exact ⟨g, o, c, rfl, hc, hr⟩
  . have := congrArg List.length h2;rw [zH] at this;simp at this;subst this
    cases h0
 have Hm := zB hm;rw [hm] at hl h0;have hl' : (m : Int) <= 8192 := by omega
 have HR := zB (jF b x N first size k L w h);have HP : ∀ q, yH x first size L rec = q -> yH x first size L rec = q := λ _ h => h;have Hhr := zB hr;have Hfar := zB (hfar g rfl);clear hfar;clear hv hm hr HP;go_enter Tryz.func46, Tryz.ntmps46
 go_wp2_with fail
 refine HR.out.mono ?_;rintro e w1 ⟨rfl, hP1⟩
 cases hf : (L.fallen || x.off)
 . obtain ⟨b1, k1, hd1, hl1, ha1, hX1, hS1⟩ := hP1;have hcs := hS1.log.cs;rw [hl1] at hcs;obtain ⟨y0, y1, y2, y3, y4, y5, y6, y7, -⟩ := hcs;have HNd := zB λ w' => qL m (by omega) w';have Hf := zB hf;clear hf c0;unfold fallE;rw [if_neg (by decide)]
   go_wp2_with fail
   refine zY (λ i => if i = 6 then some (λ v _ => v = .int .i64 (need m)) else none) fol (by kernel_rfl) (λ W hW hh => ?_);clear hh;have q7 := zV hW y7
   repeat ((first | refine lxM ?_ | refine lxF ?_ | refine zM rfl ?_); simp only [zD])
   refine zW _ rfl (λ _ _ _ h _ => h) rfl (λ w1 hb1 hf1 => ?_) ?_
   . have hb1' := hb1
     (unfold yE; go_simp; simp only [zN])
     refine (HNd.out _).mono ?_;rintro e w' ⟨rfl, rfl⟩;exact ⟨_, rfl, Below.refl _ _, rfl⟩
   rintro v W2 hB2 rfl;simp only [zD]
   repeat ((first | refine lxM ?_ | refine lxF ?_ | refine zM rfl ?_); simp only [zD])
   refine zZ ?_;clear q7 HNd;have hW2 := zF hW hB2;have HS := zB (zC (hS1.below hW2) (zC (hX1.trans (Ext.of_below (S := λ j => b.all j \/ k.all j) hW2) (λ _ _ h => h)) ha1));have hnd := qK m hl;obtain ⟨K, hK⟩ : ∃ K, need m = K := ⟨_, rfl⟩;rw [hK] at hnd ⊢;have HK := zB hK;have hnx := ho.next;have hnx' : (L.fall x.off).next = L.next := rfl;rw [hnx'];obtain ⟨n, hn⟩ : ∃ n, L.next = n := ⟨_, rfl⟩;rw [hn] at hnx ⊢;have Hn := zB hn;clear hn hnx' hK hW2 hW hB2 hS1 hX1 ha1 y0 y1 y2 y3 y4 y5 y6 y7;have e1 := IntWalk.u64_in ((n : Int) + (K : Int)) (by omega);have e2 := IntWalk.u64_in ((n : Int) + (K : Int) - 1) (by omega);by_cases hend : 281474976710655 < n + K - 1
   . have hend' : (281474976710655 : Int) < (n : Int) + (K : Int) - 1 := by omega
     have hR : yH x first size L rec = (x, L.fall x.off, 0, 6) := by
      unfold yH;rw [if_neg (by rw [Hf.out]; decide), Hm.out, HK.out, Hn.out, if_pos hend]
     have HRR := zB hR;clear hR
     go_wp2_with fail
     go_ret2
     rw [HRR.out];exact ⟨rfl, (tU.same (b := b) (k := k) (w := w) h (Below.refl _ _) |> λ _ => ⟨b1, k1, hd1, hl1, HS.out.2.2, HS.out.2.1, HS.out.1.mono (by omega)⟩)⟩
   . have hend' : ¬ (281474976710655 : Int) < (n : Int) + (K : Int) - 1 := by omega
     have HFr := zB (free_any b1.d first size k1 (L.fall x.off) W2 HS.out.1.log HS.out.1.big (by have := HS.out.1.le; omega) (ho.fall _));rw [hl1] at HFr;have hfr : (L.fall x.off).free size = L.free size := rfl;rw [hfr] at HFr;obtain ⟨F, hF⟩ : ∃ F, L.free size = F := ⟨_, rfl⟩;rw [hF] at HFr;have HF := zB hF;clear hF hfr
     go_wp2_with fail
     refine HFr.out.mono ?_;rintro e W3 ⟨rfl, hB3⟩;have HS3 := zB (zC (HS.out.1.below hB3) (HS.out.2.1.trans (Ext.of_below (S := λ j => b.all j \/ k.all j) hB3) (λ _ _ h => h)));clear HFr hB3;by_cases hfull : F < K
     . have hfull' : (F : Int) < (K : Int) := by omega
       have hR : yH x first size L rec = (x, L.fall x.off, 0, 2) := by
        unfold yH;rw [if_neg (by rw [Hf.out]; decide), Hm.out, HK.out, Hn.out, if_neg hend, HF.out, if_pos hfull]
       have HRR := zB hR;clear hR
       go_wp2_with fail
       go_ret2
       rw [HRR.out];exact ⟨rfl, b1, k1, hd1, hl1, HS.out.2.2, HS3.out.2, HS3.out.1.mono (by omega)⟩
     . have hfull' : ¬ (F : Int) < (K : Int) := by omega
       have hR : yH x first size L rec = match appX x first size n L.head.epoch rec K with
        | (y, true) => (y, ⟨L.head, n + K, L.starts ++ [n], L.epochs ++ [L.head.epoch], L.fallen || x.off⟩, n, 0)
        | (y, false) => (y, L.fall true, 0, 5) := by
        unfold yH;rw [if_neg (by rw [Hf.out]; decide), Hm.out, HK.out, Hn.out, if_neg hend, HF.out, if_neg hfull]
       have HRR := zB hR;clear hR;obtain ⟨ep, hep⟩ : ∃ ep, L.head.epoch = ep := ⟨_, rfl⟩;have hepb := ho.epoch;rw [hep] at HRR hepb;have Hep := zB hep;clear hep
       go_wp2_with fail
       go_loopw [52] (λ vi wr => ∃ i : Nat, vi = .int .i64 i /\ i <= K /\ (appX x first size n ep rec i).2 = true /\ tU w b k (appX x first size n ep rec i).1 (N + i) first size (L.fall x.off) wr)
        (λ vi _ => K - (intOf vi).toNat)
       case atStart => exact ⟨0, rfl, Nat.zero_le _, rfl, b1, k1, hd1, hl1, HS.out.2.2, HS3.out.2, HS3.out.1⟩
       case round =>
        obtain ⟨i, rfl, hi, hap, b2, k2, hd2, hl2, ha2, hX2, hS2⟩ := hrel;clear HS HS3 hd1 hl1;by_cases hik : i < K
        . have hik' : (i : Int) < (K : Int) := by omega
          have hcs := hS2.log.cs;rw [hl2, hd2] at hcs;obtain ⟨y0, y1, y2, -, y4, -⟩ := hcs;have y4 : wr.cell? ⟨k.l, 4, none⟩ = some (.int .u64 (ep : Int)) := by rw [<- Hep.out]; exact y4
          have hi104 : i * 104 < m := by
           have hk := HK.out;unfold need at hk;rw [if_pos hl] at hk;omega
          obtain ⟨d, hd⟩ : ∃ d, min 104 (m - i * 104) = d := ⟨_, rfl⟩;have hdI : (if ((i : Int) + 1) * 104 < (m : Int) then ((i : Int) + 1) * 104 else (m : Int)) = (i : Int) * 104 + (d : Int) := by rw [<- hd]; split <;> omega
          have hd1 : d <= 104 := by omega
          have hd2' : i * 104 + d <= m := by omega
          have hd3 : 1 <= d := by omega
          have hi1 : (i : Int) <= 79 := by omega
          have q1 : (i : Int) * 104 <= (m : Int) := by omega
          have q2 : (i : Int) * 104 + (d : Int) <= (m : Int) := by omega
          have HD := zB hd;clear hd
          go_wp2_with fail
          refine zR 24 (λ i => if i = 23 then some (λ v w' => ∃ n, v = .pointer (some ⟨n, 0, none⟩) /\ wr.heap.size <= n /\ w'.heap[n]? = some (.cells #[.int .u64 0, .int .u64 0, .int .i64 0, .int .i64 0, .slice none 0 0] 138 (0, 0))) else none) fol (by kernel_rfl) (λ V hV hh => ?_);clear hh;have z4 := zV hV y4;simp only [fT]
          repeat ((first | refine lxM ?_ | refine lxF ?_ | refine zM rfl ?_); simp only [zD])
          refine zW _ rfl (by exact λ _ _ _ ⟨n, h1, h2, h3⟩ hb => ⟨n, h1, h2, zK hb h3⟩) rfl (λ w1 hb1 hf1 => ?_) ?_
          . have hsz1 := (zF hV hb1).size
            (unfold yE; go_simp; simp only [zN])
            exact ⟨zQ _ _, _, rfl, by omega, World.alloc_heap_new _ _⟩
          rintro v5 V5 hV5 ⟨pm, rfl, hpm, gpm⟩;simp only [zD]
          repeat ((first | refine lxM ?_ | refine lxF ?_ | refine zM rfl ?_); simp only [zD])
          refine zZ ?_;clear z4;have hW5 : Below wr.heap.size wr V5 := zF hV hV5;obtain ⟨z0, z1, z2, z3, z4⟩ := box5 gpm;have fn : ∀ j, V5.frozen? ⟨pm, j, none⟩ = false := λ j => by simp [World.frozen?, gpm]
          have hset := tS (.int .u64 ((n : Int) + (i : Int))) (.int .u64 (ep : Int)) (.int .i64 (m : Int)) (.int .i64 (i : Int)) (.slice (some ⟨g, o + i * 104, none⟩) d (c - i * 104)) gpm;have hXm := rF V5 pm (.int .u64 ((n : Int) + (i : Int))) (.int .u64 (ep : Int)) (.int .i64 (m : Int)) (.int .i64 (i : Int)) (.slice (some ⟨g, o + i * 104, none⟩) d (c - i * 104));have HS5 := zB (zC hset hXm);clear gpm y0 y1 y2 y4 hset hXm
          go_wp2_with fail
          have hset := HS5.out.1;have hXm := HS5.out.2;clear HS5 z0 z1 z2 z3 z4 fn;generalize World.setCell _ ⟨pm, 4, none⟩ _ = V6 at hset hXm ⊢;have hB6 : Below wr.heap.size wr V6 := hW5.trans (hXm.to_belowAt hW5.size λ j hj => by omega);have HS6 := zB (zC (hS2.below hB6) hB6);clear hXm hW5 hV5 hV hB6;have hcs := HS6.out.1.log.cs;rw [hl2, hd2] at hcs;obtain ⟨y0, y1, y2, -⟩ := hcs;obtain ⟨z0, z1, z2, z3, z4⟩ := box5 hset;have hle := HS6.out.1.le;have hbig := HS6.out.1.big;have HRg := zB λ w' => ring_any (some ⟨b.d, 0, none⟩) first size (n + i) w' (by omega) (by omega) (by omega) (by omega);have hlrec := Hm.out;have hsrc : Src wr (.slice (some ⟨g, o + i * 104, none⟩) d (c - i * 104)) (u8s (nE rec i)) := by
           have hcl : (u8s (nE rec i)).length = d := by rw [zH, kL, hlrec, HD.out]
           refine .inl ⟨g, o + i * 104, c - i * 104, by rw [hcl], by rw [hcl]; omega, λ j u hu => ?_⟩;have hj : j < d := by
            have := (List.getElem?_eq_some_iff.1 hu).1
            rwa [hcl] at this
           have hu2 : (u8s rec)[i * 104 + j]? = some u := by
            rw [<- hu];unfold nE;rw [qF, tL, List.getElem?_take_of_lt (by omega), List.getElem?_drop]
           have h5 := Hhr.out _ _ hu2;rw [Nat.add_assoc];exact hX2.cell_some h5 (by rintro (h | h); exact Hfar.out.1 h; exact Hfar.out.2 h)
          have HPt := zB λ W (hW : Below wr.heap.size wr W) => ptext_any ⟨n + i, ep, m, i, nE rec i⟩ (.slice (some ⟨g, o + i * 104, none⟩) d (c - i * 104)) (by show n + i < _; omega) (by show ep < _; omega) (by show m <= _; omega) (by show i <= _; omega) ((hb.drop _).take _) (by show (nE rec i).length <= _; rw [kL]; omega) W (hS2.sys.pkg.below hW) (hsrc.below hW);have hpt : tM (wN ⟨n + i, ep, m, i, nE rec i⟩) = uE n ep rec i := by unfold uE; rw [hlrec]
          rw [hpt] at HPt;have hok := pieceRaw_len (p := ⟨n + i, ep, m, i, nE rec i⟩) ((hb.drop _).take _) (by show (nE rec i).length <= _; rw [kL]; omega);rw [hpt] at hok;have Hok := zB hok;clear hpt hok hsrc hlrec hset;simp only at HPt;refine zR 14 (λ j => if j = 11 then some (λ v _ => v = .int .i64 (wY first size (n + i))) else if j = 13 then some (λ v w' => ∃ ad c, v = .slice ad 128 c /\ Src w' v (u8s (uE n ep rec i))) else none) fol (by kernel_rfl) (λ V hV hh => ?_);clear hh;have r0 := zV hV y0;have r1 := zV hV y1;have r2 := zV hV y2;have t0 := zV hV z0;have t1 := zV hV z1;have t2 := zV hV z2;have t3 := zV hV z3;have t4 := zV hV z4;simp only [fT]
          repeat ((first | refine lxM ?_ | refine lxF ?_ | refine zM rfl ?_); simp only [zD])
          refine zW _ rfl (λ _ _ _ h _ => h) rfl (λ w1 hb1 hf1 => ?_) ?_
          . (unfold yE; go_simp; simp only [zN])
            refine (HRg.out _).mono ?_;rintro e w' ⟨rfl, hbb⟩;exact ⟨_, rfl, hbb, rfl⟩
          rintro v9 W9 hB9 rfl;simp only [zD]
          repeat ((first | refine lxM ?_ | refine lxF ?_ | refine zM rfl ?_); simp only [zD])
          refine zW _ rfl (by exact λ _ _ _ ⟨ad, c, h1, h2⟩ hb => ⟨ad, c, h1, h2.below hb⟩) rfl (λ w1 hb1 hf1 => ?_) ?_
          . have hbb1 := zF HS6.out.2 (zF hV hb1)
            (unfold yE; go_simp; simp only [zN])
            refine (HPt.out _ hbb1).mono ?_;rintro e w' ⟨u, rfl, hown, hbb⟩;obtain ⟨g, c, rfl, -⟩ := xB hown (by decide);exact ⟨_, rfl, hbb, ⟨_, _, rfl⟩, Src.of_owns hown⟩
          rintro v10 W10 hB10 ⟨ad, pc, rfl, hsrc⟩;simp only [zD]
          repeat ((first | refine lxM ?_ | refine lxF ?_ | refine zM rfl ?_); simp only [zD])
          refine zZ ?_;clear r0 r1 r2 t0 t1 t2 t3 t4 y0 y1 y2 z0 z1 z2 z3 z4 HRg HPt;have hB10' := zF hV (zF hB9 hB10);have HS10 := zB (zC (HS6.out.1.below hB10') (zF HS6.out.2 hB10'));have hri : wY first size (n + i) < (appX x first size n ep rec i).1.dur.length := by
           have h1 := Nat.mod_lt (n + i) (show 0 < size - 2 by omega);have h2 := HS10.out.1.fit;unfold wY;omega
          have HWr := zB (iW b2 (appX x first size n ep rec i).1 (N + i) (wY first size (n + i)) hri (.slice ad 128 pc) (uE n ep rec i) Hok.out.1 Hok.out.2 W10 HS10.out.1.sys (by omega) hsrc);rw [hd2] at HWr;clear hsrc hri
          go_wp2_with fail
          refine HWr.out.mono ?_;rintro e W11 ⟨rfl, hP11⟩;have hP := HS10.out.1.disked hP11 (by rw [nJ]);have hstep : appX x first size n ep rec (i + 1) = (vP (appX x first size n ep rec i).1 (wY first size (n + i)) (uE n ep rec i), vC (appX x first size n ep rec i).1) := by
           show (match appX x first size n ep rec i with | (y, true) => _ | (y, false) => _) = _
           generalize appX x first size n ep rec i = q at hap ⊢;obtain ⟨y, t⟩ := q;simp only at hap;subst hap;rfl
          obtain ⟨b3, k3, hd3, hl3, ha3, hX3, hS3⟩ : tU w b k (appX x first size n ep rec (i + 1)).1 (N + (i + 1)) first size (L.fall x.off) W11 := by
           rw [hstep];exact .trans hd2 hl2 ha2 hX2 (.of_below HS10.out.2 hP)
          clear hP hP11
          cases hgo : vC (appX x first size n ep rec i).1
          . have hge : uO (appX x first size n ep rec i).1 = 5 := by simp [uO, hgo]
            rw [hge];have hfin : appX x first size n ep rec K = (vP (appX x first size n ep rec i).1 (wY first size (n + i)) (uE n ep rec i), false) := by
             rw [hgo] at hstep;exact appX_stop hstep (by omega)
            have hRR := HRR.out;rw [hfin] at hRR;simp only at hRR;have HRR2 := zB hRR;have hst1 : (appX x first size n ep rec (i + 1)).1 = vP (appX x first size n ep rec i).1 (wY first size (n + i)) (uE n ep rec i) := by rw [hstep]
            rw [hst1] at hS3;have HF := zB (pE b3.d first size k3 (L.fall x.off) true W11 hS3.log);rw [hl3] at HF;have HS3 := zB (zC hS3 (zC ha3 hX3));clear hst1 hstep hfin hRR HRR hge hgo hS3 ha3 hX3 hap
            go_wp2_with fail
            refine HF.out.mono ?_;rintro e W12 ⟨rfl, hL12, hX12⟩;rw [Bool.or_true];have HL12 := zB (zC hL12 hX12);clear hL12 hX12 HF
            go_wp2_with fail
            go_ret2
            rw [HRR2.out];refine ⟨rfl, .mono (.trans hd3 hl3 HS3.out.2.1 HS3.out.2.2 ?_) (show N + (i + 1) <= N + 79 by omega)⟩;have hff : (L.fall x.off).fall true = L.fall true := by unfold LogS.fall; simp
            have h12 := HL12.out.1;rw [hff] at h12;exact HS3.out.1.headed (HL12.out.2.mono λ j _ e => e.trans hl3.symm) h12
          . have hge : uO (appX x first size n ep rec i).1 = 0 := by simp [uO, hgo]
            rw [hge];have HS3 := zB (zC hS3 (zC ha3 hX3));have Hst := zB (show (appX x first size n ep rec (i + 1)).2 = true by rw [hstep]; exact hgo);clear hstep hge hgo hS3 ha3 hX3 hap
            go_wp2_with fail
            refine ⟨⟨i + 1, by simp, by omega, Hst.out, b3, k3, hd3, hl3, HS3.out.2.1, HS3.out.2.2, HS3.out.1⟩, ?_⟩;show K - ((i : Int) + 1).toNat < K - (i : Int).toNat;omega
        . have hik' : ¬ (i : Int) < (K : Int) := by omega
          obtain rfl : i = K := by omega
          have hcs := hS2.log.cs;rw [hl2, hd2] at hcs;obtain ⟨y0, y1, y2, y3, y4, y5, y6, y7, y8, y9, -, -⟩ := hcs;have hlg := hS2.log;obtain ⟨sa, sc, hks, -⟩ := zP hlg.starts;obtain ⟨ea, ec, hke, -⟩ := zP hlg.epochs;rw [hks] at y8;rw [hke] at y9;have y4 : wr.cell? ⟨k.l, 4, none⟩ = some (.int .u64 (ep : Int)) := by rw [<- Hep.out]; exact y4
          have y7 : wr.cell? ⟨k.l, 7, none⟩ = some (.int .u64 (n : Int)) := by rw [<- Hn.out]; exact y7
          have hls := ho.short;have hle := ho.len;obtain ⟨LL, hLL⟩ : ∃ LL, L.fall x.off = LL := ⟨_, rfl⟩;have hLs : LL.starts = L.starts := by rw [<- hLL]; rfl
          have hLe : LL.epochs = L.epochs := by rw [<- hLL]; rfl
          rw [hLL] at hlg hks hke y8 y9 hS2;have hno : ∀ j y, ¬ numS k2 LL n ep k.l j y := by rw [<- hl2]; exact numS_not hlg (.inr rfl)
          have HG := zB hlg;have HSt := zB (zC (zC hLs hLe) (zC hks hke));have hlls : LL.starts.length <= 65536 := by rw [hLs]; exact ho.short
          have hlle : LL.epochs.length <= 65536 := by rw [hLe, ho.len]; exact ho.short
          have HS2 := zB (zC hS2 (zC hX2 ha2));have Hap := zB hap;clear hlg hS2 hX2 ha2 hls hle hLs hLe hks hke hap y0 y1 y2 y3 y5 y6
          go_wp2_with fail
          refine xJ (vF (numS k2 LL n ep)) 23 [1] (λ i => if i = 7 then some (λ _ => oneN wr.heap.size n) else if i = 8 then some (λ _ => appS wr.heap.size k2 LL n) else if i = 18 then some (λ _ => oneN wr.heap.size ep) else if i = 19 then some (λ sn => appE wr.heap.size k2 LL ep (sn 106)) else none) (λ _ => True) (λ _ _ => True) fol (by kernel_rfl) (λ _ _ _ _ _ => trivial) (λ W hW hh => ?_);clear hh;have HGW := zB (HG.out.below hW);have q4 := uJ (S := numS k2 LL n ep) (zG hW y4) hno;have q7 := uJ (S := numS k2 LL n ep) (zG hW y7) hno;have q8 := uJ (S := numS k2 LL n ep) (zG hW y8) hno;have q9 := uJ (S := numS k2 LL n ep) (zG hW y9) hno;have HSZ := zB hW.size;have hstarts : ∀ w1, (vF (numS k2 LL n ep)).r W w1 -> w1.ownsRow 0 28 1 k2.s LL.starts.length (nums LL.starts) := λ w1 hr => yL.owns hr HGW.out.starts λ g j y hg hs => by
           rcases hs with ⟨-, rfl, -⟩ | ⟨h4, -⟩
           . left; omega
           . exact absurd h4 (HGW.out.ne3 g hg)
          have hepochs : ∀ w1, (vF (numS k2 LL n ep)).r W w1 -> w1.ownsRow 0 28 1 k2.e LL.epochs.length (nums LL.epochs) := λ w1 hr => yL.owns hr HGW.out.epochs λ g j y hg hs => by
           rcases hs with ⟨h4, -⟩ | ⟨-, rfl, -⟩
           . exact absurd hg (HGW.out.ne3 g h4)
           . left; omega
          have Hstarts := zB hstarts;have Hepochs := zB hepochs;clear hstarts hepochs;simp only [fT]
          repeat ((first | refine rxM ?_ | refine rxF ?_ | (refine vA (by first | exact .inl rfl | exact .inr rfl) rfl ?_)); simp only [zD])
          refine xV _ rfl (kA HG.out) rfl (λ w1 hr1 hf1 => ?_) (λ v7 w7 hr7 hS7 => ?_)
          . exact xT (xO 101 1 (.tmp 104) rfl (nF n w1)) ⟨yL.of_below (zQ _ _), _, rfl, Nat.le_trans HSZ.out hr1.size, yV (World.alloc_heap_new _ _) 0 _ rfl⟩
          obtain ⟨g7, rfl, hg7, hc7⟩ := hS7;simp only [zD];refine xV _ rfl (kQ HG.out) rfl (λ w1 hr1 hf1 => ?_) (λ v8 w8 hr8 hS8 => ?_)
          . have h7 : oneN wr.heap.size n (.slice (some ⟨g7, 0, none⟩) 1 1) w1 := hf1 105 (.inl (by decide)) (by simp);obtain ⟨g7', e7, -, hc7'⟩ := h7;injection e7 with e7;injection e7 with e7;injection e7 with e7;subst e7;obtain ⟨v', w', r1, r2, r3, r4⟩ := app_num w1 k2.s _ _ (Hstarts.out w1 hr1) (by omega) g7 1 _ hc7' rfl 101;rw [HSt.out.2.1] at r1;refine xT (yM (.tmp 103) (.tmp 105) 101 101 rfl r1) ⟨r3.mono λ k j y h => .inl h, by rw [tD]; exact r2, λ j hj => (r4 j hj).imp id λ h => Nat.le_trans HSZ.out (Nat.le_trans hr1.size h)⟩
          simp only [zD]
          repeat ((first | refine rxM ?_ | refine rxF ?_ | (refine vA (by first | exact .inl rfl | exact .inr rfl) rfl ?_)); simp only [zD])
          refine xV _ rfl (kA HG.out) rfl (λ w1 hr1 hf1 => ?_) (λ v18 w18 hr18 hS18 => ?_)
          . exact xT (xO 101 1 (.tmp 115) rfl (nF ep w1)) ⟨yL.of_below (zQ _ _), _, rfl, Nat.le_trans HSZ.out hr1.size, yV (World.alloc_heap_new _ _) 0 _ rfl⟩
          obtain ⟨g18, rfl, hg18, hc18⟩ := hS18;simp only [zD];refine xV _ rfl (appE_stab HG.out _) rfl (λ w1 hr1 hf1 => ?_) (λ v19 w19 hr19 hS19 => ?_)
          . have h7 : oneN wr.heap.size ep (.slice (some ⟨g18, 0, none⟩) 1 1) w1 := hf1 116 (.inl (by decide)) (by simp);have h8 : appS wr.heap.size k2 LL n v8 w1 := hf1 106 (.inr (by decide)) (by simp);obtain ⟨g7', e7, -, hc7'⟩ := h7;injection e7 with e7;injection e7 with e7;injection e7 with e7;subst e7;obtain ⟨v', w', r1, r2, r3, r4⟩ := app_num w1 k2.e _ _ (Hepochs.out w1 hr1) (by omega) g18 1 _ hc7' rfl 101;rw [HSt.out.2.2] at r1;refine xT (yM (.tmp 110) (.tmp 116) 101 101 rfl r1) ⟨r3.mono λ k j y h => .inr h, by rw [tD]; exact r2, λ j hj => (r4 j hj).imp id λ h => Nat.le_trans HSZ.out (Nat.le_trans hr1.size h), ?_⟩;rw [uQ (t := 106) (v := v8) ?s1 ?s2]
            case s1 => exact .inr (by decide)
            case s2 => rfl
            intro j hj hj2;have hlt8 := xD h8.1 hj;rcases r4 j hj2 with h | h
            . rcases h8.2 j hj with h9 | h9
              . exact HG.out.ne3 j h9 h
              . have := HG.out.lt j (.inr (.inr h)); omega
            . omega
          rw [uQ (t := 106) (v := v8) ?s1 ?s2] at hS19
          case s1 => exact .inr (by decide)
          case s2 => rfl
          have hrW := (vF (numS k2 LL n ep)).trans hr7 ((vF (numS k2 LL n ep)).trans hr8 ((vF (numS k2 LL n ep)).trans hr18 hr19));have hS8' := kQ HG.out v8 _ _ hS8 ((vF (numS k2 LL n ep)).trans hr18 hr19);have hc19 : w19.heap[k.l]? = some (.cells (tQ b2.d first size k2 LL) 134 (0, 0)) := by
           have := yL.heap hrW HGW.out.cells (by rw [hl2]; exact hno)
           rwa [hl2] at this
          have fr19 : ∀ j, w19.frozen? ⟨k.l, j, none⟩ = false := λ j => by simp [World.frozen?, hc19]
          have d7 := q7 w19 hrW;have d8 := yV hc19 8 _ rfl;have d9 := yV hc19 9 _ rfl;obtain ⟨a8, c8, rfl, -⟩ := zP hS8.1;obtain ⟨a19, c19, rfl, -⟩ := zP hS19.1;simp only [zD]
          repeat ((first | refine rxM ?_ | refine rxF ?_ | (refine vA (by first | exact .inl rfl | exact .inr rfl) rfl ?_)); simp only [zD])
          refine sZ (λ _ w' => w' = w19.setCell ⟨k.l, 8, none⟩ (.slice a8 (LL.starts.length + 1) c8)) _ rfl rfl ?_ ?_
          . clear hr8 hr18 hr19 hrW hS8' hS19 q4 q7 q8 q9
            (unfold yE; go_simp; simp only [zN])
          rintro v22 w22 - rfl;simp only [zD];refine oJ ?_;have hc20 := yB (j := 9) (yB (j := 8) hc19 (.slice a8 (LL.starts.length + 1) c8)) (.slice a19 (LL.epochs.length + 1) c19);have hX20 : Ext (· = k.l) w19 ((w19.setCell ⟨k.l, 8, none⟩ (.slice a8 (LL.starts.length + 1) c8)).setCell ⟨k.l, 9, none⟩ (.slice a19 (LL.epochs.length + 1) c19)) :=
           (Ext.setCell (S := (· = k.l)) (p := ⟨k.l, 8, none⟩) rfl _).trans (Ext.setCell (S := (· = k.l)) (p := ⟨k.l, 9, none⟩) rfl _) (λ _ _ h => h)
          have H20 := zB (zC hc20 (zC hX20 (zC hrW (zC hS8' hS19))));clear q4 q7 q8 q9 hc20 hX20 hrW hS8' hS19 hS8 hr7 hr8 hr18 hr19 hc7 hc18 hc19;have hRR := HRR.out;have hpair : appX x first size n ep rec i = ((appX x first size n ep rec i).1, true) := by rw [<- Hap.out]
          rw [hpair] at hRR;simp only at hRR;have HR2 := zB hRR;clear hRR hpair
          go_wp2_with fail
          go_ret2
          rw [HR2.out];refine ⟨rfl, .mono (.trans hd2 hl2 HS2.out.2.2 HS2.out.2.1 ?_) (show N + i <= N + 79 by omega)⟩;have hX7 := Ext.setCell (S := (· = k2.l)) (w := (w19.setCell ⟨k.l, 8, none⟩ (.slice a8 (LL.starts.length + 1) c8)).setCell ⟨k.l, 9, none⟩ (.slice a19 (LL.epochs.length + 1) c19)) (p := ⟨k.l, 7, none⟩) hl2.symm (.int .u64 ((n : Int) + (i : Int)));have hc7 := yB (j := 7) H20.out.1 (.int .u64 ((n : Int) + (i : Int)));have hrr : Ext k2.all wr w19 := (Ext.of_below hW).trans (yL.logExt H20.out.2.2.1) λ _ _ h => h;have hXX := (H20.out.2.1.mono (S' := (· = k2.l)) λ j _ e => e.trans hl2.symm).trans hX7 λ _ _ h => h;rw [<- hl2] at hc7;refine HS2.out.1.num hrr H20.out.2.2.2.1 H20.out.2.2.2.2 hXX ?_ (by rw [HSt.out.1.1]) (by rw [HSt.out.1.2]);rw [hl2] at hc7 ⊢;refine hc7.trans ?_;rw [<- hLL];rfl
 . have hR : yH x first size L rec = (x, L.fall x.off, 0, 5) := by unfold yH; rw [if_pos hf]
   have HRR := zB (zC hR hP1);clear hR hP1 hf
   go_wp2_with fail
   go_ret2
   rw [HRR.out.1];exact ⟨rfl, HRR.out.2.mono (by omega)⟩
def wL (x : Dsk) (L : LogS) : Dsk × LogS × Int :=
 if L.fallen || x.off then (x, L.fall x.off, 5) else (uC x, L.fall (!vC x), fallE (!vC x))
def oW (x : Dsk) (L : LogS) (N : Nat) : Nat := if L.fallen || x.off then N else mC x N
theorem goesE_ne (x : Dsk) : (uO x != 0) = !vC x := by unfold uO; cases vC x <;> rfl
theorem fall_fall {L : LogS} {o : Bool} (h : (L.fallen || o) = false) (now : Bool) : (L.fall o).fall now = L.fall now := by
 unfold LogS.fall;simp only [Bool.or_eq_false_iff] at h;simp [h.1, h.2]
theorem lflush_any (b : Bks) (x : Dsk) (N first size : Nat) (k : LBk) (L : LogS) (w : World) (h : LSys w b x N first size k L) :
 Calls Tryz.prog 48 #[.pointer (some ⟨k.l, 0, none⟩)] w λ e w' => e = .returned (.int .i64 (wL x L).2.2) /\ tU w b k (wL x L).1 (oW x L N) first size (wL x L).2.1 w' := by
 have HR := zB (jF b x N first size k L w h);clear h;go_enter Tryz.func48, Tryz.ntmps48
 go_wp2_with fail
 refine HR.out.mono ?_;rintro e w1 ⟨rfl, b1, k1, hd1, hl1, ha1, hX1, hS1⟩
 cases hf : (L.fallen || x.off)
 . have hcs := hS1.log.cs;rw [hl1, hd1] at hcs;obtain ⟨y0, -⟩ := hcs;have HF := zB (gS b1 x N w1 hS1.sys);rw [hd1] at HF;have HRR := zB (show wL x L = (uC x, L.fall (!vC x), fallE (!vC x)) /\ oW x L N = mC x N by unfold wL oW; rw [if_neg (by rw [hf]; decide), if_neg (by rw [hf]; decide)]; exact ⟨rfl, rfl⟩);have Hf := zB hf;have HS1 := zB (zC hS1 (zC ha1 hX1));clear hf hS1 ha1 hX1
   go_wp2_with fail
   refine HF.out.mono ?_;rintro e w2 ⟨rfl, hP⟩;obtain ⟨b2, k2, hd2, hl2, ha2, hX2, hS2⟩ := tU.trans hd1 hl1 HS1.out.2.1 HS1.out.2.2 (HS1.out.1.disked hP (sE x));have HFa := zB (pE b2.d first size k2 (L.fall x.off) (!vC x) w2 hS2.log);rw [hl2] at HFa;have HS2 := zB (zC hS2 (zC ha2 hX2));have hge := goesE_ne x;clear hS2 ha2 hX2 hP y0
   go_wp2_with fail
   refine HFa.out.mono ?_;rintro e w3 ⟨rfl, hL3, hX3⟩;have HL3 := zB (zC hL3 hX3);clear hL3 hX3 hge
   go_wp2_with fail
   go_ret
   rw [HRR.out.1, HRR.out.2];have hff := fall_fall Hf.out (!vC x);have h3 := HL3.out.1;rw [hff] at h3;refine ⟨?_, .trans hd2 hl2 HS2.out.2.1 HS2.out.2.2 (HS2.out.1.headed (HL3.out.2.mono λ j _ e => e.trans hl2.symm) h3)⟩;show Ending.returned (.int .i64 (fallE ((L.fallen || x.off) || !vC x))) = _
   rw [Hf.out];rfl
 . have HRR := zB (show wL x L = (x, L.fall x.off, 5) /\ oW x L N = N by unfold wL oW; rw [if_pos hf, if_pos hf]; exact ⟨rfl, rfl⟩);have HS1 := zB (zC hS1 (zC ha1 hX1));clear hf hS1 ha1 hX1
   go_wp2_with fail
   go_ret
   rw [HRR.out.1, HRR.out.2];exact ⟨rfl, b1, k1, hd1, hl1, HS1.out.2.1, HS1.out.2.2, HS1.out.1⟩
def lreadR (x : Dsk) (first size : Nat) (L : LogS) (n : Nat) : Except Int (List Int) :=
 if L.fallen || x.off then .error 5 else if n ∈ L.starts then (match xL x first size n 0 L.head.epoch with
  | .ok d => .ok d.1
  | .error c => .error c) else .error 4
def LReadPost (r : Except Int (List Int)) (B : Nat) (e : Ending) (w' : World) : Prop := match r with
 | .ok d => ∃ u, e = .returned (.tuple #[u, .int .i64 0]) /\ Win w' B u (u8s d)
 | .error k => k ≠ 0 /\ e = .returned (.tuple #[.slice none 0 0, .int .i64 k])
def kV (at' : Nat) : Value -> Value
 | .slice a n c => sliced a at' n c 1
 | v => v
theorem oP {w : World} {v : Value} {xs : List Value} (h : Src w v xs) (at' : Nat) (hat : at' <= xs.length) : Src w (kV at' v) (xs.drop at') := by
 rcases h with ⟨g, o, c, rfl, hc, hr⟩ | ⟨rfl, rfl⟩
 . unfold kV sliced;have hl : (xs.drop at').length = xs.length - at' := List.length_drop;by_cases h0 : c = at'
   . subst h0;have : xs.length = c := by omega
     left;refine ⟨g, o, 0, ?_, by rw [hl]; omega, λ j u hu => ?_⟩
     . rw [hl]; simp
     . have := (List.getElem?_eq_some_iff.1 hu).1;omega
   . left;refine ⟨g, o + at', c - at', ?_, by rw [hl]; omega, λ j u hu => ?_⟩
     . rw [hl]; simp [h0, Addr.add_lit]
     . rw [List.getElem?_drop] at hu;rw [Nat.add_assoc];exact hr _ u hu
 . right;have : at' = 0 := by simpa using hat
   subst this;exact ⟨rfl, rfl⟩
theorem lI (ts te : TypeId) (ht : Tryz.prog.underlying ts = some (.slice (Tryz.prog.elem ts))) (hs : ∀ w, (sizeOf (Tryz.prog.elem ts)).run Tryz.prog w = .ok 1 w) {a : Option Addr} {n c : Nat} (at' : Nat) (hat : at' <= n) (w : World) :
 (Instr.sliceAt ts (.slice a n c) (some (.int .i64 at')) none none).run Tryz.prog w = .ok (kV at' (.slice a n c)) w := by
 rw [run_sliceAt_slice _ _ _ _ _ _ ht, run_slice_l _ _ _ _ _ ht _ _ (by omega) (by omega), hs];rfl
theorem lG : Tryz.prog.underlying 101 = some (.slice (Tryz.prog.elem 101)) := by kernel_rfl
theorem lM (w : World) : (sizeOf (Tryz.prog.elem 101)).run Tryz.prog w = .ok 1 w := by kernel_rfl
theorem gM {w : World} {ops : Array Oper} {rest : List Oper} {o : Oper} {a : Act} {Q : Exit -> Act -> World -> Prop} (hgd : o.guard = none) (s x : Operand)
 (ho : o.op = .call { callee := .builtin .append, args := #[s, x], argTypes := #[101, 101] })
 (base n : Nat) (v u : Value) (xs ys : List Value) (hs : a.eval s = v) (hown : w.ownsRow base 28 1 v n xs) (hx : a.eval x = u) (hy : Src w u ys) (h1 : ∀ u ∈ ys, u.oneCell' = true)
 (hb : n + ys.length <= 1073741824) (hbase : base <= w.heap.size)
 (h : ∀ v' w', w'.ownsRow base 28 1 v' (n + ys.length) (xs ++ ys) -> Below base w w' -> wpList Tryz.prog ops Q rest (a.put o.dst v') w') : wpList Tryz.prog ops Q (o :: rest) a w := by
 obtain ⟨i0, hi, hz0, hz1, hz2⟩ := info_parts info_u64;have c1 : n + ys.length <= maxLen := by unfold maxLen; omega
 have c2 : (n + ys.length) * 8 <= 140737488355328 := by omega
 rcases hy with ⟨g, o, c, rfl, -, hy⟩ | ⟨rfl, rfl⟩
 . exact wpList_append_own w hgd s x 101 ho base 28 i0 (.int .u64 0) 1 8 nK hi hz0 hz1 hz2 rfl (by decide) v n xs hs hown ⟨g, o, none⟩ ys.length c ys hx (by simp) (λ j u hu => by rw [Addr.add_lit]; exact hy j u hu) h1 c1 c2 hbase λ v' w' h2 h3 _ =>
    h v' w' h2 ((Below.refl _ w).mono hbase |>.grown h3 hbase (λ k hk => (hown.lt k hk).1))
 . exact wpList_append_own_none hgd s x 101 ho base 28 i0 1 nK hi v n xs hs hown hx (h v w (by simpa using hown) ((Below.refl _ w).mono hbase))
theorem nT (v : Value) (xs : List Value) (w : World) (hx : Src w v xs) (h1 : ∀ u ∈ xs, u.oneCell' = true) (hn : xs.length <= 1073741824) :
 Calls Tryz.prog 128 #[v] w λ e w' => ∃ u, e = .returned u /\ w'.ownsRow w.heap.size 28 1 u xs.length xs /\ Below w.heap.size w w' := by
 rcases hx with ⟨g, o, c, rfl, hc, hr⟩ | ⟨rfl, rfl⟩
 . have he := λ w => Lib.run_eql_slice_nil (P := Tryz.prog) w 101 28 (some ⟨g, o, none⟩) xs.length c 0 0 nK;have hB0 := zQ w (.cells #[] 28);have Hx := zB (show Src w (.slice (some ⟨g, o, none⟩) xs.length c) xs from .inl ⟨g, o, c, rfl, hc, hr⟩);have H1 := zB h1;have hs : w.heap.size <= (w.alloc (.cells #[] 28)).heap.size := by simp
   clear hr h1;go_enter Tryz.func128, Tryz.ntmps128
   go_wp2_with (at_builtin; go_loud (refine gM rfl _ _ rfl w.heap.size 0 _ _ [] xs rfl (World.ownsRow_made w #[] 0 (Nat.le_refl _) (Nat.zero_le _) rfl) rfl (Hx.out.below hB0) H1.out (by omega) hs ?_; intro v2 w2 hown2 hg2; have Hg2 := zB hg2; have Hown2 := zB hown2; clear hown2 hg2))
   go_ret
   exact ⟨_, rfl, by simpa using Hown2.out, hB0.trans Hg2.out⟩
 . have he := λ w => Lib.run_eql_slice_nil (P := Tryz.prog) w 101 28 none 0 0 0 0 nK;go_enter Tryz.func128, Tryz.ntmps128
   go_wp2_with fail
   go_ret
   exact ⟨_, rfl, World.ownsRow_nil _ _ _ _, Below.refl _ _⟩
def pQ (L : LogS) (n : Nat) : Head := ⟨L.head.gen + 1, L.head.epoch, n, 0⟩
def oK (x : Dsk) (first size : Nat) (L : LogS) (n : Nat) : Dsk × LogS × Int :=
 if L.fallen || x.off then (x, L.fall x.off, 5) else
 if n <= L.head.first then (x, L.fall x.off, 0) else
 if n ∉ L.starts /\ n ≠ L.next then (x, L.fall x.off, 4) else
 if L.head.gen = 281474976710655 \/ 281474976710655 < n then (x, L.fall x.off, 6) else
 if tC x first size (L.fall x.off) (pQ L n) = 0 then
  (qU x first size (L.fall x.off) (pQ L n), ⟨sX (L.fall x.off) (pQ L n), L.next, L.starts.drop (posU L.starts n), L.epochs.drop (posU L.starts n), L.fallen || x.off⟩, 0)
 else (qU x first size (L.fall x.off) (pQ L n), (L.fall x.off).fall true, 5)
theorem qX (x : Dsk) (first size : Nat) (L : LogS) (h : Head) : tC x first size L h = 0 \/ tC x first size L h = 5 := nQ _ _ _
theorem qG (x : Dsk) (first size : Nat) (L : LogS) (h : Head) (N : Nat) : turnN x first size L h N <= N + 1 := by
 unfold turnN layN; split <;> omega
theorem posU_le (l : List Nat) (x : Nat) : posU l x <= l.length := List.countP_le_length
theorem rX {o : Oper} {a : Act} {w w' : World} (x l : Operand) (t : TypeId) (ho : o.op = .slice t x (some l) none none) {v : Value} (hr : (Instr.sliceAt t (a.eval x) (some (a.eval l)) none none).run Tryz.prog w = .ok v w') : (execOp a.eval o).run Tryz.prog w = .ok (.value v) w' := by
 simp only [execOp, ho, Option.map_some, Option.map_none, Sem.run_bind, hr, Result.andThen_ok, Sem.run_pure]
theorem yL.toBelow {w w' : World} (h : yL (λ _ _ _ => False) w w') : Below w.heap.size w w' := ⟨h.os, h.tape, h.output, h.size, λ k hk => (h.block k hk).elim id λ h => h.1.elim λ _ h => h.elim λ _ h => h.elim⟩
theorem LSys.rows {wr w19 w20 : World} {b : Bks} {x : Dsk} {N first size : Nat} {k : LBk} {LL L' : LogS} {v8 v19 : Value} {m1 m2 : Nat} {l1 l2 : List Value} (h : LSys wr b x N first size k LL) (hr : Below wr.heap.size wr w19) (hX : Ext (· = k.l) w19 w20)
 (hS : w19.ownsRow wr.heap.size 28 1 v8 m1 l1) (hE : w19.ownsRow wr.heap.size 28 1 v19 m2 l2) (hne : ∀ j, v8.ownBlock = some j -> v19.ownBlock ≠ some j)
 (hc : w20.heap[k.l]? = some (.cells (tQ b.d first size ⟨k.l, v8, v19⟩ L') 134 (0, 0))) (hs1 : L'.starts.length = m1) (he1 : L'.epochs.length = m2) (hs : nums L'.starts = l1) (he : nums L'.epochs = l2) : tU wr b k x N first size L' w20 := by
 have hlt := h.log.lt;have hbl := h.sys.dsk.lt;have hkl := hlt k.l (.inl rfl);subst hs he hs1 he1;have hXa : Ext k.all wr w20 := (Ext.of_below hr).trans hX λ j _ e => by subst e; exact .inl rfl
 have h8 : ∀ j, v8.ownBlock = some j -> wr.heap.size <= j := λ j e => (hS.lt j e).1;have h19 : ∀ j, v19.ownBlock = some j -> wr.heap.size <= j := λ j e => (hE.lt j e).1;have h8l : v8.ownBlock ≠ some k.l := λ e => by have := h8 _ e; omega
 have h19l : v19.ownBlock ≠ some k.l := λ e => by have := h19 _ e; omega
 have hall : ∀ j, (⟨k.l, v8, v19⟩ : LBk).all j -> k.all j \/ wr.heap.size <= j := by
  rintro j (rfl | e | e)
  . exact .inl (.inl rfl)
  . exact .inr (h8 j e)
  . exact .inr (h19 j e)
 refine ⟨b, ⟨k.l, v8, v19⟩, rfl, rfl, λ j hj => ?_, hXa.mono λ j _ e => .inr e, ?_, ?_, λ j hj hb => ?_, h.big, h.fit⟩
 . rcases hj with hj | hj
   . exact .inl (.inl hj)
   . exact (hall j hj).imp .inr id
 . exact h.sys.ext hXa λ j hj => ⟨h.log.far j hj, h.apart j hj⟩
 . refine ⟨hc, ?_, ?_, h8l, h19l, hne, λ j hj => ?_⟩
   . exact yC (xQ hS hX λ j e e2 => h8l (by rw [<- e2]; exact e)) λ _ _ => Nat.zero_le _
   . exact yC (xQ hE hX λ j e e2 => h19l (by rw [<- e2]; exact e)) λ _ _ => Nat.zero_le _
   . rcases hall j hj with h1 | h1
     . exact h.log.far j h1
     . exact Nat.le_trans h.sys.pkg.lt h1
 . rcases hall j hj with h1 | h1
   . exact h.apart j h1 hb
   . have := hbl j hb; omega
theorem trim_any (b : Bks) (x : Dsk) (N first size : Nat) (k : LBk) (L : LogS) (n : Nat) (hn : n <= 9223372036854775807) (w : World) (h : LSys w b x N first size k L) (hN : N <= 1099511627775) (ho : L.ok size) :
 Calls Tryz.prog 101 #[.pointer (some ⟨k.l, 0, none⟩), .int .u64 n] w λ e w' => e = .returned (.int .i64 (oK x first size L n).2.2) /\ tU w b k (oK x first size L n).1 (N + 1) first size (oK x first size L n).2.1 w' := by
 have HR := zB (jF b x N first size k L w h);clear h;go_enter Tryz.func101, Tryz.ntmps101
 go_wp2_with fail
 refine HR.out.mono ?_;rintro e w1 ⟨rfl, b1, k1, hd1, hl1, ha1, hX1, hS1⟩
 cases hf : (L.fallen || x.off)
 . have hcs := hS1.log.cs;rw [hl1, hd1] at hcs;obtain ⟨y0, y1, y2, y3, y4, y5, y6, y7, y8, y9, -, -⟩ := hcs;obtain ⟨LL, hLL⟩ : ∃ LL, L.fall x.off = LL := ⟨_, rfl⟩;have hLp : LL.head = L.head /\ LL.next = L.next /\ LL.starts = L.starts /\ LL.epochs = L.epochs := by rw [<- hLL]; exact ⟨rfl, rfl, rfl, rfl⟩
   have hrr : oK x first size L n = if n <= L.head.first then (x, LL, 0) else
    if n ∉ L.starts /\ n ≠ L.next then (x, LL, 4) else
    if L.head.gen = 281474976710655 \/ 281474976710655 < n then (x, LL, 6) else
    if tC x first size LL (pQ L n) = 0 then
     (qU x first size LL (pQ L n), ⟨sX LL (pQ L n), L.next, L.starts.drop (posU L.starts n), L.epochs.drop (posU L.starts n), L.fallen || x.off⟩, 0)
    else (qU x first size LL (pQ L n), LL.fall true, 5) := by unfold oK; rw [if_neg (by rw [hf]; decide), hLL]
   rw [hLL] at hS1 y3 y4 y5 y6 y7;rw [hLp.1] at y3 y4 y5 y6;rw [hLp.2.1] at y7;have HL := zB hLp;have Hrr := zB hrr;have HS1 := zB (zC hS1 (zC ha1 hX1));have HLL := zB hLL;have Hf := zB hf;clear hf hS1 ha1 hX1 hrr hLp hLL HR;by_cases c1 : n <= L.head.first
   . have Hr2 := zB (Hrr.out.trans (if_pos c1));have c1' : (n : Int) <= (L.head.first : Int) := by omega
     clear c1 y0 y1 y2 y3 y4 y6 y7 y8 y9
     go_wp2_with fail
     go_ret
     rw [Hr2.out];exact ⟨rfl, b1, k1, hd1, hl1, HS1.out.2.1, HS1.out.2.2, HS1.out.1.mono (by omega)⟩
   . have Hr2 := zB (Hrr.out.trans (if_neg c1));have c1' : ¬ (n : Int) <= (L.head.first : Int) := by omega
     obtain ⟨sa, sc, hks, -⟩ := zP HS1.out.1.log.starts;obtain ⟨ea, ec, hke, -⟩ := zP HS1.out.1.log.epochs;rw [hks] at y8;rw [hke] at y9;have HBS := zB (nN k1.s LL.starts (by rw [HL.out.2.2.1]; exact ho.rise) n w1 (Src.of_owns HS1.out.1.log.starts) (by rw [HL.out.2.2.1]; have := ho.short; omega));rw [hks] at HBS;have Hks := zB (zC hks hke);clear c1 hks hke Hrr
     go_wp2_with fail
     refine HBS.out.mono ?_;rintro e w2 ⟨rfl, hB2⟩;have HS2 := zB (HS1.out.1.below hB2);have HB2 := zB hB2
     replace y0 := zG hB2 y0
     replace y1 := zG hB2 y1
     replace y2 := zG hB2 y2
     replace y3 := zG hB2 y3
     replace y4 := zG hB2 y4
     replace y5 := zG hB2 y5
     replace y7 := zG hB2 y7
     replace y8 := zG hB2 y8
     replace y9 := zG hB2 y9
     clear hB2 HBS;rw [HL.out.2.2.1];by_cases hin : n ∈ L.starts
     . have Hr3 := zB (Hr2.out.trans (if_neg λ h => h.1 hin));rw [decide_eq_true hin];clear hin Hr2;by_cases c3 : L.head.gen = 281474976710655
       . have Hr4 := zB (Hr3.out.trans (if_pos (.inl c3)));have c3' : ((L.head.gen : Int) == 281474976710655) = true := by rw [c3]; rfl
         clear c3 y0 y1 y2 y4 y5 y8 y9
         go_wp2_with fail
         go_ret
         rw [Hr4.out];exact ⟨rfl, .mono (.trans hd1 hl1 HS1.out.2.1 HS1.out.2.2 (.same HS1.out.1 HB2.out)) (by omega)⟩
       . have c3' : ((L.head.gen : Int) == 281474976710655) = false := by rw [beq_eq_false_iff_ne]; omega
         by_cases c4 : 281474976710655 < n
         . have Hr4 := zB (Hr3.out.trans (if_pos (.inr c4)));have c4' : (281474976710655 : Int) < (n : Int) := by omega
           clear c3 c4 y0 y1 y2 y4 y5 y8 y9
           go_wp2_with fail
           go_ret
           rw [Hr4.out];exact ⟨rfl, .mono (.trans hd1 hl1 HS1.out.2.1 HS1.out.2.2 (.same HS1.out.1 HB2.out)) (by omega)⟩
         . have Hr4 := zB (Hr3.out.trans (if_neg λ h => h.elim c3 c4));have c4' : ¬ (281474976710655 : Int) < (n : Int) := by omega
           have hgl := ho.gen;have hel := ho.epoch;have eg := IntWalk.u64_in ((L.head.gen : Int) + 1) (by omega)
           go_wp2_with fail
           refine zR 14 (λ _ => none) fol (by kernel_rfl) (λ W hW hh => ?_);clear hh;have q3 := zV hW y3;have q4 := zV hW y4;simp only [fT]
           repeat ((first | refine lxM ?_ | refine lxF ?_ | refine zM rfl ?_); simp only [zD])
           refine zZ ?_;clear q3 q4 y0 y1 y2 y3 y4 y5 y7 y8 y9;have HT := zB (lH b1 x N first size k1 LL (pQ L n) W (HS2.out.below hW) hN (by show L.head.gen + 1 < _; omega) hel (by show n <= _; omega) (by rw [HL.out.2.2.1]; exact ho.rise) (by rw [HL.out.2.2.1, HL.out.2.2.2]; exact ho.len) (by rw [HL.out.2.2.1]; exact ho.short) (by rw [HL.out.2.2.2]; exact λ m hm => Nat.lt_of_le_of_lt (ho.ep m hm) hel));unfold uU at HT;simp only [pQ] at HT;rw [hl1, show ((L.head.gen + 1 : Nat) : Int) = (L.head.gen : Int) + 1 by omega] at HT;have HBW := zB (zF HB2.out hW)
           go_wp2_with fail
           refine HT.out.mono ?_;rintro e w3 ⟨rfl, hP⟩;obtain ⟨b3, k3, hd3, hl3, ha3, hX3, hS3⟩ := tU.trans hd1 hl1 HS1.out.2.1 HS1.out.2.2 (.of_below HBW.out (hP.mono (qG _ _ _ _ _ _)));have HS3 := zB (zC hS3 (zC ha3 hX3));rcases qX x first size LL ⟨L.head.gen + 1, L.head.epoch, n, 0⟩ with hE | hE
           . rw [hE];have hr5 := Hr4.out.trans (if_pos (show tC x first size LL (pQ L n) = 0 from hE));have htl : tZ x first size LL ⟨L.head.gen + 1, L.head.epoch, n, 0⟩ = { LL with head := sX LL ⟨L.head.gen + 1, L.head.epoch, n, 0⟩ } := by unfold tZ; rw [if_pos hE]
             have Hr5 := zB hr5;rw [htl] at hS3 HS3;have hcs := hS3.log.cs;rw [hl3] at hcs;obtain ⟨y0, -, -, -, -, -, -, -, y8, y9, -, -⟩ := hcs;obtain ⟨za, zc, hzs, -⟩ := zP hS3.log.starts;obtain ⟨ya, yc, hze, -⟩ := zP hS3.log.epochs;have hls : ({ LL with head := sX LL ⟨L.head.gen + 1, L.head.epoch, n, 0⟩ } : LogS).starts = L.starts := HL.out.2.2.1;have hle : ({ LL with head := sX LL ⟨L.head.gen + 1, L.head.epoch, n, 0⟩ } : LogS).epochs = L.epochs := HL.out.2.2.2;rw [hls] at hzs;rw [hle] at hze;rw [hzs] at y8;rw [hze] at y9;have hpl := posU_le L.starts n;have hpe : posU L.starts n <= L.epochs.length := by rw [ho.len]; exact hpl
             have hshort := ho.short;have hlen : L.epochs.length <= 65536 := by rw [ho.len]; exact hshort
             have Hz := zB (zC hzs hze);obtain ⟨p, hp⟩ : ∃ p, posU L.starts n = p := ⟨_, rfl⟩;have hsS := Src.of_owns hS3.log.starts;have hsE := Src.of_owns hS3.log.epochs;rw [hls, hzs] at hsS;rw [hle, hze] at hsE;rw [hp] at hpl hpe Hr5 ⊢;have HCS := zB λ w' (hw : Below w3.heap.size w3 w') => nT (kV p (.slice za L.starts.length zc)) ((nums L.starts).drop p) w' (oP (hsS.below hw) p (by rw [xE]; exact hpl)) (λ u hu => iP _ u (List.mem_of_mem_drop hu)) (by rw [List.length_drop, xE]; omega);have HCE := zB λ w' (hw : Below w3.heap.size w3 w') => nT (kV p (.slice ya L.epochs.length yc)) ((nums L.epochs).drop p) w' (oP (hsE.below hw) p (by rw [xE]; exact hpe)) (λ u hu => iP _ u (List.mem_of_mem_drop hu)) (by rw [List.length_drop, xE]; omega);have Hp := zB (zC hp (zC hls hle));clear hS3 ha3 hX3 hP hr5 hE htl hzs hze hls hle hsS hsE hp
             go_wp2_with fail
             refine xJ (vF λ _ _ _ => False) 19 [1] (λ i => if i = 8 then some (λ _ v w' => w'.ownsRow w3.heap.size 28 1 v (L.starts.length - p) ((nums L.starts).drop p)) else if i = 15 then some (λ sn v w' => w'.ownsRow w3.heap.size 28 1 v (L.epochs.length - p) ((nums L.epochs).drop p) /\ ∀ j, (sn 78).ownBlock = some j -> v.ownBlock ≠ some j) else none) (λ _ => True) (λ _ _ => True) fol (by kernel_rfl) (λ _ _ _ _ _ => trivial) (λ W hW hh => ?_);clear hh;have q8 := uJ (S := λ _ _ _ => False) (zG hW y8) (λ _ _ h => h);have q9 := uJ (S := λ _ _ _ => False) (zG hW y9) (λ _ _ h => h);have hsz3 := hW.size;simp only [fT]
             iterate 7 ((first | refine rxM ?_ | (refine yZ ?_ rfl rfl (λ w1 hb1 hf1 => ?_) ?_; rotate_left; (go_simp; rfl))); simp only [zD])
             refine yZ (kV p (.slice za L.starts.length zc)) rfl rfl (λ w1 hb1 hf1 => rX (.tmp 75) (.tmp 76) 101 rfl (lI 101 28 lG lM p hpl w1)) ?_;simp only [zD];refine xV _ rfl (λ v w1 w2 h hr => yA h (yL.toBelow hr)) rfl (λ w1 hr1 hf1 => ?_) (λ v8 w8 hr8 hS8 => ?_)
             . have hB1 := yL.toBelow hr1;clear q8 q9
               (unfold yE; go_simp; simp only [zN])
               have hsz1 := Nat.le_trans hsz3 hB1.size;refine (HCS.out w1 (zF hW hB1)).mono ?_;rintro e w' ⟨u, rfl, hown, hbb⟩;rw [List.length_drop, xE] at hown;exact ⟨u, rfl, yL.of_below hbb, yC hown λ j hj => Nat.le_trans hsz1 (hown.lt j hj).1⟩
             simp only [zD]
             iterate 5 ((first | refine rxM ?_ | (refine yZ ?_ rfl rfl (λ w1 hb1 hf1 => ?_) ?_; rotate_left; (go_simp; rfl))); simp only [zD])
             refine yZ (kV p (.slice ya L.epochs.length yc)) rfl rfl (λ w1 hb1 hf1 => rX (.tmp 82) (.tmp 83) 101 rfl (lI 101 28 lG lM p hpe w1)) ?_;simp only [zD];refine xV _ rfl (λ v w1 w2 h hr => ⟨yA h.1 (yL.toBelow hr), h.2⟩) rfl (λ w1 hr1 hf1 => ?_) (λ v15 w15 hr15 hS15 => ?_)
             . have hB1 := yL.toBelow hr1;have h8 : w1.ownsRow w3.heap.size 28 1 v8 (L.starts.length - p) ((nums L.starts).drop p) := hf1 78 (.inr (by decide)) (by simp);rw [uQ (t := 78) (v := v8) ?s1 ?s2]
               case s1 => exact .inr (by decide)
               case s2 => rfl
               clear q8 q9
               (unfold yE; go_simp; simp only [zN])
               have hsz1 := Nat.le_trans hsz3 hB1.size;refine (HCE.out w1 (zF hW hB1)).mono ?_;rintro e w' ⟨u, rfl, hown, hbb⟩;rw [List.length_drop, xE] at hown;exact ⟨u, rfl, yL.of_below hbb, yC hown λ j hj => Nat.le_trans hsz1 (hown.lt j hj).1, λ j hj hj2 => by have h1 := xD h8 hj; have h2 := (hown.lt j hj2).1; omega⟩
             rw [uQ (t := 78) (v := v8) ?s1 ?s2] at hS15
             case s1 => exact .inr (by decide)
             case s2 => rfl
             have hB8 := yL.toBelow hr8;have hB15 := yL.toBelow hr15;have hB0 : Below w3.heap.size w3 w15 := zF hW (zF hB8 hB15);have HS8 := zB (yA hS8 hB15);have HS15 := zB hS15;have hc15 : w15.heap[k.l]? = some (.cells (tQ b3.d first size k3 { LL with head := sX LL ⟨L.head.gen + 1, L.head.epoch, n, 0⟩ }) 134 (0, 0)) := by
              have := zK hB0 HS3.out.1.log.cells
              rwa [hl3] at this
             have fr15 : ∀ j, w15.frozen? ⟨k.l, j, none⟩ = false := λ j => by simp [World.frozen?, hc15]
             have d8 := yV hc15 8 _ rfl;have d9 := yV hc15 9 _ rfl;obtain ⟨a8, c8, rfl, -⟩ := zP hS8;obtain ⟨a15, c15, rfl, -⟩ := zP hS15.1;simp only [zD]
             iterate 2 ((first | (refine yZ ?_ rfl rfl (λ w1 hb1 hf1 => ?_) ?_; rotate_left; (go_simp; rfl))); simp only [zD])
             refine sZ (λ _ w' => w' = w15.setCell ⟨k.l, 8, none⟩ (.slice a8 (L.starts.length - p) c8)) _ rfl rfl ?_ ?_
             . clear hr8 hr15 hS8 hS15 q8 q9
               (unfold yE; go_simp; simp only [zN])
             rintro v22 w22 - rfl;simp only [zD];refine oJ ?_;have hc20 := yB (j := 9) (yB (j := 8) hc15 (.slice a8 (L.starts.length - p) c8)) (.slice a15 (L.epochs.length - p) c15);have hX20 : Ext (· = k.l) w15 ((w15.setCell ⟨k.l, 8, none⟩ (.slice a8 (L.starts.length - p) c8)).setCell ⟨k.l, 9, none⟩ (.slice a15 (L.epochs.length - p) c15)) :=
              (Ext.setCell (S := (· = k.l)) (p := ⟨k.l, 8, none⟩) rfl _).trans (Ext.setCell (S := (· = k.l)) (p := ⟨k.l, 9, none⟩) rfl _) (λ _ _ h => h)
             have H20 := zB (zC hc20 (zC hX20 hB0));clear q8 q9 hc20 hX20 hB0 hB8 hB15 hS8 hS15 hr8 hr15 hc15
             go_wp2_with fail
             go_ret
             rw [Hr5.out];refine ⟨rfl, .trans hd3 hl3 HS3.out.2.1 HS3.out.2.2 ?_⟩;refine HS3.out.1.rows H20.out.2.2 (H20.out.2.1.mono λ j _ e => e.trans hl3.symm) HS8.out HS15.out.1 HS15.out.2 ?_ (by show (L.starts.drop p).length = _; rw [List.length_drop]) (by show (L.epochs.drop p).length = _; rw [List.length_drop]) (by simp [nums, List.map_drop]) (by simp [nums, List.map_drop]);rw [hl3];refine H20.out.1.trans ?_;unfold tQ;simp only [Hf.out, HL.out.2.1, <- HLL.out, LogS.fall];rfl
           . rw [hE];have hr5 := Hr4.out.trans (if_neg (show ¬ tC x first size LL (pQ L n) = 0 by show ¬ tC x first size LL ⟨L.head.gen + 1, L.head.epoch, n, 0⟩ = 0; rw [hE]; decide));have htl : tZ x first size LL ⟨L.head.gen + 1, L.head.epoch, n, 0⟩ = LL.fall true := by unfold tZ; rw [if_neg (by rw [hE]; decide)]
             have Hr5 := zB hr5;have Htl := zB htl;clear hS3 ha3 hX3 hP hr5 hE htl
             go_wp2_with fail
             go_ret
             rw [Hr5.out];have h3 := HS3.out.1;rw [Htl.out] at h3;exact ⟨rfl, b3, k3, hd3, hl3, HS3.out.2.1, HS3.out.2.2, h3⟩
     . rw [decide_eq_false hin];by_cases hnx : n = L.next
       . have Hr3 := zB (Hr2.out.trans (if_neg λ h => h.2 hnx));have hnx' : ((n : Int) != (L.next : Int)) = false := by rw [hnx]; simp
         clear hin hnx Hr2;by_cases c3 : L.head.gen = 281474976710655
         . have Hr4 := zB (Hr3.out.trans (if_pos (.inl c3)));have c3' : ((L.head.gen : Int) == 281474976710655) = true := by rw [c3]; rfl
           clear c3 y0 y1 y2 y4 y5 y8 y9
           go_wp2_with fail
           go_ret
           rw [Hr4.out];exact ⟨rfl, .mono (.trans hd1 hl1 HS1.out.2.1 HS1.out.2.2 (.same HS1.out.1 HB2.out)) (by omega)⟩
         . have c3' : ((L.head.gen : Int) == 281474976710655) = false := by rw [beq_eq_false_iff_ne]; omega
           by_cases c4 : 281474976710655 < n
           . have Hr4 := zB (Hr3.out.trans (if_pos (.inr c4)));have c4' : (281474976710655 : Int) < (n : Int) := by omega
             clear c3 c4 y0 y1 y2 y4 y5 y8 y9
             go_wp2_with fail
             go_ret
             rw [Hr4.out];exact ⟨rfl, .mono (.trans hd1 hl1 HS1.out.2.1 HS1.out.2.2 (.same HS1.out.1 HB2.out)) (by omega)⟩
           . have Hr4 := zB (Hr3.out.trans (if_neg λ h => h.elim c3 c4));have c4' : ¬ (281474976710655 : Int) < (n : Int) := by omega
             have hgl := ho.gen;have hel := ho.epoch;have eg := IntWalk.u64_in ((L.head.gen : Int) + 1) (by omega)
             go_wp2_with fail
             refine zR 14 (λ _ => none) fol (by kernel_rfl) (λ W hW hh => ?_);clear hh;have q3 := zV hW y3;have q4 := zV hW y4;simp only [fT]
             repeat ((first | refine lxM ?_ | refine lxF ?_ | refine zM rfl ?_); simp only [zD])
             refine zZ ?_;clear q3 q4 y0 y1 y2 y3 y4 y5 y7 y8 y9;have HT := zB (lH b1 x N first size k1 LL (pQ L n) W (HS2.out.below hW) hN (by show L.head.gen + 1 < _; omega) hel (by show n <= _; omega) (by rw [HL.out.2.2.1]; exact ho.rise) (by rw [HL.out.2.2.1, HL.out.2.2.2]; exact ho.len) (by rw [HL.out.2.2.1]; exact ho.short) (by rw [HL.out.2.2.2]; exact λ m hm => Nat.lt_of_le_of_lt (ho.ep m hm) hel));unfold uU at HT;simp only [pQ] at HT;rw [hl1, show ((L.head.gen + 1 : Nat) : Int) = (L.head.gen : Int) + 1 by omega] at HT;have HBW := zB (zF HB2.out hW)
             go_wp2_with fail
             refine HT.out.mono ?_;rintro e w3 ⟨rfl, hP⟩;obtain ⟨b3, k3, hd3, hl3, ha3, hX3, hS3⟩ := tU.trans hd1 hl1 HS1.out.2.1 HS1.out.2.2 (.of_below HBW.out (hP.mono (qG _ _ _ _ _ _)));have HS3 := zB (zC hS3 (zC ha3 hX3));rcases qX x first size LL ⟨L.head.gen + 1, L.head.epoch, n, 0⟩ with hE | hE
             . rw [hE];have hr5 := Hr4.out.trans (if_pos (show tC x first size LL (pQ L n) = 0 from hE));have htl : tZ x first size LL ⟨L.head.gen + 1, L.head.epoch, n, 0⟩ = { LL with head := sX LL ⟨L.head.gen + 1, L.head.epoch, n, 0⟩ } := by unfold tZ; rw [if_pos hE]
               have Hr5 := zB hr5;rw [htl] at hS3 HS3;have hcs := hS3.log.cs;rw [hl3] at hcs;obtain ⟨y0, -, -, -, -, -, -, -, y8, y9, -, -⟩ := hcs;obtain ⟨za, zc, hzs, -⟩ := zP hS3.log.starts;obtain ⟨ya, yc, hze, -⟩ := zP hS3.log.epochs;have hls : ({ LL with head := sX LL ⟨L.head.gen + 1, L.head.epoch, n, 0⟩ } : LogS).starts = L.starts := HL.out.2.2.1;have hle : ({ LL with head := sX LL ⟨L.head.gen + 1, L.head.epoch, n, 0⟩ } : LogS).epochs = L.epochs := HL.out.2.2.2;rw [hls] at hzs;rw [hle] at hze;rw [hzs] at y8;rw [hze] at y9;have hpl := posU_le L.starts n;have hpe : posU L.starts n <= L.epochs.length := by rw [ho.len]; exact hpl
               have hshort := ho.short;have hlen : L.epochs.length <= 65536 := by rw [ho.len]; exact hshort
               have Hz := zB (zC hzs hze);obtain ⟨p, hp⟩ : ∃ p, posU L.starts n = p := ⟨_, rfl⟩;have hsS := Src.of_owns hS3.log.starts;have hsE := Src.of_owns hS3.log.epochs;rw [hls, hzs] at hsS;rw [hle, hze] at hsE;rw [hp] at hpl hpe Hr5 ⊢;have HCS := zB λ w' (hw : Below w3.heap.size w3 w') => nT (kV p (.slice za L.starts.length zc)) ((nums L.starts).drop p) w' (oP (hsS.below hw) p (by rw [xE]; exact hpl)) (λ u hu => iP _ u (List.mem_of_mem_drop hu)) (by rw [List.length_drop, xE]; omega);have HCE := zB λ w' (hw : Below w3.heap.size w3 w') => nT (kV p (.slice ya L.epochs.length yc)) ((nums L.epochs).drop p) w' (oP (hsE.below hw) p (by rw [xE]; exact hpe)) (λ u hu => iP _ u (List.mem_of_mem_drop hu)) (by rw [List.length_drop, xE]; omega);have Hp := zB (zC hp (zC hls hle));clear hS3 ha3 hX3 hP hr5 hE htl hzs hze hls hle hsS hsE hp
               go_wp2_with fail
               refine xJ (vF λ _ _ _ => False) 19 [1] (λ i => if i = 8 then some (λ _ v w' => w'.ownsRow w3.heap.size 28 1 v (L.starts.length - p) ((nums L.starts).drop p)) else if i = 15 then some (λ sn v w' => w'.ownsRow w3.heap.size 28 1 v (L.epochs.length - p) ((nums L.epochs).drop p) /\ ∀ j, (sn 78).ownBlock = some j -> v.ownBlock ≠ some j) else none) (λ _ => True) (λ _ _ => True) fol (by kernel_rfl) (λ _ _ _ _ _ => trivial) (λ W hW hh => ?_);clear hh;have q8 := uJ (S := λ _ _ _ => False) (zG hW y8) (λ _ _ h => h);have q9 := uJ (S := λ _ _ _ => False) (zG hW y9) (λ _ _ h => h);have hsz3 := hW.size;simp only [fT]
               iterate 7 ((first | refine rxM ?_ | (refine yZ ?_ rfl rfl (λ w1 hb1 hf1 => ?_) ?_; rotate_left; (go_simp; rfl))); simp only [zD])
               refine yZ (kV p (.slice za L.starts.length zc)) rfl rfl (λ w1 hb1 hf1 => rX (.tmp 75) (.tmp 76) 101 rfl (lI 101 28 lG lM p hpl w1)) ?_;simp only [zD];refine xV _ rfl (λ v w1 w2 h hr => yA h (yL.toBelow hr)) rfl (λ w1 hr1 hf1 => ?_) (λ v8 w8 hr8 hS8 => ?_)
               . have hB1 := yL.toBelow hr1;clear q8 q9
                 (unfold yE; go_simp; simp only [zN])
                 have hsz1 := Nat.le_trans hsz3 hB1.size;refine (HCS.out w1 (zF hW hB1)).mono ?_;rintro e w' ⟨u, rfl, hown, hbb⟩;rw [List.length_drop, xE] at hown;exact ⟨u, rfl, yL.of_below hbb, yC hown λ j hj => Nat.le_trans hsz1 (hown.lt j hj).1⟩
               simp only [zD]
               iterate 5 ((first | refine rxM ?_ | (refine yZ ?_ rfl rfl (λ w1 hb1 hf1 => ?_) ?_; rotate_left; (go_simp; rfl))); simp only [zD])
               refine yZ (kV p (.slice ya L.epochs.length yc)) rfl rfl (λ w1 hb1 hf1 => rX (.tmp 82) (.tmp 83) 101 rfl (lI 101 28 lG lM p hpe w1)) ?_;simp only [zD];refine xV _ rfl (λ v w1 w2 h hr => ⟨yA h.1 (yL.toBelow hr), h.2⟩) rfl (λ w1 hr1 hf1 => ?_) (λ v15 w15 hr15 hS15 => ?_)
               . have hB1 := yL.toBelow hr1;have h8 : w1.ownsRow w3.heap.size 28 1 v8 (L.starts.length - p) ((nums L.starts).drop p) := hf1 78 (.inr (by decide)) (by simp);rw [uQ (t := 78) (v := v8) ?s1 ?s2]
                 case s1 => exact .inr (by decide)
                 case s2 => rfl
                 clear q8 q9
                 (unfold yE; go_simp; simp only [zN])
                 have hsz1 := Nat.le_trans hsz3 hB1.size;refine (HCE.out w1 (zF hW hB1)).mono ?_;rintro e w' ⟨u, rfl, hown, hbb⟩;rw [List.length_drop, xE] at hown;exact ⟨u, rfl, yL.of_below hbb, yC hown λ j hj => Nat.le_trans hsz1 (hown.lt j hj).1, λ j hj hj2 => by have h1 := xD h8 hj; have h2 := (hown.lt j hj2).1; omega⟩
               rw [uQ (t := 78) (v := v8) ?s1 ?s2] at hS15
               case s1 => exact .inr (by decide)
               case s2 => rfl
               have hB8 := yL.toBelow hr8;have hB15 := yL.toBelow hr15;have hB0 : Below w3.heap.size w3 w15 := zF hW (zF hB8 hB15);have HS8 := zB (yA hS8 hB15);have HS15 := zB hS15;have hc15 : w15.heap[k.l]? = some (.cells (tQ b3.d first size k3 { LL with head := sX LL ⟨L.head.gen + 1, L.head.epoch, n, 0⟩ }) 134 (0, 0)) := by
                have := zK hB0 HS3.out.1.log.cells
                rwa [hl3] at this
               have fr15 : ∀ j, w15.frozen? ⟨k.l, j, none⟩ = false := λ j => by simp [World.frozen?, hc15]
               have d8 := yV hc15 8 _ rfl;have d9 := yV hc15 9 _ rfl;obtain ⟨a8, c8, rfl, -⟩ := zP hS8;obtain ⟨a15, c15, rfl, -⟩ := zP hS15.1;simp only [zD]
               iterate 2 ((first | (refine yZ ?_ rfl rfl (λ w1 hb1 hf1 => ?_) ?_; rotate_left; (go_simp; rfl))); simp only [zD])
               refine sZ (λ _ w' => w' = w15.setCell ⟨k.l, 8, none⟩ (.slice a8 (L.starts.length - p) c8)) _ rfl rfl ?_ ?_
               . clear hr8 hr15 hS8 hS15 q8 q9
                 (unfold yE; go_simp; simp only [zN])
               rintro v22 w22 - rfl;simp only [zD];refine oJ ?_;have hc20 := yB (j := 9) (yB (j := 8) hc15 (.slice a8 (L.starts.length - p) c8)) (.slice a15 (L.epochs.length - p) c15);have hX20 : Ext (· = k.l) w15 ((w15.setCell ⟨k.l, 8, none⟩ (.slice a8 (L.starts.length - p) c8)).setCell ⟨k.l, 9, none⟩ (.slice a15 (L.epochs.length - p) c15)) :=
                (Ext.setCell (S := (· = k.l)) (p := ⟨k.l, 8, none⟩) rfl _).trans (Ext.setCell (S := (· = k.l)) (p := ⟨k.l, 9, none⟩) rfl _) (λ _ _ h => h)
               have H20 := zB (zC hc20 (zC hX20 hB0));clear q8 q9 hc20 hX20 hB0 hB8 hB15 hS8 hS15 hr8 hr15 hc15
               go_wp2_with fail
               go_ret
               rw [Hr5.out];refine ⟨rfl, .trans hd3 hl3 HS3.out.2.1 HS3.out.2.2 ?_⟩;refine HS3.out.1.rows H20.out.2.2 (H20.out.2.1.mono λ j _ e => e.trans hl3.symm) HS8.out HS15.out.1 HS15.out.2 ?_ (by show (L.starts.drop p).length = _; rw [List.length_drop]) (by show (L.epochs.drop p).length = _; rw [List.length_drop]) (by simp [nums, List.map_drop]) (by simp [nums, List.map_drop]);rw [hl3];refine H20.out.1.trans ?_;unfold tQ;simp only [Hf.out, HL.out.2.1, <- HLL.out, LogS.fall];rfl
             . rw [hE];have hr5 := Hr4.out.trans (if_neg (show ¬ tC x first size LL (pQ L n) = 0 by show ¬ tC x first size LL ⟨L.head.gen + 1, L.head.epoch, n, 0⟩ = 0; rw [hE]; decide));have htl : tZ x first size LL ⟨L.head.gen + 1, L.head.epoch, n, 0⟩ = LL.fall true := by unfold tZ; rw [if_neg (by rw [hE]; decide)]
               have Hr5 := zB hr5;have Htl := zB htl;clear hS3 ha3 hX3 hP hr5 hE htl
               go_wp2_with fail
               go_ret
               rw [Hr5.out];have h3 := HS3.out.1;rw [Htl.out] at h3;exact ⟨rfl, b3, k3, hd3, hl3, HS3.out.2.1, HS3.out.2.2, h3⟩
       . have Hr3 := zB (Hr2.out.trans (if_pos ⟨hin, hnx⟩));have hnx' : ((n : Int) != (L.next : Int)) = true := by rw [bne_iff_ne]; omega
         clear hin hnx Hr2 y0 y1 y2 y3 y4 y5 y8 y9
         go_wp2_with fail
         go_ret
         rw [Hr3.out];exact ⟨rfl, .mono (.trans hd1 hl1 HS1.out.2.1 HS1.out.2.2 (.same HS1.out.1 HB2.out)) (by omega)⟩
 . have HRR := zB (show oK x first size L n = (x, L.fall x.off, 5) by unfold oK; rw [if_pos hf]);have HS1 := zB (zC hS1 (zC ha1 hX1));clear hf hS1 ha1 hX1
   go_wp2_with fail
   go_ret
   rw [HRR.out];exact ⟨rfl, b1, k1, hd1, hl1, HS1.out.2.1, HS1.out.2.2, HS1.out.1.mono (by omega)⟩
end Go.Proofs.YtbjofbhhnmehgaaGreatDoor.TT
