
/-
 table: Open, of a log that holds what a table has written.
-/
import Derived.Test.YtbjofbhhnmehgaaGreatDoorCNHz9
import Derived.Test.YtbjofbhhnmehgaaGreatDoorCNHz8
import Derived.Test.YtbjofbhhnmehgaaGreatDoorCNHz0
set_option linter.unusedSimpArgs false
set_option linter.unusedVariables false
set_option maxHeartbeats 4000000
set_option maxRecDepth 100000
open Go.IntWalk (toNatUp iteOmega)
namespace Go.Proofs.YtbjofbhhnmehgaaGreatDoor.TT
open Go.RowKit Go.RG Go.Hp Go.Proofs.YtbjofbhhnmehgaaGreatDoor
attribute [local go_sem] Oper.semAt_some
def TOpenOk (w : World) (b : Bks) (x : Dsk) (N first size : Nat) (L : LogS) (T : TblS) (e : Ending) (w' : World) : Prop :=
 ∃ (b' : Bks) (k : LBk) (q : TBk), e = .returned (.tuple #[.pointer (some ⟨q.t, 0, none⟩), .int .i64 0]) /\ b'.d = b.d /\ w.heap.size <= q.t /\ (∀ j, allB b' k q j -> b.all j \/ w.heap.size <= j) /\ Ext b.all w w' /\ TSys w' b' x N first size k L q T
theorem allocs4 (w : World) (o1 o2 o3 o4 : Obj) : Below w.heap.size w ((((w.alloc o1).alloc o2).alloc o3).alloc o4) /\ ((((w.alloc o1).alloc o2).alloc o3).alloc o4).heap[w.heap.size]? = some o1 /\ ((((w.alloc o1).alloc o2).alloc o3).alloc o4).heap[w.heap.size + 1]? = some o2 /\
 ((((w.alloc o1).alloc o2).alloc o3).alloc o4).heap[w.heap.size + 1 + 1]? = some o3 /\ ((((w.alloc o1).alloc o2).alloc o3).alloc o4).heap[w.heap.size + 1 + 1 + 1]? = some o4 /\ ((((w.alloc o1).alloc o2).alloc o3).alloc o4).heap.size = w.heap.size + 4 := by
 obtain ⟨h0, h1, h2, h3⟩ := allocs3 w o1 o2 o3;have hs : (((w.alloc o1).alloc o2).alloc o3).heap.size = w.heap.size + 1 + 1 + 1 := by simp
 generalize ((w.alloc o1).alloc o2).alloc o3 = W at *;have b4 := zQ W o4;have g4 := World.alloc_heap_new W o4;rw [hs] at g4;refine ⟨h0.trans (b4.mono h0.size), zK b4 h1, zK b4 h2, zK b4 h3, g4, by simp [hs]⟩
def TOpenBad (w : World) (b : Bks) (x : Dsk) (N : Nat) (c : Int) (e : Ending) (w' : World) : Prop := e = .returned (.tuple #[.pointer none, .int .i64 c]) /\ wH w b x N w'
theorem records_call (l : Nat) (w : World) : Calls Tryz.prog 50 #[.pointer (some ⟨l, 0, none⟩), .int .u64 0] w λ e w' => e = .returned (.func (.func 90) #[] #[.pointer (some ⟨w.heap.size, 0, none⟩), .pointer (some ⟨w.heap.size + 1, 0, none⟩)]) /\ w' = (w.alloc (.cells #[.pointer (some ⟨l, 0, none⟩)] 71)).alloc (.cells #[.int .u64 0] 28) := by
 go_enter Tryz.func50, Tryz.ntmps50
 go_wp2_with fail
 go_ret
 exact ⟨rfl, rfl⟩
theorem topen_fin {w w2 W W' : World} {b b1 : Bks} {x'' : Dsk} {N'' first size D : Nat} {k : LBk} {L'' : LogS} {q0 : TBk} {T'' : TblS} (hd1 : b1.d = b.d) (ha1 : ∀ j, b1.all j \/ k.all j -> b.all j \/ w.heap.size <= j) (hX1 : Ext b.all w w2) (hl1 : ∀ j, b1.all j \/ k.all j -> j < w2.heap.size)
 (hBW : Below w2.heap.size w2 W) (hq : ∀ j, q0.all j -> w2.heap.size <= j) (hD : W.heap[D]? = some (.deferred (some []))) (hDl : ¬ allB b1 k q0 D) (hDw : w2.heap.size <= D) (h10 : 10 <= w2.heap.size) (hP : xF W b1 k q0 x'' N'' first size L'' T'' W') :
 W'.heap[D]? = some (.deferred (some [])) /\ TOpenOk w b x'' N'' first size L'' T'' (.returned (.tuple #[.pointer (some ⟨q0.t, 0, none⟩), .int .i64 0])) (W'.putObj D (.deferred none)) /\ wH w b x'' N'' (W'.putObj D (.deferred none)) := by
 obtain ⟨b', k', q', hd, hl, ht, ha, hX, hS⟩ := hP;have hDW := zI hD;have hD' := (hX.block D hDW hDl).trans hD;have hXD : Ext (· = D) W' (W'.putObj D (.deferred none)) := Ext.grown (grownBy_putObj' W' D _) λ k e _ => (Option.some.inj e).symm;have hnD : ¬ allB b' k' q' D := λ h => (ha D h).elim hDl λ h => by omega
 have hSf := hS.ext (S := (· = D)) hXD λ j hj => ⟨by omega, λ h => hnD (hj ▸ h)⟩;have hws := hX1.size;have hsW := hBW.size;have hall : ∀ j, allB b1 k q0 j -> b.all j \/ w.heap.size <= j := λ j hj => by
  rcases hj with hj | hj
  . exact ha1 j hj
  . have := hq j hj; exact .inr (by omega)
 have hXf : Ext b.all w (W'.putObj D (.deferred none)) := by
  have e1 : Ext b.all w W := hX1.trans (Ext.of_below (S := b.all) hBW) λ k hk h => h;refine (e1.trans hX λ j hj h => (hall j h).elim id λ h => by omega).trans hXD λ j hj h => by omega
 have hsb : ∀ j, allB b' k' q' j -> b.all j \/ w.heap.size <= j := λ j hj => (ha j hj).elim (hall j) λ h => .inr (by omega);refine ⟨hD', ⟨b', k', q', by rw [ht], hd.trans hd1, by have := hq q0.t (.inl rfl); rw [ht]; omega, hsb, hXf, hSf⟩, b', hd.trans hd1, λ j hj => hsb j (.inl (.inl hj)), hXf, hSf.lsys.sys⟩
structure OpI (w5 : World) (B1 B2 : Nat) (es : List Ent2) (pre : List (Nat × Value)) (W : World) : Prop where
 below : Below B1 w5 W
 len : pre.length <= es.length
 fst : pre.map Prod.fst = (es.take pre.length).map Prod.fst
 rows : ∃ v1 v2, W.heap[B1]? = some (.cells #[v1] 101 (0, 0)) /\ W.heap[B2]? = some (.cells #[v2] 66 (0, 0)) /\ W.ownsRow w5.heap.size 28 1 v1 pre.length (nums (pre.map Prod.fst)) /\ W.ownsRow w5.heap.size 52 1 v2 pre.length (pre.map Prod.snd) /\
  (∀ j, v1.ownBlock = some j -> v2.ownBlock ≠ some j) /\ ∀ (i : Nat) (x : Nat × Value) (e : Ent2), pre[i]? = some x -> es[i]? = some e -> Src W x.2 (u8s e.2) /\ ∀ j, x.2.ownBlock = some j -> w5.heap.size <= j /\ wR W j /\ v1.ownBlock ≠ some j /\ v2.ownBlock ≠ some j
theorem oZ {W W' : World} {row : Option Nat} (hg : W.grownBy W' row) (hr : ∀ r, row = some r -> ∃ o : Obj, W.heap[r]? = some o /\ o.isCells = false) : Ext (λ k => ¬ wR W k) W W' :=
 ⟨hg.os, hg.tape, hg.output, hg.size, λ k hk hc => by
  have hc : wR W k := Classical.not_not.1 hc;refine hg.block k hk λ e => ?_;obtain ⟨o, ho, h1⟩ := hc;obtain ⟨o2, h2, h3⟩ := hr k e.symm;rw [ho] at h2;injection h2 with h2;subst h2;rw [h1] at h3
  cases h3⟩
theorem opI_own {w5 : World} {B1 B2 : Nat} {es : List Ent2} (hB : B1 <= w5.heap.size) : OwnFrom w5.heap.size (OpI w5 B1 B2 es) := by
 rintro pre A B row ⟨h1, h2, h3, v1, v2, k1, k2, k3, k4, k5, k6⟩ hg hr;have hX := oZ hg λ r e => (hr r e).2;have hc1 : wR A B1 := ⟨_, k1, rfl⟩;have hc2 : wR A B2 := ⟨_, k2, rfl⟩;refine ⟨⟨hg.os.trans h1.os, hg.tape.trans h1.tape, hg.output.trans h1.output, Nat.le_trans h1.size hg.size, λ k hk => (hg.block k (Nat.lt_of_lt_of_le (Nat.lt_of_lt_of_le hk hB) h1.size) λ e => by have := (hr k e.symm).1; omega).trans (h1.block k hk)⟩, h2, h3, v1, v2, ?_, ?_, ?_, ?_, k5, ?_⟩
 . exact (hX.block _ hc1.lt (λ h => h hc1)).trans k1
 . exact (hX.block _ hc2.lt (λ h => h hc2)).trans k2
 . exact xQ k3 hX λ j hj h => h (sD k3 hj)
 . exact xQ k4 hX λ j hj h => h (sD k4 hj)
 . intro i x e h5 h6;obtain ⟨m1, m2⟩ := k6 i x e h5 h6;refine ⟨xG m1 hX λ j hj h => h (m2 j hj).2.1, λ j hj => ?_⟩;obtain ⟨m3, m4, m5⟩ := m2 j hj;exact ⟨m3, m4.ext hX λ h => h m4, m5⟩
theorem OpI.box {w5 : World} {B1 B2 : Nat} {es : List Ent2} {pre : List (Nat × Value)} {W : World} (h : OpI w5 B1 B2 es pre W) : pK B1 B2 W := by
 obtain ⟨v1, v2, k1, k2, k3, k4, -⟩ := h.rows;exact ⟨⟨v1, _, k1, λ j hj => xD k3 hj⟩, ⟨v2, _, k2, λ j hj => xD k4 hj⟩⟩
theorem yL.keeps {S : Nat -> Nat -> Value -> Prop} {w w' : World} (h : yL S w w') {k : Nat} {o : Obj} (hk : w.heap[k]? = some o) (ho : o.isCells = false) : w'.heap[k]? = some o := by
 rcases h.block k (zI hk) with e | ⟨-, L, L', ty, h1, -⟩
 . exact e.trans hk
 . rw [hk] at h1;injection h1 with h1;subst h1
   cases ho
theorem opI_step {w5 W U w19 w20 w21 : World} {B1 B2 n : Nat} {es : List Ent2} {pre : List (Nat × Value)} {e0 : Ent2} {u v1 v2 v8 v19 : Value} (hB12 : B1 < B2) (hB2 : B2 < w5.heap.size) (hI : OpI w5 B1 B2 es pre W) (k1 : W.heap[B1]? = some (.cells #[v1] 101 (0, 0))) (k2 : W.heap[B2]? = some (.cells #[v2] 66 (0, 0)))
 (k3 : W.ownsRow w5.heap.size 28 1 v1 n (nums (pre.map Prod.fst))) (k4 : W.ownsRow w5.heap.size 52 1 v2 n (pre.map Prod.snd)) (hn : pre.length = n)
 (k6 : ∀ (i : Nat) (x : Nat × Value) (e : Ent2), pre[i]? = some x -> es[i]? = some e -> Src W x.2 (u8s e.2) /\ ∀ j, x.2.ownBlock = some j -> w5.heap.size <= j /\ wR W j /\ v1.ownBlock ≠ some j /\ v2.ownBlock ≠ some j)
 (he0 : es[pre.length]? = some e0) (hxs : Src W u (u8s e0.2)) (hxb : ∀ j, u.ownBlock = some j -> w5.heap.size <= j /\ fF B1 B2 W j) (hU : Below W.heap.size W U) (hr : yL (twoS v1 v2 n (.int .u64 e0.1) u) U w19)
 (hS8 : appV W.heap.size w5.heap.size 28 v1 (nums (pre.map Prod.fst)) (.int .u64 e0.1) v8 w19) (hS19 : appV W.heap.size w5.heap.size 52 v2 (pre.map Prod.snd) u v19 w19) (hd : ∀ j, v8.ownBlock = some j -> v19.ownBlock ≠ some j)
 (hX20 : Ext (· = B1) w19 w20) (hX21 : Ext (· = B2) w20 w21) (t1 : w21.heap[B1]? = some (.cells #[v8] 101 (0, 0))) (t2 : w21.heap[B2]? = some (.cells #[v19] 66 (0, 0))) :
 KeepsFrom w5.heap.size W w21 /\ pJ (pK B1 B2) (fF B1 B2) (λ _ => False) W w21 /\ OpI w5 B1 B2 es (pre ++ [(e0.1, u)]) w21 := by
 have hX : Ext (λ k => k = B1 \/ k = B2 \/ v1.ownBlock = some k \/ v2.ownBlock = some k) W w21 := (((Ext.of_below hU).trans (hr.ext.mono (S' := λ k => k = B1 \/ k = B2 \/ v1.ownBlock = some k \/ v2.ownBlock = some k) λ k _ ⟨j, y, h⟩ => h.elim (λ h => .inr (.inr (.inl h.1))) λ h => .inr (.inr (.inr h.1))) λ _ _ h => h).trans hX20 λ k _ h => .inl h).trans hX21 λ k _ h => .inr (.inl h);have hc1 : w21.cell? ⟨B1, 0, none⟩ = some v8 := by simp [World.cell?, t1]
 have hc2 : w21.cell? ⟨B2, 0, none⟩ = some v19 := by simp [World.cell?, t2]
 have d1 : W.cell? ⟨B1, 0, none⟩ = some v1 := by simp [World.cell?, k1]
 have d2 : W.cell? ⟨B2, 0, none⟩ = some v2 := by simp [World.cell?, k2]
 have o8 : w21.ownsRow w5.heap.size 28 1 v8 ((nums (pre.map Prod.fst)).length + 1) (nums (pre.map Prod.fst) ++ [.int .u64 e0.1]) := xQ (xQ hS8.1 hX20 λ j hj e => by have := (hS8.1.lt j hj).1; omega) hX21 λ j hj e => by have := (hS8.1.lt j hj).1; omega
 have o19 : w21.ownsRow w5.heap.size 52 1 v19 ((pre.map Prod.snd).length + 1) (pre.map Prod.snd ++ [u]) := xQ (xQ hS19.1 hX20 λ j hj e => by have := (hS19.1.lt j hj).1; omega) hX21 λ j hj e => by have := (hS19.1.lt j hj).1; omega
 have hw5 := hI.below.size;have hB1W : B1 < W.heap.size := zI k1;have hB2W : B2 < W.heap.size := zI k2;have hpl : pre.length + 1 <= es.length := (List.getElem?_eq_some_iff.1 he0).1;have keep : ∀ k, wR W k -> k ≠ B1 -> k ≠ B2 -> v1.ownBlock ≠ some k -> v2.ownBlock ≠ some k -> w21.heap[k]? = W.heap[k]? := λ k hk h1 h2 h3 h4 => hX.block k hk.lt λ e => by
  rcases e with e | e | e | e
  . exact h1 e
  . exact h2 e
  . exact h3 e
  . exact h4 e
 have hnew : OpI w5 B1 B2 es (pre ++ [(e0.1, u)]) w21 := by
  refine ⟨?_, by simpa using hpl, ?_, v8, v19, t1, t2, by simpa [tD, xE] using o8, by simpa using o19, hd, λ i x e hx he => ?_⟩
  . refine hI.below.trans ⟨hX.os, hX.tape, hX.output, hX.size, λ k hk => hX.block k (by omega) λ e => ?_⟩;rcases e with e | e | e | e
    . omega
    . omega
    . have := (k3.lt k e).1; omega
    . have := (k4.lt k e).1; omega
  . rw [List.map_append, List.length_append, List.length_singleton, List.take_add_one, he0, List.map_append, hI.fst];rfl
  . have hgo : ∀ (y : Value) (ys : List Value), Src W y ys -> (∀ j, y.ownBlock = some j -> w5.heap.size <= j /\ wR W j /\ v1.ownBlock ≠ some j /\ v2.ownBlock ≠ some j) -> Src w21 y ys /\ ∀ j, y.ownBlock = some j -> w5.heap.size <= j /\ wR w21 j /\ v8.ownBlock ≠ some j /\ v19.ownBlock ≠ some j := λ y ys hs hb => by
     have hno : ∀ j, y.ownBlock = some j -> ¬ (j = B1 \/ j = B2 \/ v1.ownBlock = some j \/ v2.ownBlock = some j) := λ j hj e => by
      obtain ⟨h1, h2, h3, h4⟩ := hb j hj;rcases e with e | e | e | e
      . omega
      . omega
      . exact h3 e
      . exact h4 e
     refine ⟨xG hs hX hno, λ j hj => ?_⟩;obtain ⟨h1, h2, h3, h4⟩ := hb j hj;exact ⟨h1, h2.ext hX (hno j hj), λ e => (hS8.2 j e).elim h3 λ e => by have := h2.lt; omega, λ e => (hS19.2 j e).elim h4 λ e => by have := h2.lt; omega⟩
    rcases Nat.lt_or_ge i pre.length with hl | hl
    . rw [List.getElem?_append_left hl] at hx;obtain ⟨h1, h2⟩ := k6 i x e hx he;exact hgo x.2 _ h1 h2
    . have : i = pre.length := by
       have := (List.getElem?_eq_some_iff.1 hx).1;simp at this;omega
      subst this;rw [List.getElem?_append_right (Nat.le_refl _), Nat.sub_self] at hx;simp at hx;subst hx;rw [he0] at he;injection he with he;subst he;refine hgo u _ hxs λ j hj => ?_;obtain ⟨h1, h2, h3, h4, h5⟩ := hxb j hj;exact ⟨h1, h2, h5 v1 (.inl d1), h5 v2 (.inr d2)⟩
 refine ⟨⟨hX.size, λ k o hk ho hc => ?_⟩, ⟨λ _ => hnew.box, hX.size, λ h0 k hk _ => ?_⟩, hnew⟩
 . have h1 := yL.keeps hr (zK hU ho) hc;have h2 := (hX20.block k (zI h1) (λ e => by omega)).trans h1;exact (hX21.block k (zI h2) (λ e => by omega)).trans h2
 . obtain ⟨h2, h3, h4, h5⟩ := hk;have hkk := keep k h2 h3 h4 (h5 v1 (.inl d1)) (h5 v2 (.inr d2));refine ⟨⟨by obtain ⟨o, h6, h7⟩ := h2; exact ⟨o, hkk.trans h6, h7⟩, h3, h4, λ v hv => ?_⟩, hkk⟩;have hkl := h2.lt;rcases hv with hv | hv
   . rw [hc1] at hv;injection hv with hv;subst hv;exact λ e => (hS8.2 k e).elim (h5 v1 (.inl d1)) λ e => by omega
   . rw [hc2] at hv;injection hv with hv;subst hv;exact λ e => (hS19.2 k e).elim (h5 v2 (.inr d2)) λ e => by omega
theorem build_rec (a : Option Addr) (n c : Nat) (w : World) : (Instr.buildSlice 66 1 #[(0, .slice a n c)]).run Tryz.prog w = .ok (.slice (some ⟨w.heap.size, 0, none⟩) 1 1) (w.alloc (.cells #[.slice a n c] 52)) := by
 kernel_rfl
def OpX (w5 : World) (B1 B2 : Nat) (es : List Ent2) (pre : List (Nat × Value)) (x : Nat × Value) (W : World) : Prop :=
 pK B1 B2 W /\ ∃ e, es[pre.length]? = some e /\ x.1 = e.1 /\ Src W x.2 (u8s e.2) /\ ∀ j, x.2.ownBlock = some j -> w5.heap.size <= j /\ fF B1 B2 W j
theorem opX_own {w5 : World} {B1 B2 : Nat} {es : List Ent2} {pre : List (Nat × Value)} {x : Nat × Value} : OwnFrom w5.heap.size (λ (_ : Unit) W => OpX w5 B1 B2 es pre x W) := by
 rintro - A B row ⟨h0, e, h1, h2, h3, h4⟩ hg hr;have hX := oZ hg λ r e => (hr r e).2;obtain ⟨k1, k2⟩ := (pD B1 B2).grown A B row h0 hg λ r e => (hr r e).2;exact ⟨k1, e, h1, h2, xG h3 hX λ j hj h => h (h4 j hj).2.1, λ j hj => ⟨(h4 j hj).1, (k2 j (h4 j hj).2).1⟩⟩
theorem goes_off {x : Dsk} (h : vC x = true) : (vJ x).off = false := by
 unfold vC at h;simp only [Bool.and_eq_true, Bool.not_eq_true', decide_eq_true_eq] at h;unfold vJ;rw [if_neg (by rw [h.1]; decide), if_neg h.2]
 split
 . exact h.1
 . exact h.1
theorem goesE_zero {x : Dsk} : uO x = 0 ↔ vC x = true := by
 unfold uO
 split
 . rename_i h; simp [h]
 . rename_i h; simp [h]
theorem flushX_off {x : Dsk} (h : vC x = true) : (uC x).off = false := by
 unfold uC;rw [if_pos h];exact goes_off h
theorem layX_off {x : Dsk} {i : Nat} {bs : List Int} (h : layE x i bs = 0) : (layX x i bs).off = false := by
 unfold layE at h;unfold layX
 split
 . rename_i h1;rw [if_pos h1] at h;exact flushX_off (goesE_zero.1 h)
 . rename_i h1;rw [if_neg h1] at h;exact absurd h (by decide)
theorem openR_off {x : Dsk} {first size : Nat} (h : (yT x first size).2.1 = 0) : (yT x first size).1.off = false := by
 have h0 := h;obtain ⟨-, h1, h2, h3, h4⟩ := jD h;have hx : (yT x first size).1 = qU x first size (rB x first size (yS x first size).1) (jE (yS x first size).1) := by rw [h4]
 rw [hx];refine layX_off ?_;have h5 : x.off = false := (jD h0).1;unfold yT at h0;rw [if_neg (by rw [h5]; decide), if_neg h1, if_neg (λ e => e.elim h2 h3)] at h0;exact h0
theorem topen_ok (b : Bks) (x : Dsk) (N first size : Nat) (h1 : 83 <= size) (h2 : first + size <= x.dur.length) (w : World) (h : Sys w b x N) (hN : N <= 1080000000000) (he : (yT x first size).2.1 = 0)
 (es : List Ent2) (ps : List Pr) (css : List (List Chg)) (hv : Nat) (hes : HasRecs (yT x first size).1 first size (yT x first size).2.2 es) (hrec : es.map Prod.snd = wS ps css hv) (hr : yQ (zS ps))
 (hg : ∀ p ∈ ps, zO p.1 /\ zO p.2 /\ 0 < p.1.length /\ p.1.length <= 64 /\ p.2.length <= 1024)
 (hcs : ∀ cs ∈ css, cs ≠ [] /\ cs.length <= 80 /\ ∀ c ∈ cs, c.good = true /\ zO c.key /\ zO c.value /\ c.value.length <= 1024)
 (hcap : ∀ c, CapOf (size - 2) c -> ∀ i, i <= css.length -> zU (allP ps (css.take i)) <= c) (hh : hv <= yF (zU (allP ps css))) :
 Calls Tryz.prog 16 #[.pointer (some ⟨b.d, 0, none⟩), .int .i64 first, .int .i64 size] w λ e w' => ∃ c, CapOf (size - 2) c /\
  if hv = 0 then TOpenOk w b (yT x first size).1 (N + 1) first size (yT x first size).2.2 ⟨c, allP ps css, zU (allP ps css), 0, 0⟩ e w'
  else if (rG (yT x first size).1 first size (yT x first size).2.2 ⟨c, allP ps css, zU (allP ps css), 0, 0⟩ hv ((yT x first size).2.2.starts.getD (yF (zU ps) + css.length) 0)).2.2.2 = 0 then
   TOpenOk w b (rG (yT x first size).1 first size (yT x first size).2.2 ⟨c, allP ps css, zU (allP ps css), 0, 0⟩ hv ((yT x first size).2.2.starts.getD (yF (zU ps) + css.length) 0)).1 (N + 79 * yF (zU (allP ps css)) + 2) first size
    (rG (yT x first size).1 first size (yT x first size).2.2 ⟨c, allP ps css, zU (allP ps css), 0, 0⟩ hv ((yT x first size).2.2.starts.getD (yF (zU ps) + css.length) 0)).2.1
    (rG (yT x first size).1 first size (yT x first size).2.2 ⟨c, allP ps css, zU (allP ps css), 0, 0⟩ hv ((yT x first size).2.2.starts.getD (yF (zU ps) + css.length) 0)).2.2.1 e w'
  else TOpenBad w b (rG (yT x first size).1 first size (yT x first size).2.2 ⟨c, allP ps css, zU (allP ps css), 0, 0⟩ hv ((yT x first size).2.2.starts.getD (yF (zU ps) + css.length) 0)).1 (N + 79 * yF (zU (allP ps css)) + 2)
   (rG (yT x first size).1 first size (yT x first size).2.2 ⟨c, allP ps css, zU (allP ps css), 0, 0⟩ hv ((yT x first size).2.2.starts.getD (yF (zU ps) + css.length) 0)).2.2.2 e w' := by
 have hlim := h.dsk.lim;have HF := zB (tfits_yes b x first size w h.dsk.head hlim h1 h2);have hO := open_any b x N first size (by omega) h2 w h (by omega);obtain ⟨hok, hfl⟩ := openR_ok h.dsk.full h.ok.ok (first := first) (size := size) (by omega) he;have hx1 := openR_off he;unfold vN at hO;simp only [he, if_true] at hO;generalize yT x first size = r at hO he hes hok hfl hx1 ⊢;obtain ⟨x1, c, L1⟩ := r;simp only at hO he hes hok hfl hx1 ⊢;subst he;have hesl : es.length = L1.starts.length := by rw [<- hes.1, List.length_map]
 obtain ⟨K, hK⟩ : ∃ K, yF (zU ps) = K := ⟨_, rfl⟩;have hlen : es.length = K + (css.length + hv) := by
  have := congrArg List.length hrec;rw [List.length_map] at this;rw [this, <- hK];unfold wS;simp only [List.length_append, List.length_map, List.length_range, wP, xA]
 have hshort := hok.short;have HC := zB λ w' => capacity_any (size - 2) (by omega) w';rw [show ((size - 2 : Nat) : Int) = (size : Int) - 2 by omega] at HC;have e1 := IntWalk.i64_in ((size : Int) - 2) (by omega);have hmm := @run_makeMap Tryz.prog;have HO := zB hO;have HH := zB (zC hes (zC hrec (zC hr (zC hg (zC hcs (zC hcap (zC hh (zC hok (zC hfl hx1)))))))));have hKl := hlen;have HK := zB hK;have Hlen := zB (zC hesl hlen);clear h hO hes hrec hr hg hcs hcap hh hok hfl hx1 hlen hesl hK;rw [HK.out];refine (callsIn_wide (n := 3)).1 ?_;refine callsIn_of_wp_marks Tryz.func16 rfl trivial ?_ rfl;simp only [Tryz.ntmps16, List.size_toArray, List.length_cons, List.length_nil, Nat.reduceAdd, Nat.reduceSub, Array.replicate_succ, Array.replicate_zero, List.push_toArray, List.append_toArray, List.nil_append, List.cons_append]
 gi_wp2_with fail
 refine ⟨trivial, callsIn_wide.2 (HF.out.mono ?_)⟩;rintro e w1 ⟨rfl, rfl⟩
 gi_wp2_with fail
 refine ⟨trivial, callsIn_wide.2 (HO.out.mono ?_)⟩;rintro e w2 ⟨b1, k, rfl, hd1, ha1, hX1, hS1⟩;have HS1 := zB (zC hd1 (zC ha1 (zC hX1 hS1)));clear hd1 ha1 hX1 hS1 HO HF
 gi_wp2_with fail
 refine ⟨trivial, callsIn_wide.2 ((HC.out _).mono ?_)⟩;rintro e w3 ⟨c, rfl, hC, hB3⟩;have HB3 := zB (zC hC hB3);clear hC hB3 HC
 gi_wp2_with fail
 obtain ⟨hb4, g0, g1, g2, g3, hs4⟩ := allocs4 w3 (.map #[] 0) (.cells #[.pointer (some ⟨b.d, 0, none⟩), .pointer (some ⟨k.l, 0, none⟩), .int .i64 c, .map (some w3.heap.size), .slice none 0 0, .int .i64 0, .int .i64 0, .int .i64 0] 75) (.cells #[.slice none 0 0] 101) (.cells #[.slice none 0 0] 66);obtain ⟨w4, hw4⟩ : ∃ w4, ((((w3.alloc (.map #[] 0)).alloc (.cells #[.pointer (some ⟨b.d, 0, none⟩), .pointer (some ⟨k.l, 0, none⟩), .int .i64 c, .map (some w3.heap.size), .slice none 0 0, .int .i64 0, .int .i64 0, .int .i64 0] 75)).alloc (.cells #[.slice none 0 0] 101)).alloc (.cells #[.slice none 0 0] 66)) = w4 := ⟨_, rfl⟩;rw [hw4] at hb4 g0 g1 g2 g3 hs4 ⊢;clear hw4 hmm;refine ⟨trivial, callsIn_wide.2 ((records_call k.l w4).mono ?_)⟩;rintro e w5 ⟨rfl, rfl⟩
 gi_wp2_with fail
 have hb5 := qV w4 (.cells #[.pointer (some ⟨k.l, 0, none⟩)] 71) (.cells #[.int .u64 0] 28);rw [hs4] at hb5;obtain ⟨hb5, g5, g6⟩ := hb5;obtain ⟨w5, hw5⟩ : ∃ w5, (w4.alloc (.cells #[.pointer (some ⟨k.l, 0, none⟩)] 71)).alloc (.cells #[.int .u64 0] 28) = w5 := ⟨_, rfl⟩;have hs5 : w5.heap.size = w3.heap.size + 6 := by rw [<- hw5]; simp [hs4]
 rw [hw5] at hb5 g5 g6 ⊢;have hb5 : Below w4.heap.size w4 w5 := by rw [hs4]; exact hb5
 have k1 := zK hb5 g1;have k2 := zK hb5 g2;have k3 := zK hb5 g3;have hB35 := hb4.trans (hb5.mono hb4.size);have hB25 := HB3.out.2.trans (hB35.mono HB3.out.2.size);have hS5 := HS1.out.2.2.2.below hB25;have hI0 : OpI w5 (w3.heap.size + 1 + 1) (w3.heap.size + 1 + 1 + 1) es [] w5 := ⟨Below.refl _ _, Nat.zero_le _, rfl, _, _, k2, k3, World.ownsRow_nil _ _ _ _, World.ownsRow_nil _ _ _ _, λ j hj => (by cases hj), λ i x e hx => (by simp at hx)⟩;have hX0 : pK (w3.heap.size + 1 + 1) (w3.heap.size + 1 + 1 + 1) w5 := ⟨⟨_, _, k2, λ j hj => (by cases hj)⟩, ⟨_, _, k3, λ j hj => (by cases hj)⟩⟩;have HI0 := zB (zC hI0 (zC hX0 (zC k1 (zC hB25 (zC hB35 (zC hS5 (zC hs4 hs5)))))));have Hg := zB (zC (zK hb5 g0) (zC g5 g6));clear hI0 hX0 k1 k2 k3 hB25 hB35 hS5 g0 g1 g2 g3 g5 g6 hb5 hb4 hw5 hs4 hs5;have c5 : w5.cell? ⟨w3.heap.size + 4, 0, none⟩ = some (.pointer (some ⟨k.l, 0, none⟩)) := by have := Hg.out.2.1; simp [World.cell?, this]
 have c6 : w5.cell? ⟨w3.heap.size + 4 + 1, 0, none⟩ = some (.int .u64 0) := by have := Hg.out.2.2; simp [World.cell?, this]
 have hseq := records_seq 2 b1 x1 (N + 1) first size k L1 es w5 HI0.out.2.2.2.2.2.1 HH.out.2.2.2.2.2.2.2.1.rise HH.out.2.2.2.2.2.2.2.1.short HH.out.2.2.2.2.2.2.2.2.1 HH.out.2.2.2.2.2.2.2.2.2 (λ n hn => by have h1 := (HH.out.2.2.2.2.2.2.2.1.low n hn).2; have h2 := HH.out.2.2.2.2.2.2.2.1.next; omega) HH.out.1 (w3.heap.size + 4) (w3.heap.size + 4 + 1) c5 c6
  (pK (w3.heap.size + 1 + 1) (w3.heap.size + 1 + 1 + 1)) (fF (w3.heap.size + 1 + 1) (w3.heap.size + 1 + 1 + 1)) (pD _ _) HI0.out.2.1
 have hB1 : w3.heap.size + 1 + 1 <= w5.heap.size := by have := HI0.out.2.2.2.2.2.2.2; omega
 have HB1 := zB hB1;clear c5 c6 hB1;generalize hA0 : Act.mk _ [] = a0;refine jK (F := Fence.wide) rfl (by decide) (gf := 90) (lb := #[.pointer (some ⟨w3.heap.size + 4, 0, none⟩), .pointer (some ⟨w3.heap.size + 4 + 1, 0, none⟩)]) (by subst hA0; rfl) trivial (enters_of Tryz.func90 (by kernel_rfl) rfl) hseq (λ h k => h.trans k) (λ x W l o o' h1 h2 h3 h4 => pJ.putObj (pD _ _) W l o o' h2 h3) (Below.refl _ _) (λ _ => rfl)
  (OpI w5 (w3.heap.size + 1 + 1) (w3.heap.size + 1 + 1 + 1) es) (λ c pre W => False) (opI_own HB1.out) (λ c pre A B row hs hg hr => hs) HI0.out.1
  (λ pre x a' W => a' = { tmps := (((a0.tmps.setIfInBounds 42 (.int .u64 x.1)).setIfInBounds 43 x.2).setIfInBounds 13 (.int .u64 x.1)).setIfInBounds 14 x.2, defers := [] } /\ OpX w5 (w3.heap.size + 1 + 1) (w3.heap.size + 1 + 1 + 1) es pre x W)
  (λ pre x a' u A B row hs hg hr => ⟨hs.1, opX_own u A B row hs.2 hg hr⟩) ?assign ?body ?done ?stop
 case assign =>
  rintro l pre x W K hI hok hK;subst hA0
  gi_wp2_with fail
  exact hK _ _ (KeepsFrom.refl _ _) (pJ.refl _) hI ⟨rfl, hI.box, by obtain ⟨e, q1, q2, q3, q4⟩ := hok; exact ⟨e, q1, q2, q3, λ j hj => ⟨(q4 j hj).1, (q4 j hj).2.2⟩⟩⟩
 case body =>
  rintro l pre x a' W hl ⟨r, hr⟩ hI ⟨rfl, hX⟩;subst hA0;simp only [List.setIfInBounds_toArray, List.set_cons_succ, List.set_cons_zero];obtain ⟨n, hn⟩ : ∃ n, pre.length = n := ⟨_, rfl⟩;obtain ⟨-, e0, he0, hx1, hxs, hxb⟩ := hX;obtain ⟨v1, v2, k1, k2, k3, k4, k5, k6⟩ := hI.rows;rw [hn] at k3 k4;obtain ⟨a1, m1, rfl, -⟩ := zP k3;obtain ⟨a2, m2, rfl, -⟩ := zP k4;obtain ⟨ax, mx, hxv, -⟩ := hxs.shape;obtain ⟨x1', x2'⟩ := x;simp only at hx1 hxs hxb hxv;subst hxv;subst hx1;obtain ⟨u, hu⟩ : ∃ u : Value, u = .slice ax (u8s e0.2).length mx := ⟨_, rfl⟩;rw [<- hu] at hxs hxb ⊢;dsimp only;have hu1 : u.oneCell' = true := by rw [hu]; rfl
  have Hu := zB hu;clear hu;have hz5 : w5.heap.size = w3.heap.size + 6 := HI0.out.2.2.2.2.2.2.2;have hlt1 : ∀ j, (Value.slice a1 n m1).ownBlock = some j -> j < W.heap.size := λ j hj => xD k3 hj;have hlt2 : ∀ j, (Value.slice a2 n m2).ownBlock = some j -> j < W.heap.size := λ j hj => xD k4 hj;have hbx1 : (Value.slice a1 n m1).ownBlock ≠ some (w3.heap.size + 1 + 1) /\ (Value.slice a1 n m1).ownBlock ≠ some (w3.heap.size + 1 + 1 + 1) := ⟨λ e => by have := (k3.lt _ e).1; omega, λ e => by have := (k3.lt _ e).1; omega⟩;have hbx2 : (Value.slice a2 n m2).ownBlock ≠ some (w3.heap.size + 1 + 1) /\ (Value.slice a2 n m2).ownBlock ≠ some (w3.heap.size + 1 + 1 + 1) := ⟨λ e => by have := (k4.lt _ e).1; omega, λ e => by have := (k4.lt _ e).1; omega⟩;have hn6 : n <= 65536 := by have h1 := hI.len; have h2 := Hlen.out.1; omega
  have hnl1 : (nums (pre.map Prod.fst)).length = n := by rw [xE, List.length_map, hn]
  have hnl2 : (pre.map Prod.snd).length = n := by rw [List.length_map, hn]
  have hw5W : w5.heap.size <= W.heap.size := hI.below.size;have HK := zB (zC k1 (zC k2 (zC k3 (zC k4 (zC k5 (zC k6 (zC hxs (zC hxb (zC hI he0)))))))));have Hn := zB hn;clear k1 k2 k3 k4 k5 k6 hxs hxb hI he0
  gi_wp2_with fail
  refine kS (vF (twoS (.slice a1 n m1) (.slice a2 n m2) n (.int .u64 e0.1) u)) 9 [] (λ i => if i = 2 then some (λ _ => oneV W.heap.size (.int .u64 e0.1)) else if i = 3 then some (λ _ => appV W.heap.size w5.heap.size 28 (.slice a1 n m1) (nums (pre.map Prod.fst)) (.int .u64 e0.1)) else if i = 6 then some (λ _ => oneV W.heap.size u) else if i = 7 then some (λ sn v w => appV W.heap.size w5.heap.size 52 (.slice a2 n m2) (pre.map Prod.snd) u v w /\ ∀ j, (sn 47).ownBlock = some j -> v.ownBlock ≠ some j) else none) (λ _ => True) (λ _ _ => True) fol (by kernel_rfl) (λ _ _ _ _ _ => trivial) (λ U hU hh => ?_);clear hh;have q1 := uJ (S := twoS (.slice a1 n m1) (.slice a2 n m2) n (.int .u64 e0.1) u) (p := ⟨w3.heap.size + 1 + 1, 0, none⟩) (zG hU (show W.cell? ⟨w3.heap.size + 1 + 1, 0, none⟩ = some (.slice a1 n m1) by have := HK.out.1; simp [World.cell?, this])) (pP hbx1.1 hbx2.1);have q2 := uJ (S := twoS (.slice a1 n m1) (.slice a2 n m2) n (.int .u64 e0.1) u) (p := ⟨w3.heap.size + 1 + 1 + 1, 0, none⟩) (zG hU (show W.cell? ⟨w3.heap.size + 1 + 1 + 1, 0, none⟩ = some (.slice a2 n m2) by have := HK.out.2.1; simp [World.cell?, this])) (pP hbx1.2 hbx2.2);have HSZ := zB hU.size;simp only [fT]
  repeat ((first | (refine wK _ (by first | exact .inl rfl | exact .inr rfl) (by first | exact .inl rfl | exact .inr rfl) rfl ?_) | (refine yZ ?_ rfl rfl (λ w1 hb1 hf1 => ?_) ?_; rotate_left; (go_simp; (try simp (disch := omega) only [zE, toNatUp, iteOmega]); (try go_simp); rfl)) | (refine vA (by first | exact .inl rfl | exact .inr rfl) rfl ?_)); simp only [zD])
  refine xV _ rfl (oneV_stab hlt1 hlt2 _) rfl (λ w1 hr1 hf1 => ?_) (λ v7 w7 hr7 hS7 => ?_)
  . exact xT (xO 101 1 (.tmp 45) rfl (nF e0.1 w1)) ⟨yL.of_below (zQ _ _), _, rfl, Nat.le_trans HSZ.out hr1.size, yV (World.alloc_heap_new _ _) 0 _ rfl⟩
  obtain ⟨g7, rfl, hg7, hc7⟩ := hS7;simp only [zD];refine xV _ rfl (appV_stab1 hlt1 hlt2 HK.out.2.2.2.2.1 hnl1) rfl (λ w1 hr1 hf1 => ?_) (λ v8 w8 hr8 hS8 => ?_)
  . have h7 : oneV W.heap.size (.int .u64 e0.1) (.slice (some ⟨g7, 0, none⟩) 1 1) w1 := hf1 46 (.inl (by decide)) (by simp);obtain ⟨g7', e7, -, hc7'⟩ := h7;injection e7 with e7;injection e7 with e7;injection e7 with e7;subst e7;have hrow : w1.ownsRow w5.heap.size 28 1 (.slice a1 n m1) n (nums (pre.map Prod.fst)) := yL.owns hr1 (yA HK.out.2.2.1 hU) λ g j y hg hs => by
     rcases hs with ⟨-, rfl, -⟩ | ⟨h4, -⟩
     . left; omega
     . exact absurd h4 (HK.out.2.2.2.2.1 g hg)
    obtain ⟨v', w', r1, r2, r3, r4⟩ := app_u64 w1 w5.heap.size (.slice a1 n m1) n _ hrow (by omega) g7 1 _ hc7' rfl (Nat.le_trans hw5W (Nat.le_trans HSZ.out hr1.size)) 101;refine xT (yM (.tmp 44) (.tmp 46) 101 101 rfl r1) ⟨r3.mono λ k j y h => .inl h, by rw [hnl1]; exact r2, λ j hj => (r4 j hj).imp id λ h => Nat.le_trans HSZ.out (Nat.le_trans hr1.size h)⟩
  simp only [zD]
  repeat ((first | (refine wK _ (by first | exact .inl rfl | exact .inr rfl) (by first | exact .inl rfl | exact .inr rfl) rfl ?_) | (refine yZ ?_ rfl rfl (λ w1 hb1 hf1 => ?_) ?_; rotate_left; (go_simp; (try simp (disch := omega) only [zE, toNatUp, iteOmega]); (try go_simp); rfl)) | (refine vA (by first | exact .inl rfl | exact .inr rfl) rfl ?_)); simp only [zD])
  refine xV _ rfl (oneV_stab hlt1 hlt2 _) rfl (λ w1 hr1 hf1 => ?_) (λ v18 w18 hr18 hS18 => ?_)
  . have hbu : (Instr.buildSlice 66 1 #[(0, u)]).run Tryz.prog w1 = .ok (.slice (some ⟨w1.heap.size, 0, none⟩) 1 1) (w1.alloc (.cells #[u] 52)) := by rw [Hu.out]; exact build_rec _ _ _ w1
    exact xT (xO 66 1 (.tmp 49) rfl hbu) ⟨yL.of_below (zQ _ _), _, rfl, Nat.le_trans HSZ.out hr1.size, yV (World.alloc_heap_new _ _) 0 _ rfl⟩
  obtain ⟨g18, rfl, hg18, hc18⟩ := hS18;simp only [zD];refine xV _ rfl (appV_stab2 hlt1 hlt2 HK.out.2.2.2.2.1 hnl2 _) rfl (λ w1 hr1 hf1 => ?_) (λ v19 w19 hr19 hS19 => ?_)
  . have h7 : oneV W.heap.size u (.slice (some ⟨g18, 0, none⟩) 1 1) w1 := hf1 50 (.inl (by decide)) (by simp);have h8 : appV W.heap.size w5.heap.size 28 (.slice a1 n m1) (nums (pre.map Prod.fst)) (.int .u64 e0.1) v8 w1 := hf1 47 (.inr (by decide)) (by simp);obtain ⟨g7', e7, -, hc7'⟩ := h7;injection e7 with e7;injection e7 with e7;injection e7 with e7;subst e7;have hrow : w1.ownsRow w5.heap.size 52 1 (.slice a2 n m2) n (pre.map Prod.snd) := yL.owns hr1 (yA HK.out.2.2.2.1 hU) λ g j y hg hs => by
     rcases hs with ⟨h4, -⟩ | ⟨-, rfl, -⟩
     . exact absurd hg (HK.out.2.2.2.2.1 g h4)
     . left; omega
    obtain ⟨v', w', r1, r2, r3, r4⟩ := app_rec w1 w5.heap.size (.slice a2 n m2) n _ hrow (by omega) g18 1 _ hc7' hu1 (Nat.le_trans hw5W (Nat.le_trans HSZ.out hr1.size)) 66;refine xT (yM (.tmp 48) (.tmp 50) 66 66 rfl r1) ⟨r3.mono λ k j y h => .inr h, ⟨by rw [hnl2]; exact r2, λ j hj => (r4 j hj).imp id λ h => Nat.le_trans HSZ.out (Nat.le_trans hr1.size h)⟩, ?_⟩;rw [uQ (t := 47) (v := v8) ?s1 ?s2]
    case s1 => exact .inr (by decide)
    case s2 => rfl
    intro j hj hj2;have hlt8 := xD h8.1 hj;rcases r4 j hj2 with h | h
    . rcases h8.2 j hj with h9 | h9
      . exact HK.out.2.2.2.2.1 j h9 h
      . have := hlt2 j h; omega
    . omega
  rw [uQ (t := 47) (v := v8) ?s1 ?s2] at hS19
  case s1 => exact .inr (by decide)
  case s2 => rfl
  obtain ⟨hS19, hd19⟩ := hS19;have hrW := (vF (twoS (.slice a1 n m1) (.slice a2 n m2) n (.int .u64 e0.1) u)).trans hr7 ((vF (twoS (.slice a1 n m1) (.slice a2 n m2) n (.int .u64 e0.1) u)).trans hr8 ((vF (twoS (.slice a1 n m1) (.slice a2 n m2) n (.int .u64 e0.1) u)).trans hr18 hr19));have hS8' := appV_stab1 hlt1 hlt2 HK.out.2.2.2.2.1 hnl1 v8 _ _ hS8 ((vF (twoS (.slice a1 n m1) (.slice a2 n m2) n (.int .u64 e0.1) u)).trans hr18 hr19);have z1 := yL.heap hrW (zK hU HK.out.1) (pP hbx1.1 hbx2.1);have z2 := yL.heap hrW (zK hU HK.out.2.1) (pP hbx1.2 hbx2.2);have zf1 : w19.frozen? ⟨w3.heap.size + 1 + 1, 0, none⟩ = false := by simp [World.frozen?, z1]
  have zc1 : w19.cell? ⟨w3.heap.size + 1 + 1, 0, none⟩ = some (.slice a1 n m1) := by simp [World.cell?, z1]
  obtain ⟨a8, m8, rfl, -⟩ := zP hS8'.1;obtain ⟨a19, m19, rfl, -⟩ := zP hS19.1;simp only [zD];refine sZ (λ _ w' => w' = w19.setCell ⟨w3.heap.size + 1 + 1, 0, none⟩ (.slice a8 ((nums (pre.map Prod.fst)).length + 1) m8)) _ rfl rfl ?_ ?_
  . clear hr8 hr18 hr19 hrW hS8' hS19 q1 q2
    (unfold yE; go_simp; simp only [zN])
  rintro v22 w22 - rfl;simp only [zD];refine oJ ?_;have hX20 : Ext (· = w3.heap.size + 1 + 1) w19 (w19.setCell ⟨w3.heap.size + 1 + 1, 0, none⟩ (.slice a8 ((nums (pre.map Prod.fst)).length + 1) m8)) := Ext.setCell (S := (· = w3.heap.size + 1 + 1)) (p := ⟨w3.heap.size + 1 + 1, 0, none⟩) rfl _;have t1 := yB (j := 0) z1 (.slice a8 ((nums (pre.map Prod.fst)).length + 1) m8);have t2 := (hX20.block _ (zI z2) (by omega)).trans z2;have H20 := zB (zC hX20 (zC t1 t2));have HSS := zB (zC hS8' (zC hS19 (zC hd19 hrW)));clear hX20 t1 hS8' hS19 hd19 hrW zf1 zc1 z1 z2 hS8 hr7 hr8 hr18 hr19 q1 q2 hc7 hc18;generalize w19.setCell ⟨w3.heap.size + 1 + 1, 0, none⟩ (.slice a8 ((nums (pre.map Prod.fst)).length + 1) m8) = w20 at H20 t2 ⊢;have zf2 : w20.frozen? ⟨w3.heap.size + 1 + 1 + 1, 0, none⟩ = false := by simp [World.frozen?, t2]
  have zc2 : w20.cell? ⟨w3.heap.size + 1 + 1 + 1, 0, none⟩ = some (.slice a2 n m2) := by simp [World.cell?, t2]
  have hX21 : Ext (· = w3.heap.size + 1 + 1 + 1) w20 (w20.setCell ⟨w3.heap.size + 1 + 1 + 1, 0, none⟩ (.slice a19 ((pre.map Prod.snd).length + 1) m19)) := Ext.setCell (S := (· = w3.heap.size + 1 + 1 + 1)) (p := ⟨w3.heap.size + 1 + 1 + 1, 0, none⟩) rfl _;have t3 := yB (j := 0) t2 (.slice a19 ((pre.map Prod.snd).length + 1) m19);have t4 := (hX21.block _ (zI H20.out.2.1) (by omega)).trans H20.out.2.1;have H21 := zB (zC hX21 (zC t3 t4));clear hX21 t3 t4 t2
  gi_wp2_with fail
  rw [hnl2] at H21;have h19 := HSS.out.2.1;have hd19 := HSS.out.2.2.1;rw [hnl2] at h19 hd19;exact opI_step (by omega) (by have := HI0.out.2.2.2.2.2.2.2; omega) HK.out.2.2.2.2.2.2.2.2.1 HK.out.1 HK.out.2.1 HK.out.2.2.1 HK.out.2.2.2.1 Hn.out HK.out.2.2.2.2.2.1 HK.out.2.2.2.2.2.2.2.2.2 HK.out.2.2.2.2.2.2.1 HK.out.2.2.2.2.2.2.2.1 hU HSS.out.2.2.2 HSS.out.1 h19 hd19 H20.out.1 H21.out.1 H21.out.2.2 H21.out.2.1
 case stop =>
  rintro D c pre W hD hpre h;exact h.elim
 case done =>
  rintro D zs W hD hS hI hK;subst hA0;have hz : zs.length = es.length := by have := congrArg List.length hS; simpa using this
  have hz5 : w5.heap.size = w3.heap.size + 6 := HI0.out.2.2.2.2.2.2.2;have hw23 := HB3.out.2.size;have hBW : Below w2.heap.size w2 W := HI0.out.2.2.2.1.trans (hI.below.mono (by omega));have hLS := HS1.out.2.2.2.below hBW;have hl2 := HS1.out.2.2.2.lt;obtain ⟨v1, v2, k1, k2, k3, k4, k5, k6⟩ := hI.rows;rw [hz, Hlen.out.2] at k3 k4;have gt := (hI.below.block _ (by omega)).trans HI0.out.2.2.1;have gm := (hI.below.block _ (by omega : w3.heap.size < w3.heap.size + 1 + 1)).trans Hg.out.1;obtain ⟨q0, hq0⟩ : ∃ q0 : TBk, q0 = ⟨w3.heap.size + 1, w3.heap.size, .slice none 0 0, λ _ => .slice none 0 0⟩ := ⟨_, rfl⟩;have hqa : ∀ j, q0.all j -> j = w3.heap.size + 1 \/ j = w3.heap.size := λ j hj => by
   rw [hq0] at hj;rcases hj with h | h | h | ⟨i, h⟩
   . exact .inl h
   . exact .inr h
   . cases h
   . cases h
  have hqt : q0.t = w3.heap.size + 1 := by rw [hq0]
  have hT0 : sH W b1.d k.l q0 ⟨c, [], 0, 0, 0⟩ := by
   rw [HS1.out.1];subst hq0;exact { cells := gt, keys := World.ownsRow_nil _ _ _ _, map := PMap.new gm, vals := λ p hp => (by cases hp), rise := .nil, good := λ p hp => (by cases hp), ne1 := ⟨by simp, λ j hj => (by cases hj)⟩, ne2 := λ i j hj => (by cases hj) }
  obtain ⟨a2, m2, hv2, hm2, -⟩ := zP k4;have hrl : (wS ps css hv).length = K + (css.length + hv) := by rw [<- HH.out.2.1, List.length_map, Hlen.out.2]
  have hrecs : nH W q0.all v2 (wS ps css hv) := by
   refine ⟨a2, m2, by rw [hrl]; exact hv2, λ i rec hi => ?_⟩;rw [<- HH.out.2.1, List.getElem?_map] at hi;obtain ⟨e, he, rfl⟩ := Option.map_eq_some_iff.1 hi;have hil := (List.getElem?_eq_some_iff.1 he).1;obtain ⟨x, hx⟩ : ∃ x, zs[i]? = some x := ⟨_, List.getElem?_eq_getElem (by rw [hz]; exact hil)⟩;obtain ⟨h1, h2⟩ := k6 i x e hx he;have hn1 : 0 < K + (css.length + hv) := by omega
   obtain ⟨g, cp, hv3, hg1, -, -, -, hcl, -⟩ := xB k4 hn1;have hcc := hcl i (by omega);rw [List.getElem?_map, hx] at hcc;rw [hv3] at hv2;injection hv2 with hv2;refine ⟨g, 0, x.2, hv2.symm, by rw [Nat.zero_add]; exact hcc, h1, λ h => ?_, λ j hj => ⟨(h2 j hj).2.1.lt, λ h => ?_⟩⟩
   . have := hqa g h; omega
   . have h3 := hqa j h;have := (h2 j hj).1;omega
  have hTS : TSys W b1 x1 (N + 1) first size k L1 q0 ⟨c, [], 0, 0, 0⟩ := ⟨hLS, hT0, λ j hj => by
   have h3 := hqa j hj;exact ⟨λ e => by have := hl2 j (.inl e); omega, λ e => by have := hl2 j (.inr e); omega⟩, λ j hj => by
   have h3 := hqa j hj;have := HS1.out.2.2.2.sys.pkg.lt;omega⟩
  have hRP := replay_any b1.d k.l q0 ⟨c, [], 0, 0, 0⟩ v2 ps css hv W hT0 ⟨rfl, rfl⟩ (by have := HB3.out.1.le; show c <= _; omega) HH.out.2.2.1 HH.out.2.2.2.1 HH.out.2.2.2.2.1 (HH.out.2.2.2.2.2.1 c HB3.out.1) (by have := Hlen.out.1; omega) HH.out.2.2.2.2.2.2.1 hrecs (λ a' n' c' e => by rw [hv2] at e; injection e with e4 e5 e6; omega);rw [HK.out, hqt] at hRP;rw [hv2] at k2 hRP;have x2 : W.cell? ⟨w3.heap.size + 1 + 1 + 1, 0, none⟩ = some (.slice a2 (K + (css.length + hv)) m2) := by simp [World.cell?, k2]
  have HRP := zB hRP;have HD := zB (zC hK (zC hTS (zC k1 (zC k3 (zC hI.below hqa)))));have HSz := zB hS;clear hRP hTS hT0 hrecs hLS k1 k2 k3 k4 k5 k6 hI hK gt gm hS;have hDno : ¬ allB b1 k q0 D := λ h => by
   rcases h with h | h
   . have := hl2 D h; omega
   . have := hqa D h; omega
  have h10 : 10 <= w2.heap.size := HS1.out.2.2.2.sys.pkg.lt;have hHS := HS1.out.2.1;have HFIN := zB λ (x'' : Dsk) (N'' : Nat) (L'' : LogS) (T'' : TblS) (W' : World) hP => topen_fin (x'' := x'') (N'' := N'') (first := first) (size := size) (L'' := L'') (T'' := T'') (W' := W') HS1.out.1 HS1.out.2.1 HS1.out.2.2.1 hl2 hBW (λ j hj => by have := hqa j hj; omega) HD.out.1 hDno (by omega) h10 hP;rcases Nat.eq_zero_or_pos hv with hv0 | hv0
  . subst hv0
    gi_wp2_with fail
    refine ⟨trivial, callsIn_wide.2 (HRP.out.mono ?_)⟩;rintro e W2 ⟨rfl, hP⟩;have hF := HFIN.out _ _ _ _ W2 (HD.out.2.1.tabled hP);have HF := zB hF;clear hF hP
    gi_wp2_with fail
    refine ⟨by simp, .inl ⟨_, _, rfl, run_takeDeferred HF.out.1, ?_⟩⟩;refine ⟨.tuple #[.pointer (some ⟨w3.heap.size + 1, 0, none⟩), .int .i64 0], by simp [results, Tryz.f16, go_sem], ?_⟩;refine ⟨c, HB3.out.1, ?_⟩;rw [<- hqt];exact HF.out.2.1
  . have hne : hv ≠ 0 := by omega
    have hv1 : (0 : Int) < (hv : Int) := by omega
    gi_wp2_with fail
    refine ⟨trivial, callsIn_wide.2 (HRP.out.mono ?_)⟩;rintro e W2 ⟨rfl, hP⟩;have hTP := HD.out.2.1.tabled hP;have hXq := (show vX W b1.d k.l q0 _ _ W2 from hP);obtain ⟨qx, -, -, -, hXq, -⟩ := hXq;have hB1q : ¬ q0.all (w3.heap.size + 1 + 1) := λ h => by have := hqa _ h; omega
    have hnb : ∀ j, w5.heap.size <= j -> ¬ q0.all j := λ j hj h => by have := hqa _ h; omega
    have n1 := hXq.heap HD.out.2.2.1 hB1q;have n3 := xQ HD.out.2.2.2.1 hXq λ j hj => hnb j (HD.out.2.2.2.1.lt j hj).1;obtain ⟨ag, mg, hv1e, -, -, -, -, hcn, -⟩ := xB n3 (by omega);have hcx := hcn (K + css.length) (by omega);clear hcn;have hst : L1.starts[K + css.length]? = some (L1.starts.getD (K + css.length) 0) := by
     have h3 : K + css.length < L1.starts.length := by have h4 := Hlen.out.1; omega
     rw [List.getD_eq_getElem?_getD, List.getElem?_eq_getElem h3];rfl
    have hzst : zs.map Prod.fst = L1.starts := (show zs.map Prod.fst = es.map Prod.fst from HSz.out).trans HH.out.1.1;rw [hzst, iQ hst] at hcx;have hnl : L1.starts.getD (K + css.length) 0 <= 9223372036854775807 := by
     have h3 := (HH.out.2.2.2.2.2.2.2.1.low _ (List.mem_of_getElem? hst)).2;have h4 := HH.out.2.2.2.2.2.2.2.1.next;omega
    obtain ⟨nn, hnn⟩ : ∃ m, L1.starts.getD (K + css.length) 0 = m := ⟨_, rfl⟩;rw [hnn] at hcx hnl;have HNN := zB (show L1.starts[K + css.length]?.getD 0 = nn by rw [<- List.getD_eq_getElem?_getD]; exact hnn);rw [hv1e] at n1;have x1c : W2.cell? ⟨w3.heap.size + 1 + 1, 0, none⟩ = some (.slice (some ⟨ag, 0, none⟩) (K + (css.length + hv)) mg) := by simp [World.cell?, n1]
    have hnat : ((K : Int) + (css.length : Int)).toNat = K + css.length := by omega
    have hKn0 : (0 : Int) <= (K : Int) + (css.length : Int) := by omega
    have hKn : (K : Int) + (css.length : Int) < (K : Int) + ((css.length : Int) + (hv : Int)) := by omega
    obtain ⟨b2, k2, q2, hd2, hl2', ht2, ha2, hX2, hS2⟩ := hTP;have hliv := HH.out.2.2.2.2.2.1 c HB3.out.1 css.length (Nat.le_refl _);rw [List.take_length] at hliv;have hcle := HB3.out.1.le;have hck := mD b2 x1 (N + 1) first size k2 L1 q2 ⟨c, allP ps css, zU (allP ps css), 0, 0⟩ hv nn W2 hS2 rfl (show zU (allP ps css) <= 1073741824 by omega) HH.out.2.2.2.2.2.2.2.1 (by omega) HH.out.2.2.2.2.2.2.1 hnl;obtain ⟨r, hr⟩ : ∃ r, rG x1 first size L1 ⟨c, allP ps css, zU (allP ps css), 0, 0⟩ hv nn = r := ⟨_, rfl⟩;rw [hr, ht2, hqt] at hck;have HCK := zB hck;have H2 := zB (zC hd2 (zC hl2' (zC ht2 (zC ha2 (zC hX2 (zC hr hliv))))));clear hck hd2 hl2' ht2 ha2 hX2 hS2 hr hliv hst hnn hzst n1 n3 hXq hP hB1q hnb hcle hnl
    gi_wp2_with fail
    refine ⟨trivial, callsIn_wide.2 (HCK.out.mono ?_)⟩;rintro e W3 ⟨rfl, hP3⟩;obtain ⟨r1, r2, r3, r4⟩ := r;have hF := HFIN.out _ _ _ _ W3 (xF.trans H2.out.1 H2.out.2.1 H2.out.2.2.1 H2.out.2.2.2.1 H2.out.2.2.2.2.1 hP3);have HF := zB hF;clear hF hP3;have hrr := zB H2.out.2.2.2.2.2.1;by_cases hr4 : r4 = 0
    . subst hr4
      gi_wp2_with fail
      refine ⟨by simp, .inl ⟨_, _, rfl, run_takeDeferred HF.out.1, ?_⟩⟩;refine ⟨.tuple #[.pointer (some ⟨w3.heap.size + 1, 0, none⟩), .int .i64 0], by simp [results, Tryz.f16, go_sem], ?_⟩;refine ⟨c, HB3.out.1, ?_⟩;rw [HNN.out, hrr.out, if_pos rfl, <- hqt];have h9 := HF.out.2.1;rw [show N + 79 * yF (zU (allP ps css)) + 2 = N + 1 + 79 * yF (zU (allP ps css)) + 1 by omega];exact h9
    . have hnb4 : (r4 != 0) = true := by rw [bne, beq_eq_false_iff_ne.2 hr4]; rfl
      gi_wp2_with fail
      refine ⟨by simp, .inl ⟨_, _, rfl, run_takeDeferred HF.out.1, ?_⟩⟩;refine ⟨.tuple #[.pointer none, .int .i64 r4], by simp [results, Tryz.f16, go_sem], ?_⟩;refine ⟨c, HB3.out.1, ?_⟩;rw [HNN.out, hrr.out, if_neg hr4];have h9 := HF.out.2.2;rw [show N + 79 * yF (zU (allP ps css)) + 2 = N + 1 + 79 * yF (zU (allP ps css)) + 1 by omega];exact ⟨rfl, h9⟩
end Go.Proofs.YtbjofbhhnmehgaaGreatDoor.TT
namespace Go.Proofs.YtbjofbhhnmehgaaGreatDoor.TT
open Go.RowKit Go.RG Go.Hp Go.Proofs.YtbjofbhhnmehgaaGreatDoor
attribute [local go_sem] Oper.semAt_some
def kT (ps : List Pr) (hi : List Int) : Nat := if hi = [] then ps.length else posK (zS ps) hi
def walkR (ps : List Pr) (lo hi : List Int) : List Pr := (ps.take (kT ps hi)).drop (posK (zS ps) lo)
def oI (w : World) (B : Nat) (v : Value) (xs : List Value) : Prop := ∃ g c C, v = .slice (some ⟨g, 0, none⟩) xs.length c /\ B <= g /\ w.heap[g]? = some (.cells C 5 (C.size, C.size + 1)) /\ C.size = c /\ xs.length <= c /\ C.toList.take xs.length = xs
theorem oI.src {w : World} {B : Nat} {v : Value} {xs : List Value} (h : oI w B v xs) : Src w v xs := by
 obtain ⟨g, c, C, rfl, h2, h3, h4, h5, h6⟩ := h;refine .inl ⟨g, 0, c, rfl, h5, λ j u hu => ?_⟩;rw [Nat.zero_add, World.cell?, h3];have hj := (List.getElem?_eq_some_iff.1 hu).1;rw [<- h6, List.getElem?_take_of_lt hj] at hu;simpa using hu
theorem oI.cells {w : World} {B : Nat} {v : Value} {xs : List Value} (h : oI w B v xs) {j : Nat} (hj : v.ownBlock = some j) : B <= j /\ wR w j := by
 obtain ⟨g, c, C, rfl, h2, h3, -⟩ := h;obtain rfl := Option.some.inj hj;exact ⟨h2, _, h3, rfl⟩
theorem oI.base {w : World} {B B' : Nat} {v : Value} {xs : List Value} (h : oI w B v xs) (hB : B' <= B) : oI w B' v xs := by
 obtain ⟨g, c, C, h1, h2, h3⟩ := h;exact ⟨g, c, C, h1, Nat.le_trans hB h2, h3⟩
theorem conv_row (s : List Int) (w : World) (hb : zO s) : ∃ u W, Sem.run Tryz.prog (convert 9 52 (.string (strOfNums s))) w = .ok u W /\ oI W w.heap.size u (u8s s) /\ Below w.heap.size w W /\ ∃ g c, u = .slice (some ⟨g, 0, none⟩) s.length c := by
 have hge : s.length <= grownCap w (strOfNums s).size 0 5 := by
  have := grownCap_ge w (strOfNums s).size 0 5;rw [strOfNums_size] at this ⊢;omega
 have hsz : (Lib.bytesCells w 5 (strOfNums s)).size = grownCap w (strOfNums s).size 0 5 := by
  unfold Lib.bytesCells;simp [strOfNums_size] at hge ⊢;omega
 refine ⟨_, _, Lib.run_convert_string_bytes w 9 52 5 (strOfNums s) vZ xW (by kernel_rfl), ⟨w.heap.size, _, _, by rw [strOfNums_size, zH], Nat.le_refl _, Lib.bytesWorld_at_new w 5 (strOfNums s), by rw [hsz, strOfNums_size], ?_, ?_⟩, ⟨rfl, rfl, rfl, by rw [Lib.bytesWorld_size]; omega, λ k hk => Lib.bytesWorld_at_old _ _ _ _ hk⟩, ⟨_, _, by rw [strOfNums_size]⟩⟩
 . rw [zH];simpa [strOfNums_size] using hge
 . refine List.ext_getElem? λ j => ?_;rcases Nat.lt_or_ge j s.length with hj | hj
   . have h1 := Lib.bytesWorld_cell w 5 (strOfNums s) j (by rw [strOfNums_size]; exact hj);rw [World.cell?, Lib.bytesWorld_at_new] at h1;rw [List.getElem?_take_of_lt (by rw [zH]; exact hj)];have h2 : (Lib.bytesCells w 5 (strOfNums s))[j]? = some (.int .u8 ((strOfNums s).data.toList.getD j 0).toNat) := by simpa using h1
     rw [Array.getElem?_toList, h2];have h3 := hb _ (List.getElem_mem hj);simp [u8s, strOfNums_data, List.getD, hj];omega
   . rw [List.getElem?_eq_none (by rw [List.length_take, zH]; omega), List.getElem?_eq_none (by rw [zH]; exact hj)]
theorem make_rows (n : Nat) (hn : n <= 500000000) (w : World) : Sem.run Tryz.prog (Instr.makeSlice 66 (.int .i64 n) (.int .i64 n)) w = .ok (.slice (some ⟨w.heap.size, 0, none⟩) n n) (w.alloc (.cells (List.replicate n (.slice none 0 0)).toArray 52)) := by
 obtain ⟨i0, hi, hz0, hz1, hz2⟩ := info_parts info_bytes;have := run_make (P := Tryz.prog) w 66 52 i0 (.slice none 0 0) und_recs hi hz0 .i64 .i64 (n : Int) (n : Int) (by omega) (by omega) (by rw [hz2]; omega) (by omega);rw [hz1] at this;simp only [Int.toNat_natCast, Nat.mul_one] at this;have h2 := toList_madeCells_one (.slice none 0 0) n;have h3 : madeCells (Value.slice none 0 0).cells n = (List.replicate n (Value.slice none 0 0)).toArray := by
  rw [<- Array.toList_inj];exact h2
 rw [h3] at this;exact this
theorem pair_val {ps : List Pr} (hr : yQ (zS ps)) {p : Pr} (hp : p ∈ ps) : valP ps p.1 = p.2 := by
 obtain ⟨v, -, hm, hv⟩ := rA hr (tP hp);rw [hv];exact rA.snd_of_nodup (wO hr) hm hp
structure mG (w : World) (B gv n : Nat) (qs : List Pr) (vs : List Value) : Prop where
 row : Row w gv 52 (vs ++ List.replicate (n - vs.length) (.slice none 0 0))
 own : ∀ (i : Nat) (p : Pr) (v : Value), qs[i]? = some p -> vs[i]? = some v -> w.ownsRow B 5 1 v p.2.length (u8s p.2)
 ne : ∀ (i j : Nat) (v u : Value) (k : Nat), i < j -> vs[i]? = some v -> vs[j]? = some u -> v.ownBlock = some k -> u.ownBlock ≠ some k
 ng : ∀ v ∈ vs, v.ownBlock ≠ some gv
theorem mG.below {w w' : World} {B gv n : Nat} {qs : List Pr} {vs : List Value} (h : mG w B gv n qs vs) (hb : Below w.heap.size w w') : mG w' B gv n qs vs :=
 ⟨h.row.below hb, λ i p v h1 h2 => yA (h.own i p v h1 h2) hb, h.ne, h.ng⟩
theorem mG.put {w w1 : World} {B gv n : Nat} {qs : List Pr} {vs : List Value} {p : Pr} {v : Value} (h : mG w B gv n qs vs) (hl : vs.length < n) (hq : n <= qs.length) (hp : qs[vs.length]? = some p) (hb : Below w.heap.size w w1) (hB : B <= w.heap.size) (hgv : B <= gv) (hv : w1.ownsRow w.heap.size 5 1 v p.2.length (u8s p.2)) :
 mG (w1.setCell ⟨gv, vs.length, none⟩ v) B gv n qs (vs ++ [v]) := by
 have h1 := h.below hb;have hgw : gv < w.heap.size := zI h.row;have hX : Ext (· = gv) w1 (w1.setCell ⟨gv, vs.length, none⟩ v) := Ext.setCell (S := (· = gv)) (p := ⟨gv, vs.length, none⟩) rfl _;have hvn : ∀ k, v.ownBlock = some k -> w.heap.size <= k := λ k hk => (hv.lt k hk).1;refine ⟨?_, λ i p' u h2 h3 => ?_, λ i j u u' k hij h2 h3 h4 => ?_, λ u hu => ?_⟩
 . have hs := yB (j := vs.length) h1.row v;show (w1.setCell ⟨gv, vs.length, none⟩ v).heap[gv]? = _;rw [hs]
   congr 2
   rw [List.setIfInBounds_toArray]
   congr 1
   rw [List.set_append_right _ _ (Nat.le_refl _), Nat.sub_self, List.append_assoc]
   congr 1
   rw [List.length_append, List.length_singleton, show n - vs.length = (n - (vs.length + 1)) + 1 by omega, List.replicate_succ];rfl
 . rcases Nat.lt_or_ge i vs.length with hi | hi
   . rw [List.getElem?_append_left hi] at h3;have hne := h.ng u (List.mem_of_getElem? h3);exact xQ (h1.own i p' u h2 h3) hX λ k hk e => hne (e ▸ hk)
   . have : i = vs.length := by
      have := (List.getElem?_eq_some_iff.1 h3).1;simp at this;omega
     subst this;rw [List.getElem?_append_right (Nat.le_refl _), Nat.sub_self] at h3;simp at h3;subst h3;rw [hp] at h2;injection h2 with h2;subst h2;exact yC (xQ hv hX λ k hk e => by have := hvn k hk; omega) λ k hk => Nat.le_trans hB (hvn k hk)
 . have hj := (List.getElem?_eq_some_iff.1 h3).1;simp at hj;rw [List.getElem?_append_left (by omega)] at h2;rcases Nat.lt_or_ge j vs.length with hjl | hjl
   . rw [List.getElem?_append_left hjl] at h3;exact h.ne i j u u' k hij h2 h3 h4
   . have : j = vs.length := by omega
     subst this;rw [List.getElem?_append_right (Nat.le_refl _), Nat.sub_self] at h3;simp at h3;subst h3;have h5 := xD (h.own i _ u (List.getElem?_eq_getElem (by omega)) h2) h4;exact λ e => by have := hvn k e; omega
 . rcases List.mem_append.1 hu with hu | hu
   . exact h.ng u hu
   . rw [List.mem_singleton.1 hu];exact λ e => by have := hvn gv e; omega
def WalkOk (Pr' : World -> Nat -> Prop) (B : Nat) (qs : List Pr) (pre : List (Value × Value)) (x : Value × Value) (W : World) : Prop :=
 ∃ p, qs[pre.length]? = some p /\ oI W B x.1 (u8s p.1) /\ W.ownsRow B 5 1 x.2 p.2.length (u8s p.2) /\ (∀ j, x.1.ownBlock = some j \/ x.2.ownBlock = some j -> Pr' W j) /\ (∀ j, x.1.ownBlock = some j -> x.2.ownBlock ≠ some j) /\
  ∀ y ∈ pre, ∀ j, y.1.ownBlock = some j \/ y.2.ownBlock = some j -> x.1.ownBlock ≠ some j /\ x.2.ownBlock ≠ some j
theorem walk_seq (m : Nat) (d l : Nat) (q : TBk) (T : TblS) (lo hi : List Int) (w : World) (h : sH w d l q T) (hlo : zO lo) (hhi : zO hi) (hsum : zU T.ps <= 1000000000) (Bt Bl Bh : Nat) (hbt : w.cell? ⟨Bt, 0, none⟩ = some (.pointer (some ⟨q.t, 0, none⟩)))
 (hbl : w.cell? ⟨Bl, 0, none⟩ = some (.string (strOfNums lo))) (hbh : w.cell? ⟨Bh, 0, none⟩ = some (.string (strOfNums hi))) (inv : World -> Prop) (Pr' : World -> Nat -> Prop) (hG : GuardX inv Pr') (hn0 : inv w) :
 SeqX Fence.wide m Tryz.prog 67 #[.pointer (some ⟨Bt, 0, none⟩), .pointer (some ⟨Bl, 0, none⟩), .pointer (some ⟨Bh, 0, none⟩)] (λ x : Value × Value => #[x.1, x.2]) (λ x => pJ inv Pr' (λ j => x.1.ownBlock = some j \/ x.2.ownBlock = some j))
  (λ xs => xs.length = (walkR T.ps lo hi).length) (λ _ => True) (WalkOk Pr' w.heap.size (walkR T.ps lo hi)) w := by
 intro l' J Jx W hW hJ hJx hY hJ0;have hx := zG hW hbt;have hxl := zG hW hbl;have hxh := zG hW hbh;have hT := h.below hW;have hl2 := uY T.ps;obtain ⟨n, hn⟩ : ∃ n, T.ps.length = n := ⟨_, rfl⟩;have hcs := hT.cs;obtain ⟨-, -, -, c3, c4, -⟩ := hcs;have hks := hT.keys;have hkl : (zS T.ps).length = n := by rw [xM, hn]
 rw [hkl] at hks;obtain ⟨sa, sc, hqs, hsc, -⟩ := zP hks;rw [hqs] at c4 hks;have HKS := zB hks;have HT := zB hT;have Hn := zB (zC hn hkl);have hgood : ∀ k ∈ zS T.ps, zO k := λ k hk => by obtain ⟨v, hv⟩ := uG hk; exact (hT.good _ hv).1
 have hrise := hT.rise;have hn9 : n <= 500000000 := by omega
 have HBS := zB λ (x : List Int) (hxb : zO x) (W' : World) (hW' : Below W.heap.size W W') => qY (.slice sa n sc) (zS T.ps) hrise hgood x hxb W' (Src.of_owns (yA hks hW')) (by rw [hkl]; omega);have HY := zB hY;have HJ0 := zB hJ0;have hpl := posK_le (zS T.ps) lo;rw [hkl] at hpl;obtain ⟨at', hat⟩ : ∃ a, posK (zS T.ps) lo = a := ⟨_, rfl⟩;rw [hat] at hpl;have Hat := zB hat;clear h hT hbt hbl hbh hY hJ0 hks hqs hn hkl hat hgood hrise;refine callsIn_wide.2 ?_;show Calls Tryz.prog 67 #[.func (.yield l') #[] #[], .pointer (some ⟨Bt, 0, none⟩), .pointer (some ⟨Bl, 0, none⟩), .pointer (some ⟨Bh, 0, none⟩)] W _;go_enter Tryz.func67, Tryz.ntmps67
 go_wp2_with fail
 refine zY (λ i => if i = 5 then some (λ v _ => v = .tuple #[.int .i64 at', .bool (decide (lo ∈ zS T.ps))]) else none) fol (by kernel_rfl) (λ W2 hW2 hh => ?_);clear hh;have q1 := zV hW2 hx;have q2 := zV hW2 hxl;have q4 := zV hW2 c4
 repeat ((first | refine zL _ (by first | exact .inl rfl | exact .inr rfl) rfl rfl ?_ | (refine zJ ?_ rfl rfl (λ w1 hb1 hf1 => ?_) ?_; rotate_left; (go_simp; (try simp (disch := omega) only [zE, toNatUp, iteOmega]); (try go_simp); rfl)) | refine zM rfl ?_); simp only [zD])
 refine zW _ rfl (λ _ _ _ h _ => h) rfl (λ w1 hb1 hf1 => ?_) ?_
 . have hb1' := hb1
   (unfold yE; go_simp; simp only [zN])
   refine (HBS.out lo hlo _ (zF hW2 hb1')).mono ?_;rintro e w' ⟨rfl, hB⟩;rw [Hat.out];exact ⟨_, rfl, hB, rfl⟩
 rintro v3 W3 hB3 rfl;simp only [zD]
 repeat ((first | refine zL _ (by first | exact .inl rfl | exact .inr rfl) rfl rfl ?_ | (refine zJ ?_ rfl rfl (λ w1 hb1 hf1 => ?_) ?_; rotate_left; (go_simp; (try simp (disch := omega) only [zE, toNatUp, iteOmega]); (try go_simp); rfl)) | refine zM rfl ?_); simp only [zD])
 refine zZ ?_;have hBW := zF hW2 hB3;have hx := zG hBW hx;have hxh := zG hBW hxh;have c4 := zG hBW c4;have c3 := zG hBW c3;have HBW := zB hBW;clear q1 q2 q4 hW2 hB3 hBW hxl;by_cases hhe : hi = []
 . have hem : (strOfNums hi).toList.isEmpty = true := by rw [hhe]; simp [strOfNums, ByteArray.toList_eq]
   have hen : kT T.ps hi = n := by unfold kT; rw [if_pos hhe]; exact Hn.out.1
   have Hen := zB hen;clear hen hhe;by_cases hae : at' < n
   . have hae1 : ¬ (n : Int) <= (at' : Int) := by omega
     have hae2 : ¬ n <= at' := by omega
     go_wp2_with fail
     have hnn := Nat.le_refl n;obtain ⟨gs, sc0, hsl, -, -, -, -, hkc, -⟩ := xB HKS.out (by omega);injection hsl with hsl1 _ hsl3;subst hsl1 hsl3;obtain ⟨N, hN⟩ : ∃ N, n - at' = N := ⟨_, rfl⟩;obtain ⟨qs, hqs⟩ : ∃ qs, walkR T.ps lo hi = qs := ⟨_, rfl⟩;have hqe : qs = (T.ps.take n).drop at' := by rw [<- hqs]; unfold walkR; rw [Hen.out, Hat.out]
     have hqg : ∀ i, i < N -> qs[i]? = T.ps[at' + i]? := λ i hi => by rw [hqe, List.getElem?_drop, List.getElem?_take_of_lt (by omega)]
     have hql : qs.length = N := by rw [hqe, List.length_drop, List.length_take, Hn.out.1, Nat.min_eq_left hnn, hN]
     have hkql : (zS qs).length = N := by rw [xM, hql]
     have hCl := SS.clone_any ⟨gs, at', none⟩ N (sc - at') (strs (zS qs)) (by rw [rL, hkql, Nat.mul_one]) (iI _) (by omega) W3 (λ j u hu => by
      have hj := (List.getElem?_eq_some_iff.1 hu).1;rw [rL, hkql] at hj;have h1 := hkc (at' + j) (by omega);have h2 : (strs (zS T.ps))[at' + j]? = (strs (zS qs))[j]? := by
       unfold strs zS;rw [List.getElem?_map, List.getElem?_map, List.getElem?_map, List.getElem?_map, hqg j hj]
      rw [h2, hu] at h1;rw [Addr.add_lit];exact zG HBW.out h1)
     have HQ := zB (zC hqs (zC hqg (zC hql hkql)));have HCl := zB hCl;have hqm : ∀ p ∈ qs, p ∈ T.ps := λ p hp => by
      rw [hqe] at hp;exact List.mem_of_mem_take (List.mem_of_mem_drop hp)
     have HQM := zB hqm;have hN9 : N <= 500000000 := by omega
     have hN0 : 0 < N := by omega
     have HNN := zB hN;have hMk := λ W' => make_rows N hN9 W';clear hCl hkc hqs hqe hqg hql hkql hqm c4 hN;simp only [Option.map_some, Addr.add_lit, Nat.zero_add];rw [HNN.out];refine HCl.out.mono ?_;rintro e w6 ⟨vk, rfl, hok, -, hB6⟩;obtain ⟨ka, kc, rfl, -⟩ := zP hok;have hb7 := zQ w6 (.cells (List.replicate N (.slice none 0 0)).toArray 52);have g7 := World.alloc_heap_new w6 (.cells (List.replicate N (.slice none 0 0)).toArray 52);have hx0 := hx;have hx := zG hb7 (zG hB6 hx);have c3 := zG hb7 (zG hB6 c3);have hB67 := zF hB6 hb7;have hok7 := yA hok hb7;have hs7 : w6.heap.size < (w6.alloc (.cells (List.replicate N (.slice none 0 0)).toArray 52)).heap.size := by simp
     have HMK := zB (hMk w6);have hK6 : ∀ j, (Value.slice ka N kc).ownBlock = some j -> j < w6.heap.size := λ j hj => xD hok hj;have hsz6 := hB6.size;have hbt6 : Bt < w6.heap.size := Nat.lt_of_lt_of_le (Nat.lt_of_lt_of_le (block_lt_of_cell hx0) hsz6) (Nat.le_refl _);clear hMk HCl hb7 hB6 hok hx0;obtain ⟨w7, hw7⟩ : ∃ w7, w6.alloc (.cells (List.replicate N (.slice none 0 0)).toArray 52) = w7 := ⟨_, rfl⟩;rw [hw7] at g7 hx c3 hB67 hok7 hs7 HMK;obtain ⟨gv, hgv⟩ : ∃ g, w6.heap.size = g := ⟨_, rfl⟩;rw [hgv] at g7 hs7 HMK;clear hw7;have hB7 : Below W.heap.size W w7 := HBW.out.trans (hB67.mono HBW.out.size);have hkb : ∀ j, (Value.slice ka N kc).ownBlock = some j -> j < gv := λ j hj => by rw [<- hgv]; exact hK6 j hj
     have hWg : W.heap.size <= gv := by rw [<- hgv]; exact Nat.le_trans HBW.out.size hsz6
     have HB7 := zB (zC hB7 hok7);have HG7 := zB (show mG w7 gv gv N qs [] from ⟨by simpa [Row] using g7, λ i p v h1 h2 => by simp at h2, λ i j v u k h1 h2 => by simp at h2, λ v hv => (by cases hv)⟩);have hbtn : Bt < gv := by rw [<- hgv]; exact hbt6
     have hqtn : q.t < gv := by have := HT.out.lt q.t (.inl rfl); omega
     clear hB7 hok7 hB67 hK6 hsz6 hbt6 g7
     go_wp2_with (simp only [HMK.out])
     go_loopw [57] (λ vi wr => ∃ (i : Nat) (vs : List Value), vi = .int .i64 i /\ i <= N /\ vs.length = i /\ mG wr gv gv N qs vs /\ Ext (· = gv) w7 wr) (λ vi _ => N - (intOf vi).toNat)
     case atStart => exact ⟨0, [], rfl, Nat.zero_le _, rfl, HG7.out, Ext.refl _ _⟩
     case round =>
      obtain ⟨i, vs, rfl, hi, hvl, hVs, hXr⟩ := hrel;have hVs0 := hVs.row;have hBr : Below W.heap.size W wr := HB7.out.1.trans (hXr.to_belowAt HB7.out.1.size λ k hk e => by omega);by_cases hiN : i < N
      . have hiN' : (i : Int) < (N : Int) := by omega
        obtain ⟨p, hp⟩ : ∃ p, qs[i]? = some p := ⟨_, List.getElem?_eq_getElem (by rw [HQ.out.2.2.1]; exact hiN)⟩;have hpm := HQM.out p (List.mem_of_getElem? hp);obtain ⟨kg, kcc, hsl, -, -, -, -, hkc, -⟩ := xB HB7.out.2 hN0;injection hsl with hsl1 _ hsl3;subst hsl1 hsl3;have hks := hkc i (by omega);rw [pR (show (zS qs)[i]? = some p.1 by unfold zS; rw [List.getElem?_map, hp]; rfl)] at hks;have hkg : kg < gv := hkb kg rfl;have hks := hXr.cell_some hks (by show kg ≠ gv; omega);have hxr := hXr.cell_some hx (by show Bt ≠ gv; omega);have c3r := hXr.cell_some c3 (by show q.t ≠ gv; omega);have hTr := HT.out.below hBr;obtain ⟨hkbs, hvbs, hkl1, hvl1⟩ := HT.out.good p hpm;have hlk := hTr.map.look p.1 hkbs (by omega);have hval := hTr.val p.1;rw [pair_val HT.out.rise hpm] at hval;obtain ⟨va, vc, hsh, -⟩ := hval.shape;rw [hsh] at hval hlk;rw [zH] at hval hlk;have Hval := zB hval;have HV := zB (zC hVs (zC hXr (zC hBr (zC hp hvl))));have hgr := zI hVs.row;have hown0 : wr.ownsRow wr.heap.size 5 1 (.slice none 0 0) 0 [] := World.ownsRow_nil _ _ _ _;clear hval hsh hkc hVs hVs0 hXr hBr hTr hp hvl
        go_wp2_with (at_builtin; go_loud (refine xN rfl _ _ rfl wr.heap.size 0 _ _ [] (u8s p.2) rfl hown0 rfl Hval.out (yU _) (by rw [zH]; omega) (Nat.le_refl _) ?_; intro v2 w2 hown2 hg2; obtain ⟨ya, yc, rfl, -⟩ := zP hown2; have hrow2 := HV.out.1.row.below hg2; have hc2 : w2.cell? ⟨gv, i, none⟩ = some (.slice none 0 0) := (by rw [hrow2.cell, List.getElem?_append_right (by rw [HV.out.2.2.2.2]; exact Nat.le_refl _), HV.out.2.2.2.2, Nat.sub_self, List.getElem?_replicate, if_pos (by omega)]); have hf2 := hrow2.frozen i; have Hg2 := zB hg2; have Hown2 := zB hown2; clear hown2 hg2 hrow2))
        have hown := Hown2.out;rw [zH, Nat.zero_add, List.nil_append] at hown;have hput := HV.out.1.put (by rw [HV.out.2.2.2.2]; exact hiN) (by rw [HQ.out.2.2.1]; exact Nat.le_refl _) (by rw [HV.out.2.2.2.2]; exact HV.out.2.2.2.1) Hg2.out (by omega) (Nat.le_refl _) hown;rw [HV.out.2.2.2.2] at hput;refine ⟨⟨i + 1, vs ++ [.slice ya p.2.length yc], by simp, by omega, by rw [List.length_append, HV.out.2.2.2.2]; rfl, ?_, ?_⟩, ?_⟩
        . rw [zH];exact hput
        . exact (HV.out.2.1.trans (Ext.of_below (S := (· = gv)) Hg2.out) λ _ _ h => h).trans (Ext.setCell (S := (· = gv)) (p := ⟨gv, i, none⟩) rfl _) λ _ _ h => h
        . show N - ((i : Int) + 1).toNat < N - (i : Int).toNat;omega
      . obtain rfl : i = N := by omega
        have hiN' : ¬ (i : Int) < (i : Int) := by omega
        rw [hvl, Nat.sub_self, List.replicate_zero, List.append_nil] at hVs0
        go_wp2_with fail
        generalize wr = wA at *;have hinvW := (hG.fresh w W hn0 hW).1;have hwA := hBr.size;have hownA : wA.ownsRow W.heap.size 9 1 (.slice ka i kc) i (strs (zS qs)) := yC (xQ HB7.out.2 hXr λ k hk e => by have := hkb k hk; omega) λ k hk => Nat.le_trans HBW.out.size (HB7.out.2.lt k hk).1;have hK0 : nI inv Pr' (λ k => (Value.slice ka i kc).ownBlock = some k \/ k = gv \/ ∃ j v, 0 <= j /\ vs[j]? = some v /\ v.ownBlock = some k) wA wA := by
         have hAB : ∀ k, ((Value.slice ka i kc).ownBlock = some k \/ k = gv \/ ∃ j v, 0 <= j /\ vs[j]? = some v /\ v.ownBlock = some k) -> W.heap.size <= k /\ wR wA k := λ k hk => by
          rcases hk with hk | rfl | ⟨j, v, -, hv, hk⟩
          . exact ⟨(hownA.lt k hk).1, sD hownA hk⟩
          . exact ⟨hWg, _, hVs.row, rfl⟩
          . obtain ⟨p, hp⟩ : ∃ p, qs[j]? = some p := ⟨_, List.getElem?_eq_getElem (by rw [HQ.out.2.2.1, <- hvl]; exact (List.getElem?_eq_some_iff.1 hv).1)⟩;have ho := hVs.own j p v hp hv;exact ⟨Nat.le_trans hWg (ho.lt k hk).1, sD ho hk⟩
         refine ⟨(hG.fresh W wA hinvW hBr).1, λ k hk => ?_, λ k hk => (hAB k hk).2.lt, λ _ _ => rfl⟩;obtain ⟨h1, o, h2, h3⟩ := hAB k hk;exact (hG.fresh W wA hinvW hBr).2.2 k o h1 h2 h3
        have hJr : J [] wA := qT hJ HJ0.out hBr;have HVs := zB (zC hVs (zC hvl (zC hownA hVs0)));clear hVs hvl hownA hVs0 c3 hx;refine (wpIn_wide (n := m)).1 ?_
        gi_loopw [75] (λ vi wr => ∃ (j : Nat) (pre : List (Value × Value)), vi = .int .i64 j /\ j <= i /\ pre.length = j /\ J pre wr /\ nI inv Pr' (λ k => (Value.slice ka i kc).ownBlock = some k \/ k = gv \/ ∃ j' v, j <= j' /\ vs[j']? = some v /\ v.ownBlock = some k) wA wr /\ wA.heap.size <= wr.heap.size /\
         ∀ (t : Nat) (y : Value × Value), pre[t]? = some y -> vs[t]? = some y.2 /\ ∀ k, y.1.ownBlock = some k -> wA.heap.size <= k /\ k < wr.heap.size) (λ vi _ => i - (intOf vi).toNat)
        case atStart => exact ⟨0, [], rfl, Nat.zero_le _, rfl, hJr, hK0, Nat.le_refl _, λ t y h => by simp at h⟩
        case round =>
         obtain ⟨j, pre, rfl, hj, hpl, hJ1, hK1, hsw, hpre⟩ := hrel;by_cases hji : j < i
         . have hji' : (j : Int) < (i : Int) := by omega
           obtain ⟨p, hp⟩ : ∃ p, qs[j]? = some p := ⟨_, List.getElem?_eq_getElem (by rw [HQ.out.2.2.1]; exact hji)⟩;obtain ⟨v, hv⟩ : ∃ v, vs[j]? = some v := ⟨_, List.getElem?_eq_getElem (by rw [HVs.out.2.1]; exact hji)⟩;have hpm := HQM.out p (List.mem_of_getElem? hp);obtain ⟨hkbs, -, hkl1, hvl1⟩ := HT.out.good p hpm;obtain ⟨kg, kcc, hsl, -, -, -, -, hkc, -⟩ := xB HVs.out.2.2.1 hN0;injection hsl with hsl1 _ hsl3;subst hsl1 hsl3;have hks := hkc j (by omega);rw [pR (show (zS qs)[j]? = some p.1 by unfold zS; rw [List.getElem?_map, hp]; rfl)] at hks;have hks := hK1.cell (b := kg) (.inl rfl) hks;have hvc : wA.cell? ⟨gv, j, none⟩ = some v := by
            have h1 := HVs.out.1.row.cell j;rw [h1, HVs.out.2.1, Nat.sub_self, List.replicate_zero, List.append_nil, hv]
           have hvc := hK1.cell (b := gv) (.inr (.inl rfl)) hvc;have hownv := HVs.out.1.own j p v hp hv;have hvA : ∀ k, v.ownBlock = some k -> (Value.slice (some ⟨kg, 0, none⟩) i kc).ownBlock = some k \/ k = gv \/ ∃ j' v', j <= j' /\ vs[j']? = some v' /\ v'.ownBlock = some k := λ k hk => .inr (.inr ⟨j, v, Nat.le_refl _, hv, hk⟩);have hownr : wr.ownsRow gv 5 1 v p.2.length (u8s p.2) := yJ hownv λ k hk => hK1.eq k (hvA k hk);obtain ⟨u, W1, hcv, hcr, hbc, gu, cu, rfl⟩ := conv_row p.1 wr hkbs;have hvc := zG hbc hvc;have hK2 := hK1.below hG hbc;have hJ2 := qT hJ hJ1 hbc;have hwW := hW.size;have hul : ∀ k, (Value.slice (some ⟨gu, 0, none⟩) p.1.length cu).ownBlock = some k -> wr.heap.size <= k := λ k hk => (hcr.cells hk).1;have hvlt : ∀ k, v.ownBlock = some k -> k < wA.heap.size := λ k hk => xD hownv hk;have hok : WalkOk Pr' w.heap.size qs pre (.slice (some ⟨gu, 0, none⟩) p.1.length cu, v) W1 := by
            refine ⟨p, by rw [hpl]; exact hp, hcr.base (by omega), yC (yA hownr hbc) λ k hk => ?_, λ k hk => ?_, λ k hk e => ?_, λ y hy k hk => ?_⟩
            . have := (hownr.lt k hk).1; omega
            . rcases hk with hk | hk
              . obtain ⟨h1, o, h2, h3⟩ := hcr.cells hk;exact (hG.fresh wr W1 hK1.lo hbc).2.2 k o h1 h2 h3
              . exact hK2.pr k (hvA k hk)
            . have h1 := hul k hk; have h2 := hvlt k e; omega
            . obtain ⟨t, ht⟩ := List.mem_iff_getElem?.1 hy;have htl := (List.getElem?_eq_some_iff.1 ht).1;obtain ⟨h1, h2⟩ := hpre t y ht;rcases hk with hk | hk
              . have h3 := h2 k hk;exact ⟨λ e => by have := hul k e; omega, λ e => by have := hvlt k e; omega⟩
              . have h4 : k < wA.heap.size := by
                 obtain ⟨p', hp'⟩ : ∃ p', qs[t]? = some p' := ⟨_, List.getElem?_eq_getElem (by rw [HQ.out.2.2.1]; omega)⟩;exact xD (HVs.out.1.own t p' y.2 hp' h1) hk
                exact ⟨λ e => by have := hul k e; omega, HVs.out.1.ne t j y.2 v k (by omega) h1 hv hk⟩
           rw [<- HQ.out.1] at hok;obtain ⟨fn, tmps, assign, body, hy, hR⟩ := HY.out _ _ _ hJ2 hok;have hKX : ∀ k, ((Value.slice (some ⟨kg, 0, none⟩) i kc).ownBlock = some k \/ k = gv \/ ∃ j' v', j + 1 <= j' /\ vs[j']? = some v' /\ v'.ownBlock = some k) -> ¬ ((Value.slice (some ⟨gu, 0, none⟩) p.1.length cu).ownBlock = some k \/ v.ownBlock = some k) := λ k hk e => by
            have hk2 : k < wr.heap.size := hK1.lt k (hk.imp id λ h => h.imp id λ ⟨j', v', h1, h2⟩ => ⟨j', v', by omega, h2⟩);rcases e with e | e
            . have := hul k e; omega
            . rcases hk with hk | rfl | ⟨j', v', h1, h2, h3⟩
              . have h4 := hkb k hk;have h5 := (hownv.lt k e).1;omega
              . exact HVs.out.1.ng v (List.mem_of_getElem? hv) e
              . exact HVs.out.1.ne j j' v v' k (by omega) hv h2 e h3
           have hpre2 : ∀ W5 : World, W1.heap.size <= W5.heap.size -> ∀ (t : Nat) (y : Value × Value), (pre ++ [(Value.slice (some ⟨gu, 0, none⟩) p.1.length cu, v)])[t]? = some y -> vs[t]? = some y.2 /\ ∀ k, y.1.ownBlock = some k -> wA.heap.size <= k /\ k < W5.heap.size := λ W5 hs5 t y ht => by
            have hbs := hbc.size;rcases Nat.lt_or_ge t pre.length with hl | hl
            . rw [List.getElem?_append_left hl] at ht;obtain ⟨h1, h2⟩ := hpre t y ht;exact ⟨h1, λ k hk => by have := h2 k hk; omega⟩
            . have : t = pre.length := by
               have := (List.getElem?_eq_some_iff.1 ht).1;simp at this;omega
              subst this;rw [List.getElem?_append_right (Nat.le_refl _), Nat.sub_self] at ht;simp at ht;subst ht;rw [hpl];exact ⟨hv, λ k hk => by have h1 := hul k hk; have h2 := (hcr.cells hk).2.lt; omega⟩
           have HK2 := zB (zC (hK2.mono (A' := λ k => (Value.slice (some ⟨kg, 0, none⟩) i kc).ownBlock = some k \/ k = gv \/ ∃ j' v', j + 1 <= j' /\ vs[j']? = some v' /\ v'.ownBlock = some k) λ k hk => hk.imp id λ h => h.imp id λ ⟨j', v', h1, h2⟩ => ⟨j', v', by omega, h2⟩) (zC hKX (zC hpre2 (zC hbc.size hpl))));obtain ⟨va, vc, rfl, -⟩ := zP hownr;dsimp only at hy;clear hKX hpre2 hK2 hJ2 hok hownr hownv hvA hul hvlt hcr hkc hK1 hpre hp hv hpl hJ1
           gi_wp2_with fail
           refine ⟨λ h => (by cases h), hR.mono ?_⟩;rintro e W5 (⟨rfl, hJ5, hk5, -⟩ | ⟨rfl, hJx5, -⟩)
           . gi_wp2_with fail
             go_roundw
             case rel => exact ⟨j + 1, pre ++ [(.slice (some ⟨gu, 0, none⟩) p.1.length cu, .slice va p.2.length vc)], by simp, by omega, by rw [List.length_append, HK2.out.2.2.2.2]; rfl, hJ5, HK2.out.1.keep hk5 HK2.out.2.1, by have h1 := HK2.out.2.2.2.1; have h2 := hk5.size; omega, HK2.out.2.2.1 W5 hk5.size⟩
             case measure =>
              show i - ((j : Int) + 1).toNat < i - (j : Int).toNat;omega
           . gi_wp2_with fail
             refine bodyPost_ret (results_none rfl _ _ _) rfl ?_;exact ⟨⟨_, rfl⟩, .inr ⟨_, trivial, hJx5⟩⟩
         . obtain rfl : j = i := by omega
           have hji' : ¬ (j : Int) < (j : Int) := by omega
           gi_wp2_with fail
           go_end0
           exact ⟨⟨_, rfl⟩, .inl ⟨pre, by rw [HQ.out.1, HQ.out.2.2.1]; exact hpl, hJ1⟩⟩
   . have hae1 : (n : Int) <= (at' : Int) := by omega
     have hae2 : n <= at' := by omega
     go_wp2_with fail
     refine bodyPost_ret (results_none rfl _ _ _) rfl ?_;refine ⟨⟨_, rfl⟩, .inl ⟨[], ?_, qT hJ HJ0.out HBW.out⟩⟩;unfold walkR;rw [Hen.out, Hat.out];simp;omega
 . have hem : (strOfNums hi).toList.isEmpty = false := by
    cases hi with
    | nil => exact absurd rfl hhe
    | cons x l => simp [strOfNums, ByteArray.toList_eq]
   have hpe := posK_le (zS T.ps) hi;rw [Hn.out.2] at hpe;obtain ⟨en, hen⟩ : ∃ e, posK (zS T.ps) hi = e := ⟨_, rfl⟩;have hen' : kT T.ps hi = en := by unfold kT; rw [if_neg hhe]; exact hen
   have Hen := zB hen';have Hpe := zB hen;rw [hen] at hpe;clear hen hen' hhe
   go_wp2_with fail
   refine zY (λ i => if i = 5 then some (λ v _ => v = .tuple #[.int .i64 en, .bool (decide (hi ∈ zS T.ps))]) else none) fol (by kernel_rfl) (λ W4 hW4 hh => ?_);clear hh;have q1 := zV hW4 hx;have q2 := zV hW4 hxh;have q4 := zV hW4 c4
   repeat ((first | refine zL _ (by first | exact .inl rfl | exact .inr rfl) rfl rfl ?_ | (refine zJ ?_ rfl rfl (λ w1 hb1 hf1 => ?_) ?_; rotate_left; (go_simp; (try simp (disch := omega) only [zE, toNatUp, iteOmega]); (try go_simp); rfl)) | refine zM rfl ?_); simp only [zD])
   refine zW _ rfl (λ _ _ _ h _ => h) rfl (λ w1 hb1 hf1 => ?_) ?_
   . have hb1' := hb1
     (unfold yE; go_simp; simp only [zN])
     refine (HBS.out hi hhi _ (zF HBW.out (zF hW4 hb1'))).mono ?_;rintro e w' ⟨rfl, hB⟩;rw [Hpe.out];exact ⟨_, rfl, hB, rfl⟩
   rintro v5 W5 hB5 rfl;simp only [zD]
   repeat ((first | refine zL _ (by first | exact .inl rfl | exact .inr rfl) rfl rfl ?_ | (refine zJ ?_ rfl rfl (λ w1 hb1 hf1 => ?_) ?_; rotate_left; (go_simp; (try simp (disch := omega) only [zE, toNatUp, iteOmega]); (try go_simp); rfl)) | refine zM rfl ?_); simp only [zD])
   refine zZ ?_;have hBW2 := zF hW4 hB5;have hx := zG hBW2 hx;have c4 := zG hBW2 c4;have c3 := zG hBW2 c3;have HBW := zB (zF HBW.out hBW2);clear q1 q2 q4 hW4 hB5 hBW2;by_cases hae : at' < en
   . have hae1 : ¬ (en : Int) <= (at' : Int) := by omega
     have hae2 : ¬ en <= at' := by omega
     go_wp2_with fail
     have hnn := hpe;obtain ⟨gs, sc0, hsl, -, -, -, -, hkc, -⟩ := xB HKS.out (by omega);injection hsl with hsl1 _ hsl3;subst hsl1 hsl3;obtain ⟨N, hN⟩ : ∃ N, en - at' = N := ⟨_, rfl⟩;obtain ⟨qs, hqs⟩ : ∃ qs, walkR T.ps lo hi = qs := ⟨_, rfl⟩;have hqe : qs = (T.ps.take en).drop at' := by rw [<- hqs]; unfold walkR; rw [Hen.out, Hat.out]
     have hqg : ∀ i, i < N -> qs[i]? = T.ps[at' + i]? := λ i hi => by rw [hqe, List.getElem?_drop, List.getElem?_take_of_lt (by omega)]
     have hql : qs.length = N := by rw [hqe, List.length_drop, List.length_take, Hn.out.1, Nat.min_eq_left hnn, hN]
     have hkql : (zS qs).length = N := by rw [xM, hql]
     have hCl := SS.clone_any ⟨gs, at', none⟩ N (sc - at') (strs (zS qs)) (by rw [rL, hkql, Nat.mul_one]) (iI _) (by omega) W5 (λ j u hu => by
      have hj := (List.getElem?_eq_some_iff.1 hu).1;rw [rL, hkql] at hj;have h1 := hkc (at' + j) (by omega);have h2 : (strs (zS T.ps))[at' + j]? = (strs (zS qs))[j]? := by
       unfold strs zS;rw [List.getElem?_map, List.getElem?_map, List.getElem?_map, List.getElem?_map, hqg j hj]
      rw [h2, hu] at h1;rw [Addr.add_lit];exact zG HBW.out h1)
     have HQ := zB (zC hqs (zC hqg (zC hql hkql)));have HCl := zB hCl;have hqm : ∀ p ∈ qs, p ∈ T.ps := λ p hp => by
      rw [hqe] at hp;exact List.mem_of_mem_take (List.mem_of_mem_drop hp)
     have HQM := zB hqm;have hN9 : N <= 500000000 := by omega
     have hN0 : 0 < N := by omega
     have HNN := zB hN;have hMk := λ W' => make_rows N hN9 W';clear hCl hkc hqs hqe hqg hql hkql hqm c4 hN;simp only [Option.map_some, Addr.add_lit, Nat.zero_add];rw [HNN.out];refine HCl.out.mono ?_;rintro e w6 ⟨vk, rfl, hok, -, hB6⟩;obtain ⟨ka, kc, rfl, -⟩ := zP hok;have hb7 := zQ w6 (.cells (List.replicate N (.slice none 0 0)).toArray 52);have g7 := World.alloc_heap_new w6 (.cells (List.replicate N (.slice none 0 0)).toArray 52);have hx0 := hx;have hx := zG hb7 (zG hB6 hx);have c3 := zG hb7 (zG hB6 c3);have hB67 := zF hB6 hb7;have hok7 := yA hok hb7;have hs7 : w6.heap.size < (w6.alloc (.cells (List.replicate N (.slice none 0 0)).toArray 52)).heap.size := by simp
     have HMK := zB (hMk w6);have hK6 : ∀ j, (Value.slice ka N kc).ownBlock = some j -> j < w6.heap.size := λ j hj => xD hok hj;have hsz6 := hB6.size;have hbt6 : Bt < w6.heap.size := Nat.lt_of_lt_of_le (Nat.lt_of_lt_of_le (block_lt_of_cell hx0) hsz6) (Nat.le_refl _);clear hMk HCl hb7 hB6 hok hx0;obtain ⟨w7, hw7⟩ : ∃ w7, w6.alloc (.cells (List.replicate N (.slice none 0 0)).toArray 52) = w7 := ⟨_, rfl⟩;rw [hw7] at g7 hx c3 hB67 hok7 hs7 HMK;obtain ⟨gv, hgv⟩ : ∃ g, w6.heap.size = g := ⟨_, rfl⟩;rw [hgv] at g7 hs7 HMK;clear hw7;have hB7 : Below W.heap.size W w7 := HBW.out.trans (hB67.mono HBW.out.size);have hkb : ∀ j, (Value.slice ka N kc).ownBlock = some j -> j < gv := λ j hj => by rw [<- hgv]; exact hK6 j hj
     have hWg : W.heap.size <= gv := by rw [<- hgv]; exact Nat.le_trans HBW.out.size hsz6
     have HB7 := zB (zC hB7 hok7);have HG7 := zB (show mG w7 gv gv N qs [] from ⟨by simpa [Row] using g7, λ i p v h1 h2 => by simp at h2, λ i j v u k h1 h2 => by simp at h2, λ v hv => (by cases hv)⟩);have hbtn : Bt < gv := by rw [<- hgv]; exact hbt6
     have hqtn : q.t < gv := by have := HT.out.lt q.t (.inl rfl); omega
     clear hB7 hok7 hB67 hK6 hsz6 hbt6 g7
     go_wp2_with (simp only [HMK.out])
     go_loopw [57] (λ vi wr => ∃ (i : Nat) (vs : List Value), vi = .int .i64 i /\ i <= N /\ vs.length = i /\ mG wr gv gv N qs vs /\ Ext (· = gv) w7 wr) (λ vi _ => N - (intOf vi).toNat)
     case atStart => exact ⟨0, [], rfl, Nat.zero_le _, rfl, HG7.out, Ext.refl _ _⟩
     case round =>
      obtain ⟨i, vs, rfl, hi, hvl, hVs, hXr⟩ := hrel;have hVs0 := hVs.row;have hBr : Below W.heap.size W wr := HB7.out.1.trans (hXr.to_belowAt HB7.out.1.size λ k hk e => by omega);by_cases hiN : i < N
      . have hiN' : (i : Int) < (N : Int) := by omega
        obtain ⟨p, hp⟩ : ∃ p, qs[i]? = some p := ⟨_, List.getElem?_eq_getElem (by rw [HQ.out.2.2.1]; exact hiN)⟩;have hpm := HQM.out p (List.mem_of_getElem? hp);obtain ⟨kg, kcc, hsl, -, -, -, -, hkc, -⟩ := xB HB7.out.2 hN0;injection hsl with hsl1 _ hsl3;subst hsl1 hsl3;have hks := hkc i (by omega);rw [pR (show (zS qs)[i]? = some p.1 by unfold zS; rw [List.getElem?_map, hp]; rfl)] at hks;have hkg : kg < gv := hkb kg rfl;have hks := hXr.cell_some hks (by show kg ≠ gv; omega);have hxr := hXr.cell_some hx (by show Bt ≠ gv; omega);have c3r := hXr.cell_some c3 (by show q.t ≠ gv; omega);have hTr := HT.out.below hBr;obtain ⟨hkbs, hvbs, hkl1, hvl1⟩ := HT.out.good p hpm;have hlk := hTr.map.look p.1 hkbs (by omega);have hval := hTr.val p.1;rw [pair_val HT.out.rise hpm] at hval;obtain ⟨va, vc, hsh, -⟩ := hval.shape;rw [hsh] at hval hlk;rw [zH] at hval hlk;have Hval := zB hval;have HV := zB (zC hVs (zC hXr (zC hBr (zC hp hvl))));have hgr := zI hVs.row;have hown0 : wr.ownsRow wr.heap.size 5 1 (.slice none 0 0) 0 [] := World.ownsRow_nil _ _ _ _;clear hval hsh hkc hVs hVs0 hXr hBr hTr hp hvl
        go_wp2_with (at_builtin; go_loud (refine xN rfl _ _ rfl wr.heap.size 0 _ _ [] (u8s p.2) rfl hown0 rfl Hval.out (yU _) (by rw [zH]; omega) (Nat.le_refl _) ?_; intro v2 w2 hown2 hg2; obtain ⟨ya, yc, rfl, -⟩ := zP hown2; have hrow2 := HV.out.1.row.below hg2; have hc2 : w2.cell? ⟨gv, i, none⟩ = some (.slice none 0 0) := (by rw [hrow2.cell, List.getElem?_append_right (by rw [HV.out.2.2.2.2]; exact Nat.le_refl _), HV.out.2.2.2.2, Nat.sub_self, List.getElem?_replicate, if_pos (by omega)]); have hf2 := hrow2.frozen i; have Hg2 := zB hg2; have Hown2 := zB hown2; clear hown2 hg2 hrow2))
        have hown := Hown2.out;rw [zH, Nat.zero_add, List.nil_append] at hown;have hput := HV.out.1.put (by rw [HV.out.2.2.2.2]; exact hiN) (by rw [HQ.out.2.2.1]; exact Nat.le_refl _) (by rw [HV.out.2.2.2.2]; exact HV.out.2.2.2.1) Hg2.out (by omega) (Nat.le_refl _) hown;rw [HV.out.2.2.2.2] at hput;refine ⟨⟨i + 1, vs ++ [.slice ya p.2.length yc], by simp, by omega, by rw [List.length_append, HV.out.2.2.2.2]; rfl, ?_, ?_⟩, ?_⟩
        . rw [zH];exact hput
        . exact (HV.out.2.1.trans (Ext.of_below (S := (· = gv)) Hg2.out) λ _ _ h => h).trans (Ext.setCell (S := (· = gv)) (p := ⟨gv, i, none⟩) rfl _) λ _ _ h => h
        . show N - ((i : Int) + 1).toNat < N - (i : Int).toNat;omega
      . obtain rfl : i = N := by omega
        have hiN' : ¬ (i : Int) < (i : Int) := by omega
        rw [hvl, Nat.sub_self, List.replicate_zero, List.append_nil] at hVs0
        go_wp2_with fail
        generalize wr = wA at *;have hinvW := (hG.fresh w W hn0 hW).1;have hwA := hBr.size;have hownA : wA.ownsRow W.heap.size 9 1 (.slice ka i kc) i (strs (zS qs)) := yC (xQ HB7.out.2 hXr λ k hk e => by have := hkb k hk; omega) λ k hk => Nat.le_trans HBW.out.size (HB7.out.2.lt k hk).1;have hK0 : nI inv Pr' (λ k => (Value.slice ka i kc).ownBlock = some k \/ k = gv \/ ∃ j v, 0 <= j /\ vs[j]? = some v /\ v.ownBlock = some k) wA wA := by
         have hAB : ∀ k, ((Value.slice ka i kc).ownBlock = some k \/ k = gv \/ ∃ j v, 0 <= j /\ vs[j]? = some v /\ v.ownBlock = some k) -> W.heap.size <= k /\ wR wA k := λ k hk => by
          rcases hk with hk | rfl | ⟨j, v, -, hv, hk⟩
          . exact ⟨(hownA.lt k hk).1, sD hownA hk⟩
          . exact ⟨hWg, _, hVs.row, rfl⟩
          . obtain ⟨p, hp⟩ : ∃ p, qs[j]? = some p := ⟨_, List.getElem?_eq_getElem (by rw [HQ.out.2.2.1, <- hvl]; exact (List.getElem?_eq_some_iff.1 hv).1)⟩;have ho := hVs.own j p v hp hv;exact ⟨Nat.le_trans hWg (ho.lt k hk).1, sD ho hk⟩
         refine ⟨(hG.fresh W wA hinvW hBr).1, λ k hk => ?_, λ k hk => (hAB k hk).2.lt, λ _ _ => rfl⟩;obtain ⟨h1, o, h2, h3⟩ := hAB k hk;exact (hG.fresh W wA hinvW hBr).2.2 k o h1 h2 h3
        have hJr : J [] wA := qT hJ HJ0.out hBr;have HVs := zB (zC hVs (zC hvl (zC hownA hVs0)));clear hVs hvl hownA hVs0 c3 hx;refine (wpIn_wide (n := m)).1 ?_
        gi_loopw [75] (λ vi wr => ∃ (j : Nat) (pre : List (Value × Value)), vi = .int .i64 j /\ j <= i /\ pre.length = j /\ J pre wr /\ nI inv Pr' (λ k => (Value.slice ka i kc).ownBlock = some k \/ k = gv \/ ∃ j' v, j <= j' /\ vs[j']? = some v /\ v.ownBlock = some k) wA wr /\ wA.heap.size <= wr.heap.size /\
         ∀ (t : Nat) (y : Value × Value), pre[t]? = some y -> vs[t]? = some y.2 /\ ∀ k, y.1.ownBlock = some k -> wA.heap.size <= k /\ k < wr.heap.size) (λ vi _ => i - (intOf vi).toNat)
        case atStart => exact ⟨0, [], rfl, Nat.zero_le _, rfl, hJr, hK0, Nat.le_refl _, λ t y h => by simp at h⟩
        case round =>
         obtain ⟨j, pre, rfl, hj, hpl, hJ1, hK1, hsw, hpre⟩ := hrel;by_cases hji : j < i
         . have hji' : (j : Int) < (i : Int) := by omega
           obtain ⟨p, hp⟩ : ∃ p, qs[j]? = some p := ⟨_, List.getElem?_eq_getElem (by rw [HQ.out.2.2.1]; exact hji)⟩;obtain ⟨v, hv⟩ : ∃ v, vs[j]? = some v := ⟨_, List.getElem?_eq_getElem (by rw [HVs.out.2.1]; exact hji)⟩;have hpm := HQM.out p (List.mem_of_getElem? hp);obtain ⟨hkbs, -, hkl1, hvl1⟩ := HT.out.good p hpm;obtain ⟨kg, kcc, hsl, -, -, -, -, hkc, -⟩ := xB HVs.out.2.2.1 hN0;injection hsl with hsl1 _ hsl3;subst hsl1 hsl3;have hks := hkc j (by omega);rw [pR (show (zS qs)[j]? = some p.1 by unfold zS; rw [List.getElem?_map, hp]; rfl)] at hks;have hks := hK1.cell (b := kg) (.inl rfl) hks;have hvc : wA.cell? ⟨gv, j, none⟩ = some v := by
            have h1 := HVs.out.1.row.cell j;rw [h1, HVs.out.2.1, Nat.sub_self, List.replicate_zero, List.append_nil, hv]
           have hvc := hK1.cell (b := gv) (.inr (.inl rfl)) hvc;have hownv := HVs.out.1.own j p v hp hv;have hvA : ∀ k, v.ownBlock = some k -> (Value.slice (some ⟨kg, 0, none⟩) i kc).ownBlock = some k \/ k = gv \/ ∃ j' v', j <= j' /\ vs[j']? = some v' /\ v'.ownBlock = some k := λ k hk => .inr (.inr ⟨j, v, Nat.le_refl _, hv, hk⟩);have hownr : wr.ownsRow gv 5 1 v p.2.length (u8s p.2) := yJ hownv λ k hk => hK1.eq k (hvA k hk);obtain ⟨u, W1, hcv, hcr, hbc, gu, cu, rfl⟩ := conv_row p.1 wr hkbs;have hvc := zG hbc hvc;have hK2 := hK1.below hG hbc;have hJ2 := qT hJ hJ1 hbc;have hwW := hW.size;have hul : ∀ k, (Value.slice (some ⟨gu, 0, none⟩) p.1.length cu).ownBlock = some k -> wr.heap.size <= k := λ k hk => (hcr.cells hk).1;have hvlt : ∀ k, v.ownBlock = some k -> k < wA.heap.size := λ k hk => xD hownv hk;have hok : WalkOk Pr' w.heap.size qs pre (.slice (some ⟨gu, 0, none⟩) p.1.length cu, v) W1 := by
            refine ⟨p, by rw [hpl]; exact hp, hcr.base (by omega), yC (yA hownr hbc) λ k hk => ?_, λ k hk => ?_, λ k hk e => ?_, λ y hy k hk => ?_⟩
            . have := (hownr.lt k hk).1; omega
            . rcases hk with hk | hk
              . obtain ⟨h1, o, h2, h3⟩ := hcr.cells hk;exact (hG.fresh wr W1 hK1.lo hbc).2.2 k o h1 h2 h3
              . exact hK2.pr k (hvA k hk)
            . have h1 := hul k hk; have h2 := hvlt k e; omega
            . obtain ⟨t, ht⟩ := List.mem_iff_getElem?.1 hy;have htl := (List.getElem?_eq_some_iff.1 ht).1;obtain ⟨h1, h2⟩ := hpre t y ht;rcases hk with hk | hk
              . have h3 := h2 k hk;exact ⟨λ e => by have := hul k e; omega, λ e => by have := hvlt k e; omega⟩
              . have h4 : k < wA.heap.size := by
                 obtain ⟨p', hp'⟩ : ∃ p', qs[t]? = some p' := ⟨_, List.getElem?_eq_getElem (by rw [HQ.out.2.2.1]; omega)⟩;exact xD (HVs.out.1.own t p' y.2 hp' h1) hk
                exact ⟨λ e => by have := hul k e; omega, HVs.out.1.ne t j y.2 v k (by omega) h1 hv hk⟩
           rw [<- HQ.out.1] at hok;obtain ⟨fn, tmps, assign, body, hy, hR⟩ := HY.out _ _ _ hJ2 hok;have hKX : ∀ k, ((Value.slice (some ⟨kg, 0, none⟩) i kc).ownBlock = some k \/ k = gv \/ ∃ j' v', j + 1 <= j' /\ vs[j']? = some v' /\ v'.ownBlock = some k) -> ¬ ((Value.slice (some ⟨gu, 0, none⟩) p.1.length cu).ownBlock = some k \/ v.ownBlock = some k) := λ k hk e => by
            have hk2 : k < wr.heap.size := hK1.lt k (hk.imp id λ h => h.imp id λ ⟨j', v', h1, h2⟩ => ⟨j', v', by omega, h2⟩);rcases e with e | e
            . have := hul k e; omega
            . rcases hk with hk | rfl | ⟨j', v', h1, h2, h3⟩
              . have h4 := hkb k hk;have h5 := (hownv.lt k e).1;omega
              . exact HVs.out.1.ng v (List.mem_of_getElem? hv) e
              . exact HVs.out.1.ne j j' v v' k (by omega) hv h2 e h3
           have hpre2 : ∀ W5 : World, W1.heap.size <= W5.heap.size -> ∀ (t : Nat) (y : Value × Value), (pre ++ [(Value.slice (some ⟨gu, 0, none⟩) p.1.length cu, v)])[t]? = some y -> vs[t]? = some y.2 /\ ∀ k, y.1.ownBlock = some k -> wA.heap.size <= k /\ k < W5.heap.size := λ W5 hs5 t y ht => by
            have hbs := hbc.size;rcases Nat.lt_or_ge t pre.length with hl | hl
            . rw [List.getElem?_append_left hl] at ht;obtain ⟨h1, h2⟩ := hpre t y ht;exact ⟨h1, λ k hk => by have := h2 k hk; omega⟩
            . have : t = pre.length := by
               have := (List.getElem?_eq_some_iff.1 ht).1;simp at this;omega
              subst this;rw [List.getElem?_append_right (Nat.le_refl _), Nat.sub_self] at ht;simp at ht;subst ht;rw [hpl];exact ⟨hv, λ k hk => by have h1 := hul k hk; have h2 := (hcr.cells hk).2.lt; omega⟩
           have HK2 := zB (zC (hK2.mono (A' := λ k => (Value.slice (some ⟨kg, 0, none⟩) i kc).ownBlock = some k \/ k = gv \/ ∃ j' v', j + 1 <= j' /\ vs[j']? = some v' /\ v'.ownBlock = some k) λ k hk => hk.imp id λ h => h.imp id λ ⟨j', v', h1, h2⟩ => ⟨j', v', by omega, h2⟩) (zC hKX (zC hpre2 (zC hbc.size hpl))));obtain ⟨va, vc, rfl, -⟩ := zP hownr;dsimp only at hy;clear hKX hpre2 hK2 hJ2 hok hownr hownv hvA hul hvlt hcr hkc hK1 hpre hp hv hpl hJ1
           gi_wp2_with fail
           refine ⟨λ h => (by cases h), hR.mono ?_⟩;rintro e W5 (⟨rfl, hJ5, hk5, -⟩ | ⟨rfl, hJx5, -⟩)
           . gi_wp2_with fail
             go_roundw
             case rel => exact ⟨j + 1, pre ++ [(.slice (some ⟨gu, 0, none⟩) p.1.length cu, .slice va p.2.length vc)], by simp, by omega, by rw [List.length_append, HK2.out.2.2.2.2]; rfl, hJ5, HK2.out.1.keep hk5 HK2.out.2.1, by have h1 := HK2.out.2.2.2.1; have h2 := hk5.size; omega, HK2.out.2.2.1 W5 hk5.size⟩
             case measure =>
              show i - ((j : Int) + 1).toNat < i - (j : Int).toNat;omega
           . gi_wp2_with fail
             refine bodyPost_ret (results_none rfl _ _ _) rfl ?_;exact ⟨⟨_, rfl⟩, .inr ⟨_, trivial, hJx5⟩⟩
         . obtain rfl : j = i := by omega
           have hji' : ¬ (j : Int) < (j : Int) := by omega
           gi_wp2_with fail
           go_end0
           exact ⟨⟨_, rfl⟩, .inl ⟨pre, by rw [HQ.out.1, HQ.out.2.2.1]; exact hpl, hJ1⟩⟩
   . have hae1 : (en : Int) <= (at' : Int) := by omega
     have hae2 : en <= at' := by omega
     go_wp2_with fail
     refine bodyPost_ret (results_none rfl _ _ _) rfl ?_;refine ⟨⟨_, rfl⟩, .inl ⟨[], ?_, qT hJ HJ0.out HBW.out⟩⟩;unfold walkR;rw [Hen.out, Hat.out];simp;omega
end Go.Proofs.YtbjofbhhnmehgaaGreatDoor.TT
namespace Go.RG
open Go.RowKit
def fwdB (ops : Array Oper) : Bool := (List.range ops.size).all λ i => match ops[i]? with
 | some o => o.after.all λ e => !Region.binds .any e || decide (e.on < i)
 | none => true
theorem fwd_all {ops : Array Oper} (h : fwdB ops = true) {listed : Array Bool} (hs : listed.size = ops.size) (hr : Region.ready .any ops listed = []) : ∀ j, j < ops.size -> listed.getD j true = true := by
 intro j
 induction j using Nat.strongRecOn with
 | _ j ih =>
  intro hj
  cases hb : listed.getD j true with
  | true => rfl
  | false =>
   exfalso
   have ho : ops[j]? = some ops[j] := Array.getElem?_eq_getElem hj;have : j ∈ Region.ready .any ops listed := by
    refine mem_ready.2 ⟨hb, _, ho, λ e he hbd => ?_⟩;have h1 := List.all_eq_true.1 h j (List.mem_range.2 hj);rw [ho] at h1;have h2 := Array.all_eq_true_iff_forall_mem.1 h1 e he;simp only [hbd, Bool.not_true, Bool.false_or, decide_eq_true_eq] at h2;have h3 := ih e.on h2 (by omega);rw [Array.getD_eq_getD_getElem?] at h3 ⊢;have h4 : e.on < listed.size := by omega
    simp [h4] at h3 ⊢;exact h3
   rw [hr] at this
   cases this
section
variable {P : Program} {Q : Exit -> Act -> World -> Prop} {ls : List Oper}
theorem wpAny_of_inv (I : (Nat -> Bool) -> Act -> World -> Prop) (hf : fwdB ls.toArray = true)
 (hstep : ∀ (L : Nat -> Bool) (a : Act) (w : World) (i : Nat) (o : Oper), I L a w -> L i = false -> ls[i]? = some o -> (∀ e ∈ o.after, Region.binds .any e = true -> L e.on = true) ->
  (Region.wanted o (yielded ls.toArray a.tmps) = true /\ yE P o a w λ v w' => I (λ j => decide (j = i) || L j) (a.put o.dst v) w') \/ (Region.wanted o (yielded ls.toArray a.tmps) = false /\ I (λ j => decide (j = i) || L j) (a.put o.dst undef) w))
 (hend : ∀ (L : Nat -> Bool) (a : Act) (w : World), I L a w -> (∀ j, j < ls.length -> L j = true) -> Q .normal a w) :
 ∀ (fuel : Nat) (listed : Array Bool) (a : Act) (w : World), listed.size = ls.length -> (listed.toList.count false) <= fuel -> I (λ j => listed.getD j false) a w -> wpAny P .any ls.toArray Q fuel listed a w := by
 have key : ∀ (listed : Array Bool) (a : Act) (w : World), listed.size = ls.length -> I (λ j => listed.getD j false) a w -> Region.ready .any ls.toArray listed = [] -> Q .normal a w := λ listed a w hs hI hr => by
  refine hend _ a w hI λ j hj => ?_;have := fwd_all hf (by simpa using hs) hr j (by simpa using hj);rw [Array.getD_eq_getD_getElem?] at this ⊢;have h4 : j < listed.size := by omega
  simp [h4] at this ⊢;exact this
 intro fuel
 induction fuel with
 | zero =>
  intro listed a w hs hc hI;have hr : Region.ready .any ls.toArray listed = [] := by
   rw [List.eq_nil_iff_forall_not_mem];intro j hj;obtain ⟨h1, -⟩ := mem_ready.1 hj;have h2 : listed.toList.count false = 0 := by omega
   rw [List.count_eq_zero] at h2;rw [Array.getD_eq_getD_getElem?] at h1;rcases Nat.lt_or_ge j listed.size with h | h
   . simp [h] at h1;exact h2 (by rw [<- h1]; simp)
   . simp [h] at h1
  exact ⟨hr, key listed a w hs hI hr⟩
 | succ fuel ih =>
  intro listed a w hs hc hI;refine ⟨λ hr => key listed a w hs hI hr, λ i hi => ?_⟩;obtain ⟨h1, o, ho, h2⟩ := mem_ready.1 hi;have hil : i < listed.size := by
   rcases Nat.lt_or_ge i listed.size with h | h
   . exact h
   . rw [Array.getD_eq_getD_getElem?] at h1;simp [h] at h1
  have hLi : listed.getD i false = false := by
   rw [Array.getD_eq_getD_getElem?] at h1 ⊢;simp [hil] at h1 ⊢;exact h1
  have hset : (λ j => (listed.setIfInBounds i true).getD j false) = λ j => decide (j = i) || listed.getD j false := by
   funext j
   by_cases e : j = i
   . subst e;simp [Array.getD_eq_getD_getElem?, hil]
   . have e' : ¬ i = j := λ h => e h.symm;simp [Array.getD_eq_getD_getElem?, e, Array.getElem?_setIfInBounds, e']
  have hcount : (listed.setIfInBounds i true).toList.count false <= fuel := by
   have h3 : listed.toList[i]? = some false := by
    rw [Array.getElem?_toList, Array.getElem?_eq_getElem hil];rw [Array.getD_eq_getD_getElem?] at h1;simp [hil] at h1;rw [h1]
   rw [Array.toList_setIfInBounds];have h4 := List.count_set (a := true) (b := false) (l := listed.toList) (i := i) (by simpa using hil);have h5 : listed.toList[i] = false := by
    have := h3;rw [List.getElem?_eq_getElem (by simpa using hil)] at this;exact Option.some.inj this
   have h6 : 0 < List.count false listed.toList := List.count_pos_iff.2 (List.mem_of_getElem? h3);have h7 : (if (listed.toList[i] == false) = true then 1 else 0) = 1 := by rw [h5]; rfl
   have h8 : (if (true == false) = true then 1 else 0) = 0 := rfl;rw [h4, h7, h8];omega
  have hgo := λ a' w' h => ih (listed.setIfInBounds i true) a' w' (by simpa using hs) hcount (by rw [hset]; exact h);unfold wpOp;simp only [ho];rcases hstep _ a w i o hI hLi (by simpa using ho) h2 with ⟨hw, hm⟩ | ⟨hw, hI'⟩
  . rw [if_pos hw];exact .inl (tB hm λ v w' h => hgo _ _ h)
  . rw [if_neg (by simp [hw])];exact hgo _ _ hI'
theorem wp_region_inv {id : Nat} {a : Act} {w : World} (I : (Nat -> Bool) -> Act -> World -> Prop) (hm : P.follows .mixedOrders = true) (hf : fwdB ls.toArray = true)
 (h0 : ∀ b : World, b.heap = w.heap -> Below w.heap.size w b -> I (λ _ => false) a b)
 (hstep : ∀ (L : Nat -> Bool) (a : Act) (w : World) (i : Nat) (o : Oper), I L a w -> L i = false -> ls[i]? = some o -> (∀ e ∈ o.after, Region.binds .any e = true -> L e.on = true) ->
  (Region.wanted o (yielded ls.toArray a.tmps) = true /\ yE P o a w λ v w' => I (λ j => decide (j = i) || L j) (a.put o.dst v) w') \/ (Region.wanted o (yielded ls.toArray a.tmps) = false /\ I (λ j => decide (j = i) || L j) (a.put o.dst undef) w))
 (hend : ∀ (L : Nat -> Bool) (a : Act) (w : World), I L a w -> (∀ j, j < ls.length -> L j = true) -> Q .normal a w) :
 (Code.region id ls.toArray true).wp P Q a w := by
 refine wp_region_any hm ?_;refine wpAny_of_inv I hf hstep hend _ _ _ _ (by simp) ?_ ?_
 . simp [List.count_replicate_self]
 . have hb : I (λ _ => false) a { w with drawn := w.drawn + 1 } := h0 _ rfl (Below.refl _ w).drew;have : (λ j => (Array.replicate ls.toArray.size false).getD j false) = λ _ => false := by
    funext j
    simp [Array.getD_eq_getD_getElem?, Array.getElem?_replicate]
    split <;> rfl
   rw [this];exact hb
end
end Go.RG
namespace Go.Proofs.YtbjofbhhnmehgaaGreatDoor.TT
open Go.RowKit Go.RG Go.Hp Go.Proofs.YtbjofbhhnmehgaaGreatDoor
def WalkI (W0 : World) (p : Option Addr) (v1 v2 : Value) (lo hi : List Int) (B : Nat) (L : Nat -> Bool) (a : Act) (w : World) : Prop :=
 ∃ x7 x8 x9 x10 x11 x12, a = { tmps := #[.pointer p, v1, v2, .pointer (some ⟨B, 0, none⟩), undef, undef, .nilFunc, x7, x8, x9, x10, x11, x12, undef], defers := [] } /\ Below W0.heap.size W0 w /\ (L 0 = true -> x9 = v1) /\ (L 1 = true -> x10 = .string (strOfNums lo)) /\ (L 2 = true -> x11 = v2) /\ (L 3 = true -> x12 = .string (strOfNums hi)) /\
  (L 4 = true -> ∃ g, x7 = .pointer (some ⟨g, 0, none⟩) /\ W0.heap.size <= g /\ w.heap[g]? = some (.cells #[if L 6 then .string (strOfNums lo) else .string { data := #[] }] 9 (0, 0))) /\
  (L 5 = true -> ∃ g, x8 = .pointer (some ⟨g, 0, none⟩) /\ W0.heap.size <= g /\ w.heap[g]? = some (.cells #[if L 7 then .string (strOfNums hi) else .string { data := #[] }] 9 (0, 0))) /\ (L 4 = true -> L 5 = true -> x7 ≠ x8) /\ (L 6 = true -> L 4 = true) /\ (L 7 = true -> L 5 = true)
theorem twalk_any (p : Option Addr) (v1 v2 : Value) (lo hi : List Int) (w : World) (h1 : Src w v1 (u8s lo)) (h2 : Src w v2 (u8s hi)) :
 Calls Tryz.prog 28 #[.pointer p, v1, v2] w λ e w' => ∃ Bt Bl Bh, e = .returned (.func (.func 67) #[] #[.pointer (some ⟨Bt, 0, none⟩), .pointer (some ⟨Bl, 0, none⟩), .pointer (some ⟨Bh, 0, none⟩)]) /\ w.heap.size <= Bt /\ w.heap.size <= Bl /\ w.heap.size <= Bh /\
  w'.cell? ⟨Bt, 0, none⟩ = some (.pointer p) /\ w'.cell? ⟨Bl, 0, none⟩ = some (.string (strOfNums lo)) /\ w'.cell? ⟨Bh, 0, none⟩ = some (.string (strOfNums hi)) /\ Below w.heap.size w w' := by
 have hmf : ∀ (fn : Fn) (first cap : Array Value) (w : World), (Instr.makeFunc fn first cap).run Tryz.prog w = .ok (.func fn first cap) w := λ _ _ _ _ => rfl;have hb0 := zQ w (.cells #[.pointer p] 26);have g0 := World.alloc_heap_new w (.cells #[.pointer p] 26);have H1 := zB (zC (h1.below hb0) (zC (h2.below hb0) (zC hb0 g0)));obtain ⟨a1, c1, rfl, -⟩ := h1.shape;obtain ⟨a2, c2, rfl, -⟩ := h2.shape;clear h1 h2 hb0 g0;go_enter Tryz.func28, Tryz.ntmps28
 go_wp2_with fail
 generalize hW0 : w.alloc (.cells #[.pointer p] 26) = W0 at H1 ⊢;refine wp_region_inv (WalkI W0 p (.slice a1 (u8s lo).length c1) (.slice a2 (u8s hi).length c2) lo hi w.heap.size) fol (by kernel_rfl) (λ b hb1 hb2 => ?_) (λ L a w1 i o hI hL ho haf => ?_) (λ L a w1 hI hall => ?_)
 . exact ⟨_, _, _, _, _, _, rfl, hb2, (λ h => by cases h), (λ h => by cases h), (λ h => by cases h), (λ h => by cases h), (λ h => by cases h), (λ h => by cases h), (λ h => by cases h), (λ h => by cases h), (λ h => by cases h)⟩
 . obtain ⟨x7, x8, x9, x10, x11, x12, rfl, hB, k0, k1, k2, k3, k4, k5, k6, k7, k8⟩ := hI;have hil : i < 8 := (List.getElem?_eq_some_iff.1 ho).1;left;rcases (show i = 0 \/ i = 1 \/ i = 2 \/ i = 3 \/ i = 4 \/ i = 5 \/ i = 6 \/ i = 7 by omega) with rfl | rfl | rfl | rfl | rfl | rfl | rfl | rfl <;> (simp only [List.getElem?_cons_zero, List.getElem?_cons_succ, Option.some.injEq] at ho; subst ho; refine ⟨rfl, ?_⟩; simp [Region.binds] at haf)
   . (unfold yE; go_simp; (try simp only [zN]); (try simp only [zD]))
     exact ⟨x7, x8, _, x10, x11, x12, rfl, hB, λ _ => rfl, by simpa using k1, by simpa using k2, by simpa using k3, by simpa using k4, by simpa using k5, by simpa using k6, by simpa using k7, by simpa using k8⟩
   . have hx9 := k0 haf;subst hx9;have hcv := sQ (H1.out.1.below hB)
     (unfold yE; go_simp; (try simp only [zN]); (try simp only [zD]))
     exact ⟨x7, x8, _, _, x11, x12, rfl, hB, by simp, λ _ => rfl, by simpa using k2, by simpa using k3, by simpa using k4, by simpa using k5, by simpa using k6, by simpa using k7, by simpa using k8⟩
   . (unfold yE; go_simp; (try simp only [zN]); (try simp only [zD]))
     exact ⟨x7, x8, x9, x10, _, x12, rfl, hB, by simpa using k0, by simpa using k1, λ _ => rfl, by simpa using k3, by simpa using k4, by simpa using k5, by simpa using k6, by simpa using k7, by simpa using k8⟩
   . have hx11 := k2 haf;subst hx11;have hcv := sQ (H1.out.2.1.below hB)
     (unfold yE; go_simp; (try simp only [zN]); (try simp only [zD]))
     exact ⟨x7, x8, x9, x10, _, _, rfl, hB, by simpa using k0, by simpa using k1, by simp, λ _ => rfl, by simpa using k4, by simpa using k5, by simpa using k6, by simpa using k7, by simpa using k8⟩
   . have hb1 := zQ w1 (.cells #[.string { data := #[] }] 9);have hg1 := World.alloc_heap_new w1 (.cells #[.string { data := #[] }] 9);have HH := zB (zC hb1 hg1);clear hb1 hg1
     (unfold yE; go_simp; (try simp only [zN]); (try simp only [zD]))
     have hL6 : L 6 = false := by cases h : L 6 with | false => rfl | true => exact absurd (k7 h) (by rw [hL]; decide)
     refine ⟨_, x8, x9, x10, x11, x12, rfl, zF hB HH.out.1, by simpa using k0, by simpa using k1, by simpa using k2, by simpa using k3, λ _ => ⟨w1.heap.size, rfl, hB.size, by simpa [hL6] using HH.out.2⟩, λ h => ?_, λ _ h e => ?_, by simp [hL6], by simpa using k8⟩
     . obtain ⟨g, e1, e2, e3⟩ := k5 (by simpa using h);exact ⟨g, e1, e2, by simpa using zK HH.out.1 e3⟩
     . obtain ⟨g, e1, e2, e3⟩ := k5 (by simpa using h);rw [e1] at e;injection e with e;injection e with e;injection e with e;have := zI e3;omega
   . have hb1 := zQ w1 (.cells #[.string { data := #[] }] 9);have hg1 := World.alloc_heap_new w1 (.cells #[.string { data := #[] }] 9);have HH := zB (zC hb1 hg1);clear hb1 hg1
     (unfold yE; go_simp; (try simp only [zN]); (try simp only [zD]))
     have hL7 : L 7 = false := by cases h : L 7 with | false => rfl | true => exact absurd (k8 h) (by rw [hL]; decide)
     refine ⟨x7, _, x9, x10, x11, x12, rfl, zF hB HH.out.1, by simpa using k0, by simpa using k1, by simpa using k2, by simpa using k3, λ h => ?_, λ _ => ⟨w1.heap.size, rfl, hB.size, by simpa [hL7] using HH.out.2⟩, λ h _ e => ?_, by simpa using k7, by simp [hL7]⟩
     . obtain ⟨g, e1, e2, e3⟩ := k4 (by simpa using h);exact ⟨g, e1, e2, by simpa using zK HH.out.1 e3⟩
     . obtain ⟨g, e1, e2, e3⟩ := k4 (by simpa using h);rw [e1] at e;injection e with e;injection e with e;injection e with e;have := zI e3;omega
   . have h0 : L 0 = true := by first | exact haf.1 | exact haf.2.2.2.2.2.2.2.1 | exact haf.2.2.2.2.2.2.2.2.1 | exact haf.2.1 | exact haf.2.2.1 | exact haf.2.2.2.1 | exact haf.2.2.2.2.1 | exact haf.2.2.2.2.2.1 | exact haf.2.2.2.2.2.2.1 | exact haf.2.2.2 | exact haf.2.2.2.2 | exact haf.2.2.2.2.2 | exact haf.2.2.2.2.2.2 | exact haf.2
     have h1 : L 1 = true := by first | exact haf.1 | exact haf.2.2.2.2.2.2.2.1 | exact haf.2.2.2.2.2.2.2.2.1 | exact haf.2.1 | exact haf.2.2.1 | exact haf.2.2.2.1 | exact haf.2.2.2.2.1 | exact haf.2.2.2.2.2.1 | exact haf.2.2.2.2.2.2.1 | exact haf.2.2.2 | exact haf.2.2.2.2 | exact haf.2.2.2.2.2 | exact haf.2.2.2.2.2.2 | exact haf.2
     have h4 : L 4 = true := by first | exact haf.1 | exact haf.2.2.2.2.2.2.2.1 | exact haf.2.2.2.2.2.2.2.2.1 | exact haf.2.1 | exact haf.2.2.1 | exact haf.2.2.2.1 | exact haf.2.2.2.2.1 | exact haf.2.2.2.2.2.1 | exact haf.2.2.2.2.2.2.1 | exact haf.2.2.2 | exact haf.2.2.2.2 | exact haf.2.2.2.2.2 | exact haf.2.2.2.2.2.2 | exact haf.2
     have h5 : L 5 = true := by first | exact haf.1 | exact haf.2.2.2.2.2.2.2.1 | exact haf.2.2.2.2.2.2.2.2.1 | exact haf.2.1 | exact haf.2.2.1 | exact haf.2.2.2.1 | exact haf.2.2.2.2.1 | exact haf.2.2.2.2.2.1 | exact haf.2.2.2.2.2.2.1 | exact haf.2.2.2 | exact haf.2.2.2.2 | exact haf.2.2.2.2.2 | exact haf.2.2.2.2.2.2 | exact haf.2
     have hx9 := k0 h0;subst hx9;obtain ⟨g, e1, e2, e3⟩ := k4 h4;obtain ⟨g', f1, f2, f3⟩ := k5 h5;have hx10 := k1 h1;have hne := k6 h4 h5;subst e1 f1 hx10;have hgg : g ≠ g' := λ e => hne (by rw [e]);rw [hL] at e3;simp only [Bool.false_eq_true, if_false] at e3;have hc := yV e3 0 _ rfl;have hf : w1.frozen? ⟨g, 0, none⟩ = false := by simp [World.frozen?, e3]
     have hs := yB (j := 0) e3 (.string (strOfNums lo));have hX : Ext (· = g) w1 (w1.setCell ⟨g, 0, none⟩ (.string (strOfNums lo))) := Ext.setCell (S := (· = g)) (p := ⟨g, 0, none⟩) rfl _;have HH := zB (zC hs hX);clear hs hX
     (unfold yE; go_simp; (try simp only [zN]); (try simp only [zD]))
     refine ⟨_, _, _, _, x11, x12, rfl, hB.trans (HH.out.2.to_belowAt hB.size λ k hk e => by omega), by simp, by simp, by simpa using k2, by simpa using k3, λ _ => ⟨g, rfl, e2, by simpa using HH.out.1⟩, λ _ => ⟨g', rfl, f2, by simpa using (HH.out.2.block _ (zI f3) (λ e => hgg e.symm)).trans f3⟩, λ _ _ => hne, by simpa using h4, by simpa using k8⟩
   . have h3 : L 3 = true := by first | exact haf.1 | exact haf.2.2.2.2.2.2.2.1 | exact haf.2.2.2.2.2.2.2.2.1 | exact haf.2.1 | exact haf.2.2.1 | exact haf.2.2.2.1 | exact haf.2.2.2.2.1 | exact haf.2.2.2.2.2.1 | exact haf.2.2.2.2.2.2.1 | exact haf.2.2.2 | exact haf.2.2.2.2 | exact haf.2.2.2.2.2 | exact haf.2.2.2.2.2.2 | exact haf.2
     have h4 : L 4 = true := by first | exact haf.1 | exact haf.2.2.2.2.2.2.2.1 | exact haf.2.2.2.2.2.2.2.2.1 | exact haf.2.1 | exact haf.2.2.1 | exact haf.2.2.2.1 | exact haf.2.2.2.2.1 | exact haf.2.2.2.2.2.1 | exact haf.2.2.2.2.2.2.1 | exact haf.2.2.2 | exact haf.2.2.2.2 | exact haf.2.2.2.2.2 | exact haf.2.2.2.2.2.2 | exact haf.2
     have h5 : L 5 = true := by first | exact haf.1 | exact haf.2.2.2.2.2.2.2.1 | exact haf.2.2.2.2.2.2.2.2.1 | exact haf.2.1 | exact haf.2.2.1 | exact haf.2.2.2.1 | exact haf.2.2.2.2.1 | exact haf.2.2.2.2.2.1 | exact haf.2.2.2.2.2.2.1 | exact haf.2.2.2 | exact haf.2.2.2.2 | exact haf.2.2.2.2.2 | exact haf.2.2.2.2.2.2 | exact haf.2
     have h0 : L 0 = true := by first | exact haf.1 | exact haf.2.2.2.2.2.2.2.1 | exact haf.2.2.2.2.2.2.2.2.1 | exact haf.2.1 | exact haf.2.2.1 | exact haf.2.2.2.1 | exact haf.2.2.2.2.1 | exact haf.2.2.2.2.2.1 | exact haf.2.2.2.2.2.2.1 | exact haf.2.2.2 | exact haf.2.2.2.2 | exact haf.2.2.2.2.2 | exact haf.2.2.2.2.2.2 | exact haf.2
     have h1 : L 1 = true := by first | exact haf.1 | exact haf.2.2.2.2.2.2.2.1 | exact haf.2.2.2.2.2.2.2.2.1 | exact haf.2.1 | exact haf.2.2.1 | exact haf.2.2.2.1 | exact haf.2.2.2.2.1 | exact haf.2.2.2.2.2.1 | exact haf.2.2.2.2.2.2.1 | exact haf.2.2.2 | exact haf.2.2.2.2 | exact haf.2.2.2.2.2 | exact haf.2.2.2.2.2.2 | exact haf.2
     have h2 : L 2 = true := by first | exact haf.1 | exact haf.2.2.2.2.2.2.2.1 | exact haf.2.2.2.2.2.2.2.2.1 | exact haf.2.1 | exact haf.2.2.1 | exact haf.2.2.2.1 | exact haf.2.2.2.2.1 | exact haf.2.2.2.2.2.1 | exact haf.2.2.2.2.2.2.1 | exact haf.2.2.2 | exact haf.2.2.2.2 | exact haf.2.2.2.2.2 | exact haf.2.2.2.2.2.2 | exact haf.2
     have hx9 := k0 h0;have hx10 := k1 h1;have hx11 := k2 h2;subst hx9 hx10 hx11;obtain ⟨g, e1, e2, e3⟩ := k4 h4;obtain ⟨g', f1, f2, f3⟩ := k5 h5;have hx12 := k3 h3;have hne := k6 h4 h5;subst e1 f1 hx12;have hgg : g ≠ g' := λ e => hne (by rw [e]);rw [hL] at f3;simp only [Bool.false_eq_true, if_false] at f3;have hc := yV f3 0 _ rfl;have hf : w1.frozen? ⟨g', 0, none⟩ = false := by simp [World.frozen?, f3]
     have hs := yB (j := 0) f3 (.string (strOfNums hi));have hX : Ext (· = g') w1 (w1.setCell ⟨g', 0, none⟩ (.string (strOfNums hi))) := Ext.setCell (S := (· = g')) (p := ⟨g', 0, none⟩) rfl _;have HH := zB (zC hs hX);clear hs hX
     (unfold yE; go_simp; (try simp only [zN]); (try simp only [zD]))
     refine ⟨_, _, _, _, _, _, rfl, hB.trans (HH.out.2.to_belowAt hB.size λ k hk e => by omega), by simp, by simp, by simp, by simp, λ _ => ⟨g, rfl, e2, by simpa using (HH.out.2.block _ (zI e3) hgg).trans e3⟩, λ _ => ⟨g', rfl, f2, by simpa using HH.out.1⟩, λ _ _ => hne, by simpa using k7, by simpa using h5⟩
 . obtain ⟨x7, x8, x9, x10, x11, x12, rfl, hB, k0, k1, k2, k3, k4, k5, k6, k7, k8⟩ := hI;have ha := λ j (hj : j < 8) => hall j hj;obtain ⟨g, e1, e2, e3⟩ := k4 (ha 4 (by decide));obtain ⟨g', f1, f2, f3⟩ := k5 (ha 5 (by decide));have hx9 := k0 (ha 0 (by decide));have hx10 := k1 (ha 1 (by decide));have hx11 := k2 (ha 2 (by decide));have hx12 := k3 (ha 3 (by decide));subst e1 f1 hx9 hx10 hx11 hx12;rw [ha 6 (by decide)] at e3;rw [ha 7 (by decide)] at f3;simp only [if_true] at e3 f3;have HE := zB (zC e2 (zC e3 (zC f2 (zC f3 hB))));clear k0 k1 k2 k3 k4 k5 k6 k7 k8 ha hall e2 e3 f2 f3 hB
   go_wp2_with fail
   go_ret
   have hs := H1.out.2.2.1.size;exact ⟨w.heap.size, g, g', rfl, Nat.le_refl _, by have := HE.out.1; omega, by have := HE.out.2.2.1; omega, zG HE.out.2.2.2.2 (yV H1.out.2.2.2 0 _ rfl), yV HE.out.2.1 0 _ rfl, yV HE.out.2.2.2.1 0 _ rfl, H1.out.2.2.1.trans (HE.out.2.2.2.2.mono hs)⟩
end Go.Proofs.YtbjofbhhnmehgaaGreatDoor.TT
