
/-
 TableRoom: a batch is refused with ErrFull just where the pairs would be above the capacity; batches of Gone alone never are: for every size, and all batches that are together of bulk at most 1048576; its card ties the listed package-level variables to the program's text.
-/
import Derived.Test.YtbjofbhhnmehgaaGreatDoorCNHz12
import Derived.Test.YtbjofbhhnmehgaaGreatDoorRows
import Derived.WalkKit
import Derived.Deep.Slices
import Derived.Deep.CutRange
import Derived.ProofKit
import Derived.OpenShut
import Derived.JoinedCond
import Derived.Test.YtbjofbhhnmehgaaGreatDoorCards
import Derived.Test.YtbjofbhhnmehgaaGreatDoorTie
import Derived.Deep.DeepHandedRow
import Derived.Test.YtbjofbhhnmehgaaGreatDoorCNHz0
set_option linter.unusedSimpArgs false
set_option linter.unusedVariables false
set_option maxHeartbeats 4000000
set_option maxRecDepth 100000
open Go.IntWalk (toNatUp iteOmega)
namespace Go.Proofs.YtbjofbhhnmehgaaGreatDoor.TT
open Go.RowKit Go.RG Go.Hp Go.Deep Go.ChangeShapes Go.WideShapes Go.Proofs.YtbjofbhhnmehgaaGreatDoor
instance : Inhabited TChg := ⟨⟨[], [], 0, 0, false⟩⟩
structure ChT (P : Program) : Prop where
 batches : P.underlying 32 = some (.slice 42)
 changes : P.underlying 42 = some (.slice 54)
 change : P.underlying 54 = some (.struct #[Field.mk "Key" 52 0 false "" "" 0, Field.mk "Value" 52 1 false "" "" 24, Field.mk "Long" 3 2 false "" "" 48, Field.mk "Fill" 5 3 false "" "" 56, Field.mk "Gone" 4 4 false "" "" 57])
 bytes : P.underlying 52 = some (.slice 5)
 byte : P.underlying 5 = some (.int .u8)
 int : P.underlying 3 = some (.int .i64)
 bool : P.underlying 4 = some .bool
 cchanges : P.cellsOf 42 = 1
 cchange : P.cellsOf 54 = 5
 cbytes : P.cellsOf 52 = 1
 cbyte : P.cellsOf 5 = 1
 cint : P.cellsOf 3 = 1
 cbool : P.cellsOf 4 = 1
theorem chT : ChT Tryz.prog := ⟨by kernel_rfl, by kernel_rfl, by kernel_rfl, by kernel_rfl, by kernel_rfl, by kernel_rfl, by kernel_rfl, by kernel_rfl, by kernel_rfl, by kernel_rfl, by kernel_rfl, by kernel_rfl, by kernel_rfl⟩
theorem wf_i64c {n : Int} (h : (Lit.int .i64 n).wf = true) : -9223372036854775808 <= n /\ n <= 9223372036854775807 := by
 simpa [Lit.wf, IntKind.min, IntKind.max, IntKind.signed, IntKind.bits] using h
theorem wf_u8c {n : Int} (h : (Lit.int .u8 n).wf = true) : 0 <= n /\ n <= 255 := by
 simpa [Lit.wf, IntKind.min, IntKind.max, IntKind.signed, IntKind.bits] using h
section
variable {H : Type}
theorem fM (x : DataW H) : 1 <= Rows.uptoBulk x := by
 cases x with
 | lit l => cases l <;> simp [Rows.uptoBulk]
 | nil => simp [Rows.uptoBulk]
 | ptr d => simp [Rows.uptoBulk]
 | slice elems spare => simp [Rows.uptoBulk]
 | agg parts => simp [Rows.uptoBulk]
 | iface t d => simp [Rows.uptoBulk]
 | map entries => simp [Rows.uptoBulk]
 | held h => simp [Rows.uptoBulk]
theorem bulk_len : ∀ l : List (DataW H), l.length <= Rows.uptoBulkAll l
 | [] => Nat.zero_le _
 | x :: r => by have := bulk_len r; have := fM x; simp only [Rows.uptoBulkAll, List.length_cons]; omega
theorem bulk_mem : ∀ {l : List (DataW H)} {x : DataW H}, x ∈ l -> Rows.uptoBulk x <= Rows.uptoBulkAll l
 | y :: r, x, h => by
  rcases List.mem_cons.1 h with rfl | h
  . simp only [Rows.uptoBulkAll]; omega
  . have := bulk_mem h; simp only [Rows.uptoBulkAll]; omega
theorem bulk_sum : ∀ (l : List (DataW H)) (ns : List Nat), ns.length = l.length -> (∀ (i : Nat) x n, l[i]? = some x -> ns[i]? = some n -> n <= Rows.uptoBulk x) -> ns.sum <= Rows.uptoBulkAll l
 | [], [], _, _ => Nat.le_refl _
 | x :: l, n :: ns, hl, h => by
  have h1 := bulk_sum l ns (by simpa using hl) λ i y m hy hm => h (i + 1) y m (by simpa using hy) (by simpa using hm);have h2 := h 0 x n rfl rfl;simp only [Rows.uptoBulkAll, List.sum_cons];omega
end
section
variable {H : Type} {enc : TypeId × Value -> H} {W : World} {base : Nat} {sp : Nat -> Bool} {held : Bool} {P : Program} (T : ChT P)
include T
theorem open_byte {fuel : Nat} {v : Value} {x : DataW H × List MemPlace} (h : DataW.trod enc P W base sp held fuel 5 [v] = some x) : ∃ b : Int, v = .int .u8 b /\ 0 <= b /\ b < 256 := by
 obtain ⟨b, h1, -, w1⟩ := DataW.trod_int T.byte h;injection h1 with h1;have := wf_u8c w1;exact ⟨b, h1, by omega, by omega⟩
theorem fP {fuel : Nat} {v : Value} {x : DataW H × List MemPlace} (h : DataW.trod enc P W base sp held fuel 52 [v] = some x) :
 ∃ bs, SrcE W v (u8s bs) /\ zO bs /\ bs.length <= Rows.uptoBulk x.1 /\ ∀ j, obk v = some j -> j < W.heap.size := by
 rcases open_slice1 T.bytes T.cbyte h with ⟨h1, -⟩ | ⟨a, len, cap, m, n, V, D, Pl, h1, hb, hl, hm, hmm, hx, hall⟩
 . injection h1 with h1;subst h1;exact ⟨[], .inl (.inr ⟨rfl, rfl⟩), (λ b hb => by cases hb), Nat.zero_le _, λ j hj => by cases hj⟩
 . injection h1 with h1;subst h1;have hlm : len <= m := by rw [hmm]; split <;> omega
   cases len with
   | zero => exact ⟨[], .inr ⟨rfl, some a, cap, rfl⟩, (λ b hb => by cases hb), Nat.zero_le _, λ j hj => by cases hj⟩
   | succ len =>
    have each : ∀ i, i < len + 1 -> ∃ b : Int, W.cell? (a.add i) = some (.int .u8 b) /\ 0 <= b /\ b < 256 := λ i hi => by
     obtain ⟨h1, h2⟩ := hall i (by omega);obtain ⟨b, e, h3, h4⟩ := open_byte T h2;exact ⟨b, by rw [<- e]; exact h1, h3, h4⟩
    obtain ⟨B, hB⟩ := choose_lt each;have es : a.spot = none := by
     have := World.cell?_spot (hB 0 (by omega)).1;simpa [Addr.add] using this
    obtain ⟨pb, po, spot⟩ := a;simp only at es;subst es;have hl2 : ((List.range (len + 1)).map B).length = len + 1 := by simp
    refine ⟨(List.range (len + 1)).map B, .inl (.inl ⟨pb, po, cap, by rw [zH, hl2], by rw [zH, hl2]; exact hl, λ j u hu => ?_⟩), λ b hb => ?_, ?_, λ j hj => ?_⟩
    . have hj := (List.getElem?_eq_some_iff.1 hu).1;rw [zH, hl2] at hj;have := (hB j hj).1;rw [Addr.add_lit] at this;unfold u8s at hu;rw [List.getElem?_map, List.getElem?_map, List.getElem?_range hj] at hu;simp at hu;rw [<- hu];exact this
    . obtain ⟨i, hi, rfl⟩ := List.mem_map.1 hb;have := (hB i (List.mem_range.1 hi)).2;omega
    . rw [hl2, hx];have := bulk_len ((List.range (len + 1)).map D);rw [List.length_map, List.length_range] at this;simp only [Rows.uptoBulk];omega
    . obtain rfl := Option.some.inj hj;exact block_lt_of_cell (hB 0 (by omega)).1
theorem open_change {fuel : Nat} {cs : List Value} {x : DataW H × List MemPlace} (h : DataW.trod enc P W base sp held fuel 54 cs = some x) (hb : Rows.uptoBulk x.1 <= 1048576) :
 ∃ (c : TChg) (ka va : Value), cs = [ka, va, .int .i64 c.long, .int .u8 c.fill, .bool c.gone] /\ TChgV c ka va W /\ (∀ j, obk ka = some j \/ obk va = some j -> j < W.heap.size) /\ 6 <= Rows.uptoBulk x.1 := by
 obtain ⟨xs, n, hn, hx1, hl, hx2, hf⟩ := DataW.trod_struct T.change h;rw [T.cchange] at hl
 match cs, hl with
 | [c0, c1, c2, c3, c4], _ =>
  have f0 := hf 0 (Field.mk "Key" 52 0 false "" "" 0) rfl;have f1 := hf 1 (Field.mk "Value" 52 1 false "" "" 24) rfl;have f2 := hf 2 (Field.mk "Long" 3 2 false "" "" 48) rfl;have f3 := hf 3 (Field.mk "Fill" 5 3 false "" "" 56) rfl;have f4 := hf 4 (Field.mk "Gone" 4 4 false "" "" 57) rfl;dsimp only at f0 f1 f2 f3 f4;rw [T.cbytes] at f0 f1;rw [T.cint] at f2;rw [T.cbyte] at f3;rw [T.cbool] at f4;simp at f0 f1 f2 f3 f4;have hx : xs.length = 5 := hx2
  match xs, hx with
  | [y0, y1, y2, y3, y4], _ =>
   subst hx1;have g0 : Rows.uptoBulk y0.1 <= 1048576 /\ Rows.uptoBulk y1.1 <= 1048576 := by
    simp only [Rows.uptoBulk, Rows.uptoBulkAll, List.map_cons] at hb;omega
   obtain ⟨k, k1, k2, k3, k4⟩ := fP T f0;obtain ⟨v, v1, v2, v3, v4⟩ := fP T f1;obtain ⟨l, l1, -, l2⟩ := DataW.trod_int T.int f2;obtain ⟨fb, b1, b2, b3⟩ := open_byte T f3;obtain ⟨g, gb1, -⟩ := DataW.trod_bool T.bool f4;injection l1 with l1;injection gb1 with gb1;subst l1 b1 gb1;refine ⟨⟨k, v, l, fb, g⟩, c0, c1, rfl, ⟨k1, v1, k2, v2, wf_i64c l2, ⟨b2, b3⟩, show k.length <= 1048576 by omega, show v.length <= 1048576 by omega⟩, λ j hj => hj.elim (k4 j) (v4 j), ?_⟩;have := fM y0.1;have := fM y1.1;have := fM y2.1;have := fM y3.1;have := fM y4.1;simp only [Rows.uptoBulk, Rows.uptoBulkAll, List.map_cons];omega
theorem open_changes {fuel : Nat} {v : Value} {x : DataW H × List MemPlace} (h : DataW.trod enc P W base sp held fuel 42 [v] = some x) (hb : Rows.uptoBulk x.1 <= 1048576) :
 ∃ cs, qW W (λ j => W.heap.size <= j) v cs /\ cs.length * 6 <= Rows.uptoBulk x.1 := by
 rcases open_slice T.changes h with ⟨h1, -⟩ | ⟨a, len, cap, m, n, D, Pl, h1, hba, hl, hm, hmm, hx, hall⟩
 . injection h1 with h1;subst h1;exact ⟨[], ⟨none, 0, rfl, λ i c hc => by simp at hc⟩, Nat.zero_le _⟩
 . injection h1 with h1;subst h1;have hlm : len <= m := by rw [hmm]; split <;> omega
   have hbD : ∀ i, i < len -> Rows.uptoBulk (D i) <= 1048576 := λ i hi => by
    rw [hx] at hb;simp only [Rows.uptoBulk] at hb;have := bulk_mem (x := D i) (l := (List.range len).map D) (List.mem_map_of_mem (List.mem_range.2 hi));omega
   have each : ∀ i, i < len -> ∃ c : TChg, ∃ ka va, a.spot = none /\ W.cell? (a.add (i * 5)) = some ka /\ W.cell? (a.add (i * 5 + 1)) = some va /\ W.cell? (a.add (i * 5 + 2)) = some (.int .i64 c.long) /\ W.cell? (a.add (i * 5 + 3)) = some (.int .u8 c.fill) /\ W.cell? (a.add (i * 5 + 4)) = some (.bool c.gone) /\ TChgV c ka va W /\ (∀ j, obk ka = some j \/ obk va = some j -> j < W.heap.size) /\ 6 <= Rows.uptoBulk (D i) := λ i hi => by
    obtain ⟨cs', h1, h2⟩ := hall i (by omega);rw [T.cchange] at h1;obtain ⟨-, hlen, hcell⟩ := World.cells?_some h1;obtain ⟨c, ka, va, rfl, hv, hj, h6⟩ := open_change T h2 (hbD i hi);have e0 := hcell 0 (by omega);have e1 := hcell 1 (by omega);have e2 := hcell 2 (by omega);have e3 := hcell 3 (by omega);have e4 := hcell 4 (by omega);rw [add_add] at e0 e1 e2 e3 e4;have es : a.spot = none := by
     obtain ⟨cs0, g1, g2⟩ := hall 0 (by omega);rw [T.cchange] at g1;obtain ⟨-, hlen0, hcell0⟩ := World.cells?_some g1;have g := hcell0 0 (by omega);rw [add_add] at g;have hlt : (0 : Nat) < cs0.length := by omega
     rw [List.getElem?_eq_getElem hlt] at g;have := World.cell?_spot g;simpa [Addr.add] using this
    exact ⟨c, ka, va, es, by simpa using e0, by simpa using e1, by simpa using e2, by simpa using e3, by simpa using e4, hv, hj, h6⟩
   obtain ⟨C, hC⟩ := choose_lt each;have hl2 : ((List.range len).map C).length = len := by simp
   refine ⟨(List.range len).map C, ⟨some a, cap, by rw [hl2], λ i c hc => ?_⟩, ?_⟩
   . have hi := (List.getElem?_eq_some_iff.1 hc).1;rw [hl2] at hi;rw [List.getElem?_map, List.getElem?_range hi] at hc;obtain rfl := Option.some.inj hc;obtain ⟨ka, va, es, e0, e1, e2, e3, e4, hv, hj, -⟩ := hC i hi;obtain ⟨pb, po, spot⟩ := a;simp only at es;subst es;rw [Addr.add_lit] at e0 e1 e2 e3 e4;have hg := block_lt_of_cell e0;simp only at hg;exact ⟨pb, po, ka, va, rfl, e0, by simpa [Nat.add_assoc] using e1, by simpa [Nat.add_assoc] using e2, by simpa [Nat.add_assoc] using e3, by simpa [Nat.add_assoc] using e4, hv, by omega, λ j hj2 => ⟨hj j hj2, by have := hj j hj2; omega⟩⟩
   . rw [hl2, hx];have := bulk_sum ((List.range len).map D) ((List.range len).map λ _ => 6) (by simp) λ i y n hy hn => by
      have hi := (List.getElem?_eq_some_iff.1 hy).1;rw [List.length_map, List.length_range] at hi;rw [List.getElem?_map, List.getElem?_range hi] at hy hn;simp at hy hn;subst hy hn;obtain ⟨-, -, -, -, -, -, -, -, -, -, h6⟩ := hC i hi;exact h6
     have hs : ∀ l : List Nat, (l.map λ _ => 6).sum = l.length * 6 := λ l => by
      induction l with
      | nil => rfl
      | cons x l ih => simp only [List.map_cons, List.sum_cons, List.length_cons]; omega
     rw [hs, List.length_range] at this;simp only [Rows.uptoBulk];omega
end
def fS (w : World) (F : Nat -> Prop) (v : Value) (css : List (List TChg)) : Prop := ∃ a cap, v = .slice a css.length cap /\ ∀ i cs, css[i]? = some cs -> ∃ g o u, a = some ⟨g, o, none⟩ /\ w.cell? ⟨g, o + i, none⟩ = some u /\ qW w F u cs /\ ¬ F g
theorem fS.ext {w w' : World} {F S : Nat -> Prop} {v : Value} {css : List (List TChg)} (h : fS w F v css) (hX : Ext S w w') (hS : ∀ j, S j -> F j) : fS w' F v css := by
 obtain ⟨a, cap, rfl, h⟩ := h;refine ⟨a, cap, rfl, λ i c hc => ?_⟩;obtain ⟨g, o, u, rfl, h1, h2, h3⟩ := h i c hc;exact ⟨g, o, u, rfl, hX.cell_some h1 λ e => h3 (hS _ e), h2.ext hX hS, h3⟩
theorem fS.at {w : World} {F : Nat -> Prop} {a : Option Addr} {n cap : Nat} {css : List (List TChg)} (h : fS w F (.slice a n cap) css) {i : Nat} {cs : List TChg} (hc : css[i]? = some cs) : ∃ g o u, a = some ⟨g, o, none⟩ /\ w.cell? ⟨g, o + i, none⟩ = some u /\ qW w F u cs /\ ¬ F g := by
 obtain ⟨a', cap', e, h⟩ := h;injection e with e1 e2 e3;subst e1;exact h i cs hc
def fI (css : List (List TChg)) : Nat := (css.map List.length).sum
theorem manyC_succ {css : List (List TChg)} {i : Nat} {cs : List TChg} (h : css[i]? = some cs) : fI (css.take (i + 1)) = fI (css.take i) + cs.length := by
 unfold fI;rw [List.take_add_one, h, Option.toList_some, List.map_append, List.sum_append];simp
theorem manyC_le (css : List (List TChg)) (i : Nat) : fI (css.take i) <= fI css := by
 have : fI (css.take i) + fI (css.drop i) = fI css := by
  unfold fI;rw [<- List.sum_append, <- List.map_append, List.take_append_drop]
 omega
section
variable {H : Type} {enc : TypeId × Value -> H} {W : World} {P : Program} (T : ChT P)
include T
theorem open_batches {v : Value} {d : DataW H} {p : List MemPlace} {b : Nat} (hv : Value.okWide P W .any b 32 v) (h : DataW.Trod enc P W 0 (λ _ => true) true 32 v d p) (hb : Rows.uptoBulk d <= 1048576) :
 ∃ css, fS W (λ j => W.heap.size <= j) v css /\ css.length + 1 <= Rows.uptoBulk d /\ fI css * 6 + 1 <= Rows.uptoBulk d := by
 obtain ⟨aa, nn, cc, rfl⟩ := okWide_slice T.batches hv;obtain ⟨fuel, h⟩ := h;have h : DataW.trod enc P W 0 (λ _ => true) true fuel 32 [.slice aa nn cc] = some (d, p) := h;rcases open_slice1 T.batches T.cchanges h with ⟨h1, h2⟩ | ⟨a, len, cap, m, n, V, D, Pl, h1, hba, hl, hm, hmm, hx, hall⟩
 . injection h1 with h1;injection h1 with e1 e2 e3;injection h2 with h2;subst e1 e2 e3 h2;exact ⟨[], ⟨none, 0, rfl, λ i c hc => by simp at hc⟩, by simp [Rows.uptoBulk], by simp [fI, Rows.uptoBulk]⟩
 . injection h1 with h1;injection h1 with e1 e2 e3;injection hx with hx1 hx2;subst e1 e2 e3 hx1;have hlm : nn <= m := by rw [hmm]; split <;> omega
   have hbD : ∀ i, i < nn -> Rows.uptoBulk (D i) <= 1048576 := λ i hi => by
    simp only [Rows.uptoBulk] at hb;have := bulk_mem (x := D i) (l := (List.range nn).map D) (List.mem_map_of_mem (List.mem_range.2 hi));omega
   have each : ∀ i, i < nn -> ∃ cs : List TChg, a.spot = none /\ W.cell? (a.add i) = some (V i) /\ qW W (λ j => W.heap.size <= j) (V i) cs /\ cs.length * 6 <= Rows.uptoBulk (D i) := λ i hi => by
    obtain ⟨h1, h2⟩ := hall i (by omega);obtain ⟨cs, h3, h4⟩ := open_changes T h2 (hbD i hi);have es : a.spot = none := by
     have := World.cell?_spot (hall 0 (by omega)).1;simpa [Addr.add] using this
    exact ⟨cs, es, h1, h3, h4⟩
   obtain ⟨C, hC⟩ := choose_lt each;have hl2 : ((List.range nn).map C).length = nn := by simp
   refine ⟨(List.range nn).map C, ⟨some a, cc, by rw [hl2], λ i c hc => ?_⟩, ?_, ?_⟩
   . have hi := (List.getElem?_eq_some_iff.1 hc).1;rw [hl2] at hi;rw [List.getElem?_map, List.getElem?_range hi] at hc;obtain rfl := Option.some.inj hc;obtain ⟨es, e0, hvv, -⟩ := hC i hi;obtain ⟨pb, po, spot⟩ := a;simp only at es;subst es;rw [Addr.add_lit] at e0;have hg := block_lt_of_cell e0;simp only at hg;exact ⟨pb, po, V i, rfl, e0, hvv, by omega⟩
   . rw [hl2];have := bulk_len ((List.range nn).map D);rw [List.length_map, List.length_range] at this;simp only [Rows.uptoBulk];omega
   . have := bulk_sum ((List.range nn).map D) (((List.range nn).map C).map λ c => c.length * 6) (by simp) λ i y n hy hn => by
      have hi := (List.getElem?_eq_some_iff.1 hy).1;rw [List.length_map, List.length_range] at hi;rw [List.getElem?_map, List.getElem?_range hi] at hy;rw [List.getElem?_map, List.getElem?_map, List.getElem?_range hi] at hn;simp at hy hn;subst hy hn;exact (hC i hi).2.2.2
     have hs : ∀ l : List (List TChg), (l.map λ c => c.length * 6).sum = fI l * 6 := λ l => by
      induction l with
      | nil => rfl
      | cons c l ih => unfold fI at ih ⊢; simp only [List.map_cons, List.sum_cons]; omega
     rw [hs] at this;simp only [Rows.uptoBulk];omega
end
end Go.Proofs.YtbjofbhhnmehgaaGreatDoor.TT
namespace Go.Proofs.YtbjofbhhnmehgaaGreatDoor.TT
open Go.RowKit Go.RG Go.Hp Go.Proofs.YtbjofbhhnmehgaaGreatDoor
theorem ComOn.tab {x y : Dsk} {first size : Nat} {L L' : LogS} {T T' : TblS} {m : Nat} {cs : List Chg} {e : Int} (h : TabV x first size L T m) (hr : ComOn x first size L T m cs y L' T' e) :
 TabV y first size L' T' (m + 2) /\ T'.cap = T.cap /\ y.dur.length = x.dur.length /\ oN first size x y /\ ((e = 0 /\ T'.ps = xH T.ps cs /\ zU (xH T.ps cs) <= T.cap) \/ (e = 2 /\ T' = T /\ T.cap < zU (xH T.ps cs)) \/ e = 81 /\ T' = T /\ 8192 < (recB cs).length) := by
 cases hr with
 | none h0 => subst h0; exact ⟨h.mono (by omega), rfl, rfl, .refl _ _ _, .inl ⟨rfl, rfl, h.room⟩⟩
 | size h0 h1 => exact ⟨h.mono (by omega), rfl, rfl, .refl _ _ _, .inr (.inr ⟨rfl, rfl, h1⟩)⟩
 | full h0 h1 => exact ⟨h.mono (by omega), rfl, rfl, .refl _ _ _, .inr (.inl ⟨rfl, rfl, h1⟩)⟩
 | ok h0 h1 hT hp hl hk => exact ⟨hT, rfl, hl, hk, .inl ⟨rfl, rfl, h1⟩⟩
def KComPost (w : World) (b : Bks) (x : Dsk) (first size : Nat) (k : LBk) (L : LogS) (q : TBk) (T : TblS) (z : KBk) (K : tV) (m : Nat) (cs : List Chg) (fe : Int) (w' : World) : Prop :=
 ∃ (b' : Bks) (k' : LBk) (q' : TBk) (y : Dsk) (L' : LogS) (T' : TblS), qD w b k q z w' b' k' q' z /\ KSys w' b' y ((m + 2) * 200 + 100000) first size k' L' q' T' z K /\ TabV y first size L' T' (m + 2) /\ T'.cap = T.cap /\ y.dur.length = x.dur.length /\ oN first size x y /\
  ((fe = 0 /\ T'.ps = xH T.ps cs /\ zU (xH T.ps cs) <= T.cap) \/ (fe = 2 /\ T' = T /\ T.cap < zU (xH T.ps cs)) \/ fe = 81 /\ T' = T /\ 8192 < (recB cs).length)
theorem kcommit_on {b : Bks} {x : Dsk} {first size : Nat} {k : LBk} {L : LogS} {q : TBk} {T : TblS} {z : KBk} {K : tV} {m M : Nat} (v : Value) (cs : List Chg) (w : World) (h : KOn w b x first size k L q T z K m M) (hb : wE w (allB b k q) v cs) (hbad : ¬ badB cs) (hv : ∀ c ∈ cs, zO c.key /\ zO c.value) (hm : m <= 3000000) :
 Calls Tryz.prog 23 #[.pointer (some ⟨q.t, 0, none⟩), v] w λ e w' => ∃ fe, e = .returned (.int .i64 fe) /\ KComPost w b x first size k L q T z K m cs fe w' := by
 have hr := h.tab.commit h.size hm hbad hv;obtain ⟨r1, r2, r3, r4, r5⟩ := ComOn.tab h.tab hr;refine (commit_any b x _ first size k L q T v cs w h.sys.sys (h.tab.fine h.size (by omega)) h.tab.ok (by omega) hb hbad hv).mono ?_;rintro e w' ⟨rfl, hP⟩;obtain ⟨b', k', q', hd, hl, ht, ha, hX, hS⟩ := h.sys.tabledZ hP;exact ⟨_, rfl, b', k', q', _, _, _, .tabled hd hl ht ha hX, hS.renum r1.vers, r1, r2, r3, r4, r5⟩
theorem KOn.known {w : World} {b : Bks} {x : Dsk} {first size : Nat} {k : LBk} {L : LogS} {q : TBk} {T : TblS} {z : KBk} {K : tV} {m M : Nat} (hS : KSys w b x (m * 200 + 100000) first size k L q T z K) (hT : TabV x first size L T m) (hw : K.was ≠ [] /\ K.was.length <= m + 1) (hr : K.room = T.cap) (hn : K.now = T.ps) (hd : K.dead = false) (ho : nY K.now M) (hs : size <= 65536) : KOn w b x first size k L q T z K m M :=
 ⟨hS, hT, hw, hr, hn, hd, ho, hs⟩
def goneC (c : TChg) : TChg := ⟨c.key, [], 0, 0, true⟩
def fJ (cs : List TChg) : List TChg := cs.map goneC
theorem fL (cs : List TChg) : (fJ cs).length = cs.length := List.length_map ..
theorem gones_good {cs : List TChg} (h : ¬ badB (wB cs)) : ¬ badB (wB (fJ cs)) := by
 obtain ⟨h1, h2⟩ := fK h;refine not_bad (by rw [fL]; rw [rH] at h1; exact h1) λ d hd => ?_;obtain ⟨c, hc, rfl⟩ := List.mem_map.1 hd;obtain ⟨g1, g2, -⟩ := h2 c.chg (List.mem_map_of_mem hc);show Chg.good ⟨c.key, _, true⟩ = true;unfold Chg.good;have g1 : 0 < c.key.length := g1;have g2 : c.key.length <= 64 := g2;simp [g1, g2]
theorem gones_all {cs : List TChg} : ∀ c ∈ wB (fJ cs), c.gone = true := λ c hc => by
 obtain ⟨d, hd, rfl⟩ := List.mem_map.1 hc;obtain ⟨e, he, rfl⟩ := List.mem_map.1 hd;rfl
theorem live_gones : ∀ {cs : List Chg} {ps : List Pr}, yQ (zS ps) -> (∀ c ∈ cs, c.gone = true) -> zU (xH ps cs) <= zU ps
 | [], ps, _, _ => Nat.le_refl _
 | c :: cs, ps, hr, h => by
  have h1 := live_chg hr c;rw [if_pos (h c List.mem_cons_self)] at h1;have h2 := live_gones (cs := cs) (ps := chgP ps c) (fO hr) λ d hd => h d (List.mem_cons_of_mem _ hd);have e : xH ps (c :: cs) = xH (chgP ps c) cs := rfl;rw [e];omega
theorem rec_gones {cs : List Chg} (hn : cs.length <= 80) (h : ∀ c ∈ cs, c.gone = true /\ c.key.length <= 64) : (recB cs).length <= 8192 := by
 have key : ∀ cs : List Chg, (∀ c ∈ cs, c.gone = true /\ c.key.length <= 64) -> (cs.flatMap chgB).length <= cs.length * 75 := by
  intro cs
  induction cs with
  | nil => exact λ _ => Nat.zero_le _
  | cons c cs ih =>
   intro h;have h1 := ih λ d hd => h d (List.mem_cons_of_mem _ hd);obtain ⟨h2, h3⟩ := h c List.mem_cons_self;have h4 := mT (show c.key.length <= 4096 by omega);have h5 : (chgB c).length <= 75 := by unfold chgB; rw [if_pos h2, List.length_cons]; omega
   rw [List.flatMap_cons, List.length_append, List.length_cons];omega
 have h1 := key cs h;have h2 := xU cs.length (by omega);unfold recB;rw [List.length_append, List.length_cons];omega
def gnC : List (Value × List Int) -> List Value
 | [] => []
 | p :: l => p.1 :: .slice none 0 0 :: .int .i64 0 :: .int .u8 0 :: .bool true :: gnC l
theorem gnC_snoc : ∀ (l : List (Value × List Int)) (p : Value × List Int), gnC (l ++ [p]) = gnC l ++ [p.1, .slice none 0 0, .int .i64 0, .int .u8 0, .bool true]
 | [], p => rfl
 | x :: l, p => by show gnC (x :: (l ++ [p])) = _; simp only [gnC, gnC_snoc l p, List.cons_append]
theorem gnC_get : ∀ {l : List (Value × List Int)} {i : Nat} {p : Value × List Int}, l[i]? = some p -> (gnC l)[i * 5]? = some p.1 /\ (gnC l)[i * 5 + 1]? = some (.slice none 0 0) /\ (gnC l)[i * 5 + 2]? = some (.int .i64 0) /\ (gnC l)[i * 5 + 3]? = some (.int .u8 0) /\ (gnC l)[i * 5 + 4]? = some (.bool true)
 | [], i, p, h => by simp at h
 | x :: l, 0, p, h => by simp at h; subst h; exact ⟨rfl, rfl, rfl, rfl, rfl⟩
 | x :: l, i + 1, p, h => by
  rw [List.getElem?_cons_succ] at h;obtain ⟨h1, h2, h3, h4, h5⟩ := gnC_get h;rw [show (i + 1) * 5 = i * 5 + 5 by omega];exact ⟨h1, h2, h3, h4, h5⟩
structure fN (w : World) (B A : Nat) (v : Value) (l : List (Value × List Int)) : Prop where
 row : w.ownsRow B 54 5 v l.length (gnC l)
 key : ∀ p ∈ l, SrcE w p.1 (u8s p.2) /\ zO p.2 /\ p.2.length <= 1048576 /\ ∀ j, obk p.1 = some j -> j < w.heap.size /\ j < A
theorem fN.nil (w : World) (B A : Nat) : fN w B A (.slice none 0 0) [] := ⟨World.ownsRow_nil _ _ _ _, λ p hp => by cases hp⟩
theorem und_changes' : Tryz.prog.underlying 42 = some (.slice 54) := by kernel_rfl
theorem info_tchange : (Tryz.prog.info? 54).map (λ i => (i.zero, i.size, i.bytes)) = some (some (.agg #[.slice none 0 0, .slice none 0 0, .int .i64 0, .int .u8 0, .bool false]), 5, 64) := by kernel_rfl
theorem fN.app {w : World} {B A : Nat} {v : Value} {l : List (Value × List Int)} (h : fN w B A v l) (hn : l.length <= 1048576) (p : Value × List Int) (hp : SrcE w p.1 (u8s p.2)) (hb : zO p.2) (hl : p.2.length <= 1048576) (hj : ∀ j, obk p.1 = some j -> j < w.heap.size /\ j < A) (hA : A <= B) (hB : B <= w.heap.size) (g c : Nat)
 (hg : w.heap[g]? = some (.cells #[p.1, .slice none 0 0, .int .i64 0, .int .u8 0, .bool true] 54 (0, 0))) (ty : TypeId) :
 ∃ v' w', (Builtin.append_ #[42, 42] ty #[v, .slice (some ⟨g, 0, none⟩) 1 c]).run Tryz.prog w = .ok v' w' /\ fN w' B A v' (l ++ [p]) /\ Below B w w' /\ ∃ a cap, v' = .slice a (l.length + 1) cap := by
 obtain ⟨i0, hi, hz0, hz1, hz2⟩ := info_parts info_tchange;obtain ⟨ap, cp, hps, -⟩ := hp.shape;obtain ⟨v', w', r1, r2, r3, r4⟩ := sG (P := Tryz.prog) w B 42 ty 54 i0 (.agg #[.slice none 0 0, .slice none 0 0, .int .i64 0, .int .u8 0, .bool false]) 5 64 und_changes' hi hz0 hz1 hz2 rfl (by decide) v l.length _ h.row ⟨g, 0, none⟩ 1 c [p.1, .slice none 0 0, .int .i64 0, .int .u8 0, .bool true] rfl (λ j u hu => by
  rw [Addr.add_lit, Nat.zero_add];exact yV hg j u (by simpa using hu)) (λ u hu => by
   simp only [List.mem_cons, List.mem_nil_iff, or_false] at hu;rcases hu with rfl | rfl | rfl | rfl | rfl
   . rw [hps]; rfl
   . rfl
   . rfl
   . rfl
   . rfl) (by unfold maxLen; omega) (by omega) hB
 obtain ⟨a, cap, hsh, -⟩ := zP r2;have hX : Ext (λ j => v.ownBlock = some j) w w' := r3.ext.mono λ k _ ⟨_, _, h, _⟩ => h;have hge : ∀ j, v.ownBlock = some j -> B <= j := λ j hj => (h.row.lt j hj).1;refine ⟨v', w', r1, ⟨by rw [List.length_append, gnC_snoc]; exact r2, λ p' hp' => ?_⟩, hX.to_belowAt hB λ k hk e => by have := hge k e; omega, a, cap, hsh⟩;have hgo : ∀ p' : Value × List Int, SrcE w p'.1 (u8s p'.2) /\ zO p'.2 /\ p'.2.length <= 1048576 /\ (∀ j, obk p'.1 = some j -> j < w.heap.size /\ j < A) -> SrcE w' p'.1 (u8s p'.2) /\ zO p'.2 /\ p'.2.length <= 1048576 /\ ∀ j, obk p'.1 = some j -> j < w'.heap.size /\ j < A := λ p' ⟨k1, k2, k3, k4⟩ =>
  ⟨k1.ext hX λ j hj e => by have := (k4 j hj).2; have := hge j e; omega, k2, k3, λ j hj => ⟨Nat.lt_of_lt_of_le (k4 j hj).1 hX.size, (k4 j hj).2⟩⟩
 rcases List.mem_append.1 hp' with hp' | hp'
 . exact hgo p' (h.key p' hp')
 . rw [List.mem_singleton.1 hp'];exact hgo p ⟨hp, hb, hl, hj⟩
theorem fN.below {w w' : World} {B A : Nat} {v : Value} {l : List (Value × List Int)} (h : fN w B A v l) (hb : Below w.heap.size w w') : fN w' B A v l :=
 ⟨yA h.row hb, λ p hp => let ⟨a, b, c, d⟩ := h.key p hp; ⟨a.below hb, b, c, λ j hj => ⟨Nat.lt_of_lt_of_le (d j hj).1 hb.size, (d j hj).2⟩⟩⟩
theorem fN.tcs {w : World} {B A : Nat} {v : Value} {l : List (Value × List Int)} (h : fN w B A v l) (F : Nat -> Prop) (hF : ∀ j, v.ownBlock = some j -> ¬ F j) (hFB : ∀ j, F j -> A <= j) : qW w F v (l.map λ p => ⟨p.2, [], 0, 0, true⟩) := by
 obtain ⟨a, cap, rfl, -⟩ := zP h.row;refine ⟨a, cap, by rw [List.length_map], λ i c hc => ?_⟩;rw [List.getElem?_map] at hc;obtain ⟨p, hp, rfl⟩ := Option.map_eq_some_iff.1 hc;have hil := (List.getElem?_eq_some_iff.1 hp).1;obtain ⟨g, cp, hv3, hg1, hg2, -, -, hcl, -⟩ := xB h.row (by omega);injection hv3 with e1 e2 e3;subst e1;obtain ⟨p1, p2, p3, p4, p5⟩ := gnC_get hp;obtain ⟨k1, k2, k3, k4⟩ := h.key p (List.mem_of_getElem? hp);have c1 := hcl (i * 5) (by omega);have c2 := hcl (i * 5 + 1) (by omega);have c3 := hcl (i * 5 + 2) (by omega);have c4 := hcl (i * 5 + 3) (by omega);have c5 := hcl (i * 5 + 4) (by omega);rw [p1] at c1;rw [p2] at c2;rw [p3] at c3;rw [p4] at c4;rw [p5] at c5;refine ⟨g, 0, p.1, .slice none 0 0, rfl, by rw [Nat.zero_add]; exact c1, by rw [Nat.zero_add]; exact c2, by rw [Nat.zero_add]; exact c3, by rw [Nat.zero_add]; exact c4, by rw [Nat.zero_add]; exact c5, ⟨k1, .inl (.inr ⟨rfl, rfl⟩), k2, (λ b hb => by cases hb), (show -9223372036854775808 <= (0 : Int) /\ (0 : Int) <= 9223372036854775807 by decide), (show 0 <= (0 : Int) /\ (0 : Int) < 256 by decide), k3, Nat.zero_le _⟩, hF g rfl, λ j hj => ?_⟩;rcases hj with hj | hj
 . exact ⟨(k4 j hj).1, λ e => by have := (k4 j hj).2; have := hFB j e; omega⟩
 . cases hj
structure RoomI (w : World) (css : List (List TChg)) (s kb : Nat) (i : Nat) (wr : World) : Prop where
 below : Below w.heap.size w wr
 on : ∃ (b : Bks) (x : Dsk) (k : LBk) (L : LogS) (q : TBk) (T : TblS) (z : KBk) (K : tV), KOn wr b x 2 s k L q T z K (2 * i + 2 * (i / 4)) (2 * fI (css.take i)) /\ (∀ j, kAll b k q z j -> w.heap.size <= j) /\ z.kb = kb
theorem KOn.k1 {w : World} {b : Bks} {x : Dsk} {first size : Nat} {k : LBk} {L : LogS} {q : TBk} {T : TblS} {z : KBk} {K : tV} {m M : Nat} (h : KOn w b x first size k L q T z K m M) : w.cell? ⟨z.kb, 1, none⟩ = some (.pointer (some ⟨q.t, 0, none⟩)) := h.sys.cs.2.1
theorem RoomI.next {w wr w' : World} {css : List (List TChg)} {s i : Nat} {b b' : Bks} {y : Dsk} {k k' : LBk} {L' : LogS} {q q' : TBk} {T' : TblS} {z z' : KBk} {K' : tV} {m' M' : Nat} (hB : Below w.heap.size w wr) (hge : ∀ j, kAll b k q z j -> w.heap.size <= j) (hL : qD wr b k q z w' b' k' q' z') (hK : KOn w' b' y 2 s k' L' q' T' z' K' m' M')
 (hm : m' <= 2 * (i + 1) + 2 * ((i + 1) / 4)) (hM : M' <= 2 * fI (css.take (i + 1))) : RoomI w css s z.kb (i + 1) w' := by
 refine ⟨sV hB hL.ext hB.size hge, b', y, k', L', q', T', z', K', hK.mono hm hM, λ j hj => ?_, hL.kb⟩;rcases hL.all j hj with e | e
 . exact hge j e
 . exact Nat.le_trans hB.size e
def RoomJ (wr : World) (b : Bks) (k : LBk) (q : TBk) (z : KBk) (s m M : Nat) (wx : World) : Prop :=
 ∃ (b1 : Bks) (y1 : Dsk) (k1 : LBk) (L1 : LogS) (q1 : TBk) (T1 : TblS) (z1 : KBk) (K1 : tV), qD wr b k q z wx b1 k1 q1 z1 /\ KOn wx b1 y1 2 s k1 L1 q1 T1 z1 K1 m M
theorem vR.link {w w' : World} {b b' : Bks} {k k' : LBk} {q q' : TBk} {z z' : KBk} {v : Value} {ps : List Pr} (h : vR w (kAll b k q z) v ps) (hL : qD w b k q z w' b' k' q' z') : vR w' (kAll b' k' q' z') v ps :=
 ((h.mono (G := λ j => kAll b k q z j \/ kAll b' k' q' z' j) λ j hj => hj.elim .inl (hL.all j)).ext hL.ext λ j hj => .inl hj).mono λ j hj => .inl (.inr hj)
theorem tableRoom_any (n : Int) (hn : -9223372036854775808 <= n /\ n <= 9223372036854775807) (v : Value) (css : List (List TChg)) (w : World) (hP : Pkg w) (hv : fS w (λ j => w.heap.size <= j) v css) (hc : css.length <= 1048575) (hm : fI css <= 174762) :
 Calls Tryz.prog 5 #[.int .i64 n, v] w λ e w' => e = .returned (.bool true) /\ Below w.heap.size w w' := by
 have HB := zB (begin_on n hn w hP);have hsp := lL n (show (83 : Int) <= 65532 by decide);obtain ⟨s, hs⟩ : ∃ s : Nat, (pS n 83 65532).toNat = s := ⟨_, rfl⟩;rw [hs] at HB;have h10 := hP.lt;obtain ⟨av, cv, hvs, -⟩ := id hv;subst hvs;obtain ⟨nb, hnb⟩ : ∃ nb, css.length = nb := ⟨_, rfl⟩;rw [hnb] at hv hc ⊢;have HH := zB (zC hv (zC hnb hm));clear hP hv hnb hm hn hsp hs;go_enter Tryz.func5, Tryz.ntmps5
 go_wp2_with fail
 refine HB.out.mono ?_;rintro e w1 ⟨b, x, k, L, q, T, z, K, rfl, hK, -, hge, hB1, -, -, -, -⟩;have HI := zB (show RoomI w css s z.kb 0 w1 from ⟨hB1, b, x, k, L, q, T, z, K, hK, hge, rfl⟩);obtain ⟨kb, hkb⟩ : ∃ kb, z.kb = kb := ⟨_, rfl⟩;rw [hkb] at HI ⊢;clear hK hge hB1 HB hkb
 go_wp2_with fail
 go_loopw [7] (λ vi wr => ∃ i : Nat, vi = .int .i64 i /\ i <= nb /\ RoomI w css s kb i wr) (λ vi _ => nb - (intOf vi).toNat)
 case atStart => exact ⟨0, rfl, Nat.zero_le _, HI.out⟩
 case round =>
  obtain ⟨i, rfl, hi, hRI⟩ := hrel;obtain ⟨hB, b, x, k, L, q, T, z, K, hK, hge, rfl⟩ := hRI;by_cases hin : i < nb
  . have hin' : (i : Int) < (nb : Int) := by omega
    obtain ⟨cs, hci⟩ : ∃ cs, css[i]? = some cs := ⟨_, List.getElem?_eq_getElem (by rw [HH.out.2.1]; exact hin)⟩;obtain ⟨g, o, u, rfl, k1, hcs, -⟩ := (HH.out.1.ext (S := λ j => w.heap.size <= j) (Ext.of_belowAt hB λ j h1 _ => h1) λ j hj => hj).at hci;have hms := manyC_succ hci;have hml := manyC_le css (i + 1);have hmm := HH.out.2.2;have hF : ∀ (W : World), Below wr.heap.size wr W -> qW W (kAll b k q z) u cs := λ W hW => (hcs.below hW).mono λ j hj => .inl (hge j hj);have HNO := zB (now_any wr hK.sys hK.was.1 (by have := hK.was.2; omega));have c1 := hK.k1;obtain ⟨au, cu, hus, -⟩ := id hcs;subst hus;have HR := zB (zC hB (zC hK (zC hge (zC hci (zC hcs (zC hF (zC hms (zC hml hmm))))))));clear hB hK hge hci hcs hF
    go_wp2_with fail
    refine HNO.out.mono ?_;rintro e w2 ⟨u1, rfl, hu1, hB2⟩;have HD := zB (done_any (kAll b k q z) u1 _ K.now cs w2 (2 * fI (css.take i)) hu1 HR.out.2.1.ok (HR.out.2.2.2.2.2.1 _ hB2) (λ j hj => Nat.lt_of_lt_of_le (HR.out.2.1.sys.lt j hj) hB2.size) (by omega));obtain ⟨a1, p1, hus, -⟩ := id hu1;subst hus;have HB2 := zB hB2;clear hu1 hB2 HNO
    go_wp2_with fail
    refine HD.out.mono ?_;rintro e w3 ⟨u2, rfl, hu2, hok2, hB3⟩;have hB23 := HB2.out.trans (hB3.mono HB2.out.size);obtain ⟨a2, p2, hus, -⟩ := id hu2;have HG := zB (tgood_any (kAll b k q z) _ cs w3 (HR.out.2.2.2.2.2.1 _ hB23) (by omega));subst hus;have H3 := zB (zC hu2 (zC hok2 hB23));clear hu2 hok2 hB3 hB23 HD
    go_wp2_with fail
    refine HG.out.mono ?_;rintro e w4 ⟨rfl, hB4⟩;have hB24 := H3.out.2.2.trans (hB4.mono H3.out.2.2.size);have c14 := zG hB24 c1;have H4 := zB (zC hB24 (H3.out.1.below hB4));clear hB4 hB24 HG;by_cases hbad : badB (wB cs)
    . rw [rV hbad]
      go_wp2_with fail
      refine ⟨⟨i + 1, by simp, by omega, RoomI.next HR.out.1 HR.out.2.2.1 ((qD.refl wr b k q z).below H4.out.1) (HR.out.2.1.below H4.out.1) (by omega) (by omega)⟩, ?_⟩;show nb - ((i : Int) + 1).toNat < nb - (i : Int).toNat;omega
    . rw [goodC_true hbad];have Hbad := zB hbad;have hT4 := HR.out.2.2.2.2.2.1 _ H4.out.1;clear hbad
      go_wp2_with fail
      have hK4 := HR.out.2.1.below H4.out.1;have hT4' := zB hT4;have hK4' := zB hK4;clear hT4 hK4;refine xJ (vF λ _ _ _ => False) 7 [] (λ j => if j = 5 then some (λ _ v w' => qA w' (w4).heap.size 0 v (wB cs)) else none) (λ _ => True) (λ _ _ => True) fol (by kernel_rfl) (λ _ _ _ _ _ => trivial) (λ U hU hh => ?_);clear hh;have qc1 := uJ (S := λ _ _ _ => False) (zG hU c14) (λ _ _ h => h);simp only [fT]
      repeat ((first | (refine wK _ (by first | exact .inl rfl | exact .inr rfl) (by first | exact .inl rfl | exact .inr rfl) rfl ?_) | (refine yZ ?_ rfl rfl (λ w1 hb1 hf1 => ?_) ?_; rotate_left; (go_simp; (try simp (disch := omega) only [zE, toNatUp, iteOmega]); (try go_simp); rfl)) | (refine vA (by first | exact .inl rfl | exact .inr rfl) rfl ?_)); simp only [zD])
      refine xV _ rfl (λ v x1 x2 h hr => h.below (yG hr)) rfl (λ x5 hr5 hf5 => ?_) (λ v5 x5 hr5 hS5 => ?_)
      . (unfold yE; go_simp; simp only [zN])
        have hb := zF hU (yG hr5);refine (ours_any (kAll b k q z) _ cs x5 ((hT4'.out).below hb) (by omega) (by have := hb.size; have := (hK4'.out).sys.sys.lsys.sys.pkg.lt; omega)).mono ?_;rintro e w' ⟨u, rfl, hL, hB'⟩;exact ⟨_, rfl, yL.of_below hB', hL.base hb.size⟩
      simp only [zD];have hb5 := zF hU (yG hr5);have HCM := zB (kcommit_on v5 (wB cs) x5 ((hK4'.out).below hb5) (hS5.batch (allB b k q) λ j hj => (hK4'.out).sys.lt j (.inl hj)) Hbad.out (tcs_bytes hT4'.out) (by omega));have HB5 := zB hb5;refine sZ (λ v w' => ∃ fe, v = .int .i64 fe /\ KComPost x5 b x 2 s k L q T z K (2 * i + 2 * (i / 4)) (wB cs) fe w') _ rfl rfl ?_ ?_
      . clear hr5 hS5 hU hb5 qc1
        (unfold yE; go_simp; simp only [zN])
        refine HCM.out.mono ?_;rintro e w' ⟨fe, rfl, hP⟩;exact ⟨_, rfl, fe, rfl, hP⟩
      rintro v6 w5 - ⟨fe, rfl, hP⟩;simp only [zD];refine oJ ?_;clear hr5 hS5 hU hb5 qc1 HCM;obtain ⟨b', k', q', y, L', T', hL, hS, hT, hcap, hdl, -, hcase⟩ := hP;have hL0 := ((qD.refl wr b k q z).below (H4.out.1.trans (HB5.out.mono H4.out.1.size))).trans hL;have hu5 := (H4.out.2.below HB5.out).link hL;have hdn : vV K.now cs = xH T.ps (wB cs) := by rw [HR.out.2.1.now]; rfl
      have hne : ∀ p ∈ vV K.now cs, p.1 ≠ [] := done_ne HR.out.2.1.ok.rise (λ p hp e => by
       rw [HR.out.2.1.now] at hp;have := (HR.out.2.1.tab.good p hp).2.2.1;rw [e] at this
       cases this) λ c hc e => by
       have := (fK Hbad.out).2 c.chg (List.mem_map_of_mem hc);rw [show c.chg.key = c.key from rfl, e] at this;exact absurd this.1 (by decide)
      obtain ⟨-, -, -, -, c45, -⟩ := hS.cs;obtain ⟨av, hav⟩ : ∃ av, zU (vV K.now cs) = av := ⟨_, rfl⟩;rw [<- hdn, hav, <- HR.out.2.1.room] at hcase;obtain ⟨room, hroom⟩ : ∃ r, K.room = r := ⟨_, rfl⟩;rw [hroom] at hcase c45;have H5 := zB (zC hL0 (zC hS (zC hT (zC hcap (zC hu5 (zC hdn (zC hne (zC hav hroom))))))));have Hcase := zB hcase;clear hL hL0 hS hT hcap hu5 hdn hne hav hcase hroom c14 c1 k1
      go_wp2_with fail
      refine zR 7 (λ j => if j = 1 then some (λ v _ => v = .int .i64 av) else none) fol (by kernel_rfl) (λ V hV hh => ?_);clear hh;have q1 := zV hV c45
      repeat ((first | refine zL _ (by first | exact .inl rfl | exact .inr rfl) rfl rfl ?_ | (refine zJ ?_ rfl rfl (λ w1 hb1 hf1 => ?_) ?_; rotate_left; (go_simp; (try simp (disch := omega) only [zE, toNatUp, iteOmega]); (try go_simp); rfl)) | refine zM rfl ?_); simp only [zD])
      refine zW _ rfl (λ _ _ _ h _ => h) rfl (λ w1 hb1 hf1 => ?_) ?_
      . (unfold yE; go_simp; simp only [zN])
        refine (rY (kAll b' k' q' z) _ (vV K.now cs) _ (H5.out.2.2.2.2.1.below (zF hV hb1)) (Nat.le_trans H3.out.2.1.len (by omega)) H3.out.2.1.small H5.out.2.2.2.2.2.2.1).mono ?_;rintro e w' ⟨rfl, hB⟩;rw [H5.out.2.2.2.2.2.2.2.1];exact ⟨_, rfl, hB, rfl⟩
      rintro v7 W7 hB7 rfl;simp only [zD]
      repeat ((first | refine zL _ (by first | exact .inl rfl | exact .inr rfl) rfl rfl ?_ | (refine zJ ?_ rfl rfl (λ w1 hb1 hf1 => ?_) ?_; rotate_left; (go_simp; (try simp (disch := omega) only [zE, toNatUp, iteOmega]); (try go_simp); rfl)) | refine zM rfl ?_); simp only [zD])
      refine zZ ?_;have hB57 := zF hV hB7;have c37 := (H5.out.2.1.below hB57).cs;have HB57 := zB hB57;clear q1 hV hB7 hB57 c45;simp only [List.drop_succ_cons, List.drop_zero]
      go_upto_if 53 with fail
      go_cut [] from 21 to 132 (λ wx => wx = W7 /\ fe ≠ 81)
      case first =>
       by_cases h81 : fe = 81
       . obtain ⟨-, hT81, -⟩ := ((Hcase.out.resolve_left λ h => by have := h.1; omega).resolve_left λ h => by have := h.1; omega);subst h81;have hK6 : KOn W7 b' y 2 s k' L' q' T' z K (2 * i + 2 * (i / 4) + 2) (2 * fI (css.take i)) := (KOn.known H5.out.2.1 H5.out.2.2.1 ⟨HR.out.2.1.was.1, by have := HR.out.2.1.was.2; omega⟩ (HR.out.2.1.room.trans H5.out.2.2.2.1.symm) (by rw [hT81]; exact HR.out.2.1.now) HR.out.2.1.dead HR.out.2.1.ok HR.out.2.1.size).below HB57.out;have HI2 := zB (RoomI.next (css := css) (i := i) HR.out.1 HR.out.2.2.1 (H5.out.1.below HB57.out) hK6 (by omega) (by have h1 := HR.out.2.2.2.2.2.2.1; omega));clear hK6 hT81 c37
         go_wp2_with fail
         refine ⟨⟨i + 1, by simp, by omega, HI2.out⟩, ?_⟩;show nb - ((i : Int) + 1).toNat < nb - (i : Int).toNat;omega
       . have h81' : (fe == 81) = false := by rw [beq_eq_false_iff_ne]; exact h81
         go_wp2_with fail
         go_meet
         case rel => exact ⟨rfl, h81⟩
      case rest =>
       obtain ⟨hcut, h81⟩ := hcut;subst hcut;clear c37
       go_upto_region 13 with fail
       have hwc : wc = wc := rfl;obtain ⟨W8, hW8⟩ : ∃ W, wc = W := ⟨_, rfl⟩;subst hW8
       go_cut [11, 65] from 21 to 132 (λ _ s65 wx => s65 = .bool false /\ wx = wc)
       case first =>
        rcases Hcase.out with ⟨h0, -, h2⟩ | ⟨h0, -, h2⟩ | ⟨h0, -⟩
        . subst h0;rw [decide_eq_false (show ¬ room < av by omega)]
          go_wp2_with fail
          go_meet
          case rel => exact ⟨rfl, rfl⟩
        . subst h0;rw [decide_eq_true h2]
          go_wp2_with fail
          go_meet
          case rel => exact ⟨rfl, rfl⟩
        . exact absurd h0 h81
       case rest =>
        obtain ⟨rfl, hcut⟩ := hcut;subst hcut
        go_upto_if 67 with fail
        go_cut [] from 21 to 132 (λ wx => RoomJ wr b k q z s (2 * i + 2 * (i / 4) + 2) (2 * fI (css.take i) + cs.length) wx)
        case first =>
         rcases Hcase.out with ⟨h0, h1, h2⟩ | ⟨h0, h1, h2⟩ | ⟨h0, -⟩
         . subst h0;have hS6 := H5.out.2.1.below HB57.out;have hb1 := zQ wc (.cells #[.slice a2 (vV K.now cs).length p2] 44);have g1 := World.alloc_heap_new wc (.cells #[.slice a2 (vV K.now cs).length p2] 44);have hlt := hS6.lt;have hone : vR (wc.alloc (.cells #[.slice a2 (vV K.now cs).length p2] 44)) (λ j => (allB b' k' q' j \/ j = z.kb) \/ j = wc.heap.size) (.slice a2 (vV K.now cs).length p2) (vV K.now cs) := ((H5.out.2.2.2.2.1.below HB57.out).mono λ j hj => by
            rcases hj with (hj | hj) | hj
            . exact .inl (.inl hj)
            . exact .inl (.inr (.inl hj))
            . exact .inr (by omega)).below hb1
           have hW := rZ.one g1 hone λ e => by
            rcases e with e | e
            . have := hlt _ (.inl e); omega
            . have := hlt _ (.inr (.inl e)); omega
           have hS8 := hS6.rowedK (Ext.alloc wc (.cells #[.slice a2 (vV K.now cs).length p2] 44)) hW (.inr (Nat.le_refl _));have hL8 := (H5.out.1.below HB57.out).trans (qD.rowed (b := b') (k := k') (q := q') (z := z) (o := 0) (cap := 1) (v := .slice (some ⟨wc.heap.size, 0, none⟩) 1 1) (Ext.alloc wc (.cells #[.slice a2 (vV K.now cs).length p2] 44)) (.inr (Nat.le_refl _)));have hnow : tV.now { K with was := [vV K.now cs] } = vV K.now cs := rfl;have HJ := zB (show RoomJ wr b k q z s (2 * i + 2 * (i / 4) + 2) (2 * fI (css.take i) + cs.length) ((wc.alloc (.cells #[.slice a2 (vV K.now cs).length p2] 44)).setCell ⟨z.kb, 3, none⟩ (.slice (some ⟨wc.heap.size, 0, none⟩) 1 1)) from
            ⟨b', y, k', L', q', T', _, _, hL8, KOn.known hS8 H5.out.2.2.1 ⟨by simp, by simp⟩ (HR.out.2.1.room.trans H5.out.2.2.2.1.symm) (hnow.trans h1.symm) HR.out.2.1.dead (by rw [hnow]; exact H3.out.2.1) HR.out.2.1.size⟩)
           have c3 := zG hb1 hS6.cs.2.2.2.1;have cf := (hS6.below hb1).cs.2.2.2.2.2.2.2 3;clear hS6 hb1 g1 hlt hone hW hS8 hL8
           go_wp2_with fail
           go_meet
           case rel => exact HJ.out
         . subst h0;have HJ := zB (show RoomJ wr b k q z s (2 * i + 2 * (i / 4) + 2) (2 * fI (css.take i) + cs.length) wc from
            ⟨b', y, k', L', q', T', z, K, H5.out.1.below HB57.out, (KOn.known H5.out.2.1 H5.out.2.2.1 ⟨HR.out.2.1.was.1, by have := HR.out.2.1.was.2; omega⟩ (HR.out.2.1.room.trans H5.out.2.2.2.1.symm) (by rw [h1]; exact HR.out.2.1.now) HR.out.2.1.dead (HR.out.2.1.ok.mono (by omega)) HR.out.2.1.size).below HB57.out⟩)
           go_wp2_with fail
           go_meet
           case rel => exact HJ.out
         . exact absurd h0 h81
        case rest =>
         obtain ⟨b1, y1, k1, L1, q1, T1, z1, K1, hL1, hK1⟩ := hcut;have HZ := zB hL1.kb;rw [<- hL1.kb];have c1 := hK1.k1;have c4 : wc.cell? ⟨z1.kb, 4, none⟩ = some (.int .i64 T1.cap) := by have := hK1.sys.cs.2.2.2.2.1; rw [hK1.room] at this; exact this
         have hcp := hK1.tab.cap.le;have hlv := hK1.tab.live;have hro := hK1.tab.room;have hsz := hK1.size;have hcp2 : T1.live <= T1.cap := by omega
         have hcp3 : T1.cap <= 7000000 := by omega
         have HK1 := zB (zC hL1 hK1);clear hL1 hK1 H5 Hcase HB57 hT4' hK4' H4 H3 hcp hlv hro hsz
         go_wp2_with fail
         refine zR 25 (λ j => if j = 4 then some (λ v _ => v = .int .i64 ((T1.cap : Int) - (T1.live : Int))) else if j = 13 then some (λ v _ => v = .int .i64 T1.live) else if j = 22 then some (λ v w' => vR w' (kAll b1 k1 q1 z1) v K1.now) else if j = 23 then some (λ v _ => v = .bool true) else none) fol (by kernel_rfl) (λ V hV hh => ?_);clear hh;have r1 := zV hV c1;have r4 := zV hV c4
         repeat ((first | refine zL _ (by first | exact .inl rfl | exact .inr rfl) rfl rfl ?_ | (refine zJ ?_ rfl rfl (λ w1 hb1 hf1 => ?_) ?_; rotate_left; (go_simp; (try simp (disch := omega) only [zE, toNatUp, iteOmega]); (try go_simp); rfl)) | refine zM rfl ?_); simp only [zD])
         refine zW _ rfl (λ _ _ _ h _ => h) rfl (λ w1 hb1 hf1 => ?_) ?_
         . (unfold yE; go_simp; simp only [zN])
           refine (room_any b1.d k1.l q1 T1 _ (HK1.out.2.below (zF hV hb1)).sys.sys.tbl (by omega) (by omega)).mono ?_;rintro e w' ⟨rfl, hB⟩;exact ⟨_, rfl, hB, rfl⟩
         rintro v4 W4 hB4 rfl;simp only [zD]
         repeat ((first | refine zL _ (by first | exact .inl rfl | exact .inr rfl) rfl rfl ?_ | (refine zJ ?_ rfl rfl (λ w1 hb1 hf1 => ?_) ?_; rotate_left; (go_simp; (try simp (disch := omega) only [zE, toNatUp, iteOmega]); (try go_simp); rfl)) | refine zM rfl ?_); simp only [zD])
         refine zW _ rfl (λ _ _ _ h _ => h) rfl (λ w1 hb1 hf1 => ?_) ?_
         . (unfold yE; go_simp; simp only [zN])
           refine (live_any b1.d k1.l q1 T1 _ (HK1.out.2.below (zF hV hb1)).sys.sys.tbl).mono ?_;rintro e w' ⟨rfl, rfl⟩;exact ⟨_, rfl, Below.refl _ _, rfl⟩
         rintro v13 W13 hB13 rfl;simp only [zD]
         repeat ((first | refine zL _ (by first | exact .inl rfl | exact .inr rfl) rfl rfl ?_ | (refine zJ ?_ rfl rfl (λ w1 hb1 hf1 => ?_) ?_; rotate_left; (go_simp; (try simp (disch := omega) only [zE, toNatUp, iteOmega]); (try go_simp); rfl)) | refine zM rfl ?_); simp only [zD])
         refine zW _ rfl (by exact λ _ _ _ h hb => h.below hb) rfl (λ w1 hb1 hf1 => ?_) ?_
         . (unfold yE; go_simp; simp only [zN])
           refine (now_any _ (HK1.out.2.below (zF hV hb1)).sys HK1.out.2.was.1 (by have := HK1.out.2.was.2; omega)).mono ?_;rintro e w' ⟨u, rfl, hu, hB⟩;exact ⟨_, rfl, hB, hu⟩
         rintro v22 W22 hB22 hu22;simp only [zD]
         repeat ((first | refine zL _ (by first | exact .inl rfl | exact .inr rfl) rfl rfl ?_ | (refine zJ ?_ rfl rfl (λ w1 hb1 hf1 => ?_) ?_; rotate_left; (go_simp; (try simp (disch := omega) only [zE, toNatUp, iteOmega]); (try go_simp); rfl)) | refine zM rfl ?_); simp only [zD])
         refine zW _ rfl (λ _ _ _ h _ => h) rfl (λ w1 hb1 hf1 => ?_) ?_
         . (unfold yE; go_simp; simp only [zN])
           have hu : vR w1 (kAll b1 k1 q1 z1) v22 K1.now := hf1 95 (by decide) (by simp);refine (is_now (kAll b1 k1 q1 z1) v22 _ (HK1.out.2.below (zF hV hb1)) (by omega) hu).mono ?_;rintro e w' ⟨rfl, hB⟩;exact ⟨_, rfl, hB, rfl⟩
         rintro v23 W23 hB23 rfl;simp only [zD]
         repeat ((first | refine zL _ (by first | exact .inl rfl | exact .inr rfl) rfl rfl ?_ | (refine zJ ?_ rfl rfl (λ w1 hb1 hf1 => ?_) ?_; rotate_left; (go_simp; (try simp (disch := omega) only [zE, toNatUp, iteOmega]); (try go_simp); rfl)) | refine zM rfl ?_); simp only [zD])
         refine zZ ?_;have hb23 := zF hV (zF hB4 (zF hB13 (zF hB22 hB23)));have HX := zB hb23;clear r1 r4 hV hB4 hB13 hB22 hB23 hu22 hb23 c1 c4;simp only [List.drop_succ_cons, List.drop_zero];have hcsl : cs.length <= 1048576 := by omega
         go_wp2_with fail
         have hc23 : qW W23 (λ j => w.heap.size <= j) (.slice au cs.length cu) cs := (HR.out.2.2.2.2.1.ext HK1.out.1.ext λ j hj => HR.out.2.2.1 j hj).below HX.out;have hAB : w.heap.size <= W23.heap.size := Nat.le_trans HR.out.1.size (Nat.le_trans HK1.out.1.ext.size HX.out.size);have HC23 := zB (zC hc23 hAB);have hlR := zB (Nat.le_refl wr.heap.size);generalize wr = wA at *;clear hc23 hAB hlR
         go_loopw [12, 13] (λ vl vj wr => ∃ (j : Nat) (l : List (Value × List Int)), vj = .int .i64 j /\ j <= cs.length /\ l.length = j /\ l.map Prod.snd = (cs.take j).map TChg.key /\ fN wr W23.heap.size w.heap.size vl l /\ Below W23.heap.size W23 wr) (λ _ vj _ => cs.length - (intOf vj).toNat)
         case atStart => exact ⟨0, [], rfl, Nat.zero_le _, rfl, rfl, fN.nil _ _ _, Below.refl _ _⟩
         case round =>
          obtain ⟨j, l, rfl, hj, hlj, hmap, hrow, hBr⟩ := hrel;obtain ⟨al, cl, rfl, -⟩ := zP hrow.row;rw [hlj] at hrow ⊢;by_cases hjn : j < cs.length
          . have hjn' : (j : Int) < (cs.length : Int) := by omega
            obtain ⟨c, hcj⟩ : ∃ c, cs[j]? = some c := ⟨_, List.getElem?_eq_getElem hjn⟩;obtain ⟨g2, o2, ka, va, rfl, e1, -, -, -, -, e6, -, e8⟩ := (HC23.out.1.ext (S := λ _ => False) (Ext.of_below hBr) λ _ e => e.elim).at hcj;have hb0 := zQ wr (.cells #[ka, .slice none 0 0, .int .i64 0, .int .u8 0, .bool true] 54);have g0 := World.alloc_heap_new wr (.cells #[ka, .slice none 0 0, .int .i64 0, .int .u8 0, .bool true] 54);have hb0s := hb0.size;obtain ⟨v', w', ra, hrow', hB', a', cap', rfl⟩ := (hrow.below hb0).app (by omega) (ka, c.key) (e6.key.below hb0) e6.kb e6.kl (λ j hj => ⟨Nat.lt_of_lt_of_le (e8 j (.inl hj)).1 hb0s, by have := (e8 j (.inl hj)).2; omega⟩) HC23.out.2 (Nat.le_trans hBr.size hb0s) wr.heap.size 1 g0 42;rw [hlj] at ra hrow';have HRow := zB (zC hrow' (hBr.trans (((hb0.mono hBr.size).trans hB'))));have Hra := zB ra;have Hcj := zB (zC hcj hmap);obtain ⟨b1k, d1k, hka, -⟩ := e6.key.shape;subst hka;clear hrow' hB' ra hb0 g0 hrow hBr e6 e8 hcj hmap
            go_wp2_with (at_builtin; refine yW rfl (yM (.tmp 105) (.tmp 112) 42 42 rfl Hra.out) ?_)
            refine ⟨⟨j + 1, l ++ [(_, c.key)], by simp, by omega, by rw [List.length_append, hlj]; rfl, ?_, HRow.out.1, HRow.out.2⟩, ?_⟩
            . rw [List.map_append, Hcj.out.2, List.take_add_one, Hcj.out.1, List.map_append];rfl
            . show cs.length - ((j : Int) + 1).toNat < cs.length - (j : Int).toNat;omega
          . obtain rfl : j = cs.length := by omega
            have hjn' : ¬ (cs.length : Int) < (cs.length : Int) := by omega
            rw [List.take_length] at hmap;have hgn : (l.map λ p => (⟨p.2, [], 0, 0, true⟩ : TChg)) = fJ cs := by
             have : (l.map λ p => (⟨p.2, [], 0, 0, true⟩ : TChg)) = (l.map Prod.snd).map λ k => ⟨k, [], 0, 0, true⟩ := by rw [List.map_map]; rfl
             rw [this, hmap, List.map_map];rfl
            have hKb := HK1.out.2.below (HX.out.trans (hBr.mono HX.out.size));have hLb := HK1.out.1.below (HX.out.trans (hBr.mono HX.out.size));have hlt1 := (HK1.out.2.below HX.out).sys.lt;have htg : qW wr (kAll b1 k1 q1 z1) (.slice al cs.length cl) (fJ cs) := by
             have := hrow.tcs (kAll b1 k1 q1 z1) (λ j hj e => by have := (hrow.row.lt j hj).1; have := hlt1 j e; omega) λ j hj => by
              rcases HK1.out.1.all j hj with e | e
              . exact HR.out.2.2.1 j e
              . exact Nat.le_trans HR.out.1.size e
             rwa [hgn] at this
            have HG := zB (zC hKb (zC hLb htg));have c1 := hKb.k1;clear hrow hBr hgn hmap hKb hLb htg hlt1;by_cases hi4 : i % 4 = 3
            . have hi4' : (i : Int) % 4 = 3 := by omega
              go_wp2_with fail
              have hgl := fL cs;refine xJ (vF λ _ _ _ => False) 7 [] (λ j => if j = 5 then some (λ _ v w' => qA w' (wr).heap.size 0 v (wB (fJ cs))) else none) (λ _ => True) (λ _ _ => True) fol (by kernel_rfl) (λ _ _ _ _ _ => trivial) (λ U hU hh => ?_);clear hh;have qc1 := uJ (S := λ _ _ _ => False) (zG hU c1) (λ _ _ h => h);simp only [fT]
              repeat ((first | (refine wK _ (by first | exact .inl rfl | exact .inr rfl) (by first | exact .inl rfl | exact .inr rfl) rfl ?_) | (refine yZ ?_ rfl rfl (λ w1 hb1 hf1 => ?_) ?_; rotate_left; (go_simp; (try simp (disch := omega) only [zE, toNatUp, iteOmega]); (try go_simp); rfl)) | (refine vA (by first | exact .inl rfl | exact .inr rfl) rfl ?_)); simp only [zD])
              refine xV _ rfl (λ v x1 x2 h hr => h.below (yG hr)) rfl (λ x5 hr5 hf5 => ?_) (λ v5 x5 hr5 hS5 => ?_)
              . (unfold yE; go_simp; simp only [zN])
                have hb := zF hU (yG hr5);refine (ours_any (kAll b1 k1 q1 z1) _ (fJ cs) x5 ((HG.out.2.2).below hb) (by omega) (by have := hb.size; have := (HG.out.1).sys.sys.lsys.sys.pkg.lt; omega)).mono ?_;rintro e w' ⟨u, rfl, hL, hB'⟩;exact ⟨_, rfl, yL.of_below hB', hL.base hb.size⟩
              simp only [zD];have hb5 := zF hU (yG hr5);have HCM := zB (kcommit_on v5 (wB (fJ cs)) x5 ((HG.out.1).below hb5) (hS5.batch (allB b1 k1 q1) λ j hj => (HG.out.1).sys.lt j (.inl hj)) (gones_good Hbad.out) (tcs_bytes HG.out.2.2) (by omega));have HB5 := zB hb5;refine sZ (λ v w' => ∃ fe, v = .int .i64 fe /\ KComPost x5 b1 y1 2 s k1 L1 q1 T1 z1 K1 (2 * i + 2 * (i / 4) + 2) (wB (fJ cs)) fe w') _ rfl rfl ?_ ?_
              . clear hr5 hS5 hU hb5 qc1
                (unfold yE; go_simp; simp only [zN])
                refine HCM.out.mono ?_;rintro e w' ⟨fe, rfl, hP⟩;exact ⟨_, rfl, fe, rfl, hP⟩
              rintro v6 w5 - ⟨fe, rfl, hP⟩;simp only [zD];refine oJ ?_;clear hr5 hS5 hU hb5 qc1 HCM;obtain ⟨b2, k2, q2, y2, L2, T2, hL2, hS2, hT2, hcap2, -, -, hcase⟩ := hP;have hlg := live_gones (cs := wB (fJ cs)) HG.out.1.tab.rise gones_all;have hrg := rec_gones (cs := wB (fJ cs)) (by rw [rH, fL]; have := (fK Hbad.out).1; rw [rH] at this; exact this) λ c hc => ⟨gones_all c hc, ((fK (gones_good Hbad.out)).2 c hc).2.1⟩;have hro := HG.out.1.tab.room;obtain ⟨rfl, hps2, -⟩ := (hcase.resolve_right λ h => h.elim (λ h => by have := h.2.2; omega) λ h => by have := h.2.2; omega);have hHB5 := HB5.out;have hL02 := ((qD.refl wr b1 k1 q1 z1).below hHB5).trans hL2;have htg2 : qW w5 (kAll b2 k2 q2 z1) (.slice al cs.length cl) (fJ cs) := (((HG.out.2.2.below hHB5).mono (G := λ j => kAll b1 k1 q1 z1 j \/ kAll b2 k2 q2 z1 j) λ j hj => hj.elim .inl (hL2.all j)).ext hL2.ext λ j hj => .inl hj).mono λ j hj => .inl (.inr hj);have HNO := zB (now_any w5 hS2 HG.out.1.was.1 (by have := HG.out.1.was.2; omega));have H2 := zB (zC hL02 (zC hS2 (zC hT2 (zC hcap2 (zC hps2 htg2)))));clear hL2 hS2 hT2 hcap2 hcase hlg hrg hro hL02 htg2 hps2 hHB5 c1
              go_wp2_with fail
              refine HNO.out.mono ?_;rintro e w6 ⟨u1, rfl, hu1, hB6⟩;have HD := zB (done_any (kAll b2 k2 q2 z1) u1 _ K1.now (fJ cs) w6 _ hu1 HG.out.1.ok (H2.out.2.2.2.2.2.below hB6) (λ j hj => Nat.lt_of_lt_of_le (H2.out.2.1.lt j hj) hB6.size) (by omega));obtain ⟨a1, p1, hus, -⟩ := id hu1;subst hus;have HB6 := zB hB6;clear hu1 hB6 HNO
              go_wp2_with fail
              refine HD.out.mono ?_;rintro e w7 ⟨u2, rfl, hu2, hok2, hB7⟩;obtain ⟨a2, p2, hus, -⟩ := id hu2;subst hus;have hB67 := HB6.out.trans (hB7.mono HB6.out.size);have hS7 := H2.out.2.1.below hB67;have hb1 := zQ w7 (.cells #[.slice a2 (vV K1.now (fJ cs)).length p2] 44);have g1 := World.alloc_heap_new w7 (.cells #[.slice a2 (vV K1.now (fJ cs)).length p2] 44);have hlt := hS7.lt;have hone : vR (w7.alloc (.cells #[.slice a2 (vV K1.now (fJ cs)).length p2] 44)) (λ j => (allB b2 k2 q2 j \/ j = z1.kb) \/ j = w7.heap.size) (.slice a2 (vV K1.now (fJ cs)).length p2) (vV K1.now (fJ cs)) := (hu2.mono λ j hj => by
               rcases hj with (hj | hj) | hj
               . exact .inl (.inl hj)
               . exact .inl (.inr (.inl hj))
               . exact .inr (by omega)).below hb1
              have hW := rZ.one g1 hone λ e => by
               rcases e with e | e
               . have := hlt _ (.inl e); omega
               . have := hlt _ (.inr (.inl e)); omega
              have hS8 := hS7.rowedK (Ext.alloc w7 (.cells #[.slice a2 (vV K1.now (fJ cs)).length p2] 44)) hW (.inr (Nat.le_refl _));have hL8 := (H2.out.1.below hB67).trans (qD.rowed (b := b2) (k := k2) (q := q2) (z := z1) (o := 0) (cap := 1) (v := .slice (some ⟨w7.heap.size, 0, none⟩) 1 1) (Ext.alloc w7 (.cells #[.slice a2 (vV K1.now (fJ cs)).length p2] 44)) (.inr (Nat.le_refl _)));have hd2 : vV K1.now (fJ cs) = T2.ps := by rw [H2.out.2.2.2.2.1, HG.out.1.now]; rfl
              have hK9 := KOn.known hS8 H2.out.2.2.1 ⟨by simp, by simp⟩ (HG.out.1.room.trans H2.out.2.2.2.1.symm) hd2 HG.out.1.dead hok2 HG.out.1.size;have hHR1 := HR.out.1;have HI2 := zB (RoomI.next (css := css) (i := i) HR.out.1 HR.out.2.2.1 (HG.out.2.1.trans hL8) hK9 (by omega) (by have h1 := HR.out.2.2.2.2.2.2.1; omega));have c3 := zG hb1 hS7.cs.2.2.2.1;have cf := (hS7.below hb1).cs.2.2.2.2.2.2.2 3;clear hS7 hb1 g1 hlt hone hW hS8 hL8 hK9 hd2 hu2 hok2 hB7 hB67 HD;rw [HZ.out] at c3 cf HI2 ⊢
              go_wp2_with fail
              refine ⟨⟨i + 1, by simp, by omega, HI2.out⟩, ?_⟩;show nb - ((i : Int) + 1).toNat < nb - (i : Int).toNat;omega
            . have hi4' : ((i : Int) % 4 == 3) = false := by rw [beq_eq_false_iff_ne]; omega
              have HI2 := zB (RoomI.next (css := css) (i := i) HR.out.1 HR.out.2.2.1 HG.out.2.1 HG.out.1 (by omega) (by have h1 := HR.out.2.2.2.2.2.2.1; omega));rw [HZ.out]
              go_wp2_with fail
              refine ⟨⟨i + 1, by simp, by omega, HI2.out⟩, ?_⟩;show nb - ((i : Int) + 1).toNat < nb - (i : Int).toNat;omega
  . obtain rfl : i = nb := by omega
    have hi' : ¬ ((i : Int) < (i : Int)) := by omega
    have c1 := hK.k1;have hml := manyC_le css i;have hmm := HH.out.2.2;have HK := zB (zC hK (zC hB hge));clear hK hB hge
    go_wp2_with fail
    refine zR 7 (λ j => if j = 5 then some (λ v w' => vR w' (kAll b k q z) v K.now) else if j = 6 then some (λ v _ => v = .bool true) else none) fol (by kernel_rfl) (λ V hV hh => ?_);clear hh;have r1 := zV hV c1
    repeat ((first | refine zL _ (by first | exact .inl rfl | exact .inr rfl) rfl rfl ?_ | (refine zJ ?_ rfl rfl (λ w1 hb1 hf1 => ?_) ?_; rotate_left; (go_simp; (try simp (disch := omega) only [zE, toNatUp, iteOmega]); (try go_simp); rfl)) | refine zM rfl ?_); simp only [zD])
    refine zW _ rfl (by exact λ _ _ _ h hb => h.below hb) rfl (λ w1 hb1 hf1 => ?_) ?_
    . (unfold yE; go_simp; simp only [zN])
      refine (now_any _ (HK.out.1.below (zF hV hb1)).sys HK.out.1.was.1 (by have := HK.out.1.was.2; omega)).mono ?_;rintro e w' ⟨u, rfl, hu, hB⟩;exact ⟨_, rfl, hB, hu⟩
    rintro v5 W5 hB5 hu5;simp only [zD]
    repeat ((first | refine zL _ (by first | exact .inl rfl | exact .inr rfl) rfl rfl ?_ | (refine zJ ?_ rfl rfl (λ w1 hb1 hf1 => ?_) ?_; rotate_left; (go_simp; (try simp (disch := omega) only [zE, toNatUp, iteOmega]); (try go_simp); rfl)) | refine zM rfl ?_); simp only [zD])
    refine zW _ rfl (λ _ _ _ h _ => h) rfl (λ w1 hb1 hf1 => ?_) ?_
    . (unfold yE; go_simp; simp only [zN])
      have hu : vR w1 (kAll b k q z) v5 K.now := hf1 138 (by decide) (by simp);refine (is_now (kAll b k q z) v5 _ (HK.out.1.below (zF hV hb1)) (by omega) hu).mono ?_;rintro e w' ⟨rfl, hB⟩;exact ⟨_, rfl, hB, rfl⟩
    rintro v6 W6 hB6 rfl;simp only [zD]
    repeat ((first | refine zL _ (by first | exact .inl rfl | exact .inr rfl) rfl rfl ?_ | (refine zJ ?_ rfl rfl (λ w1 hb1 hf1 => ?_) ?_; rotate_left; (go_simp; (try simp (disch := omega) only [zE, toNatUp, iteOmega]); (try go_simp); rfl)) | refine zM rfl ?_); simp only [zD])
    refine zZ ?_;have HX := zB (HK.out.2.1.trans ((zF hV (zF hB5 hB6)).mono HK.out.2.1.size));clear r1 hV hB5 hB6 hu5;simp only [List.drop_succ_cons, List.drop_zero]
    go_wp2_with fail
    go_ret
    exact ⟨rfl, HX.out⟩
end Go.Proofs.YtbjofbhhnmehgaaGreatDoor.TT
namespace Go.Proofs.YtbjofbhhnmehgaaGreatDoor.LP
open Go.ChangeShapes Go.WideShapes Go.ChangeAt Go.RowKit
theorem own : ownKnob Tryz.prog.godebug = none := by kernel_rfl
theorem laidOut : laidOutB Tryz.prog = true := by kernel_rfl
theorem und_bool : Tryz.prog.underlying 4 = some .bool := by kernel_rfl
theorem und_int : Tryz.prog.underlying 3 = some (.int .i64) := by kernel_rfl
section
variable {H : Type} {enc : TypeId × Value -> H} {P : Program}
theorem post_of_below {f : Func} {s : ChangeSpec} {apart fresh handsOn again : Bool} {W W' : World} {args : Array Value} {v : Value} {ds gs : List (DataW H)} {before pa pv : List MemPlace}
 (hW : DataW.Whole enc P f.params.toList s.vars apart W args.toList ds gs before) (hb : Below W.heap.size W W')
 (hres : ∀ (b : Nat) (sp : Nat -> Bool) (hd : Bool), DataW.TrodAll enc P W' b sp hd f.resultTypes.toList (v.resultList f.resultTypes.size) (s.fn H (ds ++ gs)).results [])
 (hargs : ∀ sp : Nat -> Bool, (∀ p ∈ before, sp p.block = true) -> DataW.TrodAll enc P W' 0 sp true f.params.toList args.toList (s.fn H (ds ++ gs)).args pa)
 (hvars : ∀ sp : Nat -> Bool, (∀ p ∈ before, sp p.block = true) -> DataW.TrodVars enc P W' sp s.vars (s.fn H (ds ++ gs)).vars pv)
 (hps : before = pa ++ pv)
 (hok : ∀ (j : Nat) (t : TypeId) (r : Value), f.resultTypes[j]? = some t -> (v.resultList f.resultTypes.size)[j]? = some r -> Value.okWide P W' .any 0 t r) :
 s.post enc P f apart fresh handsOn again W args v W' := by
 have hlt : ∀ p ∈ before, p.block < W.heap.size := λ p hp => hW.lt p hp;have hold : ∀ p ∈ before, (λ b => decide (b < W.heap.size)) p.block = true := λ p hp => by simpa using hlt p hp
 refine ⟨ds, gs, before, [], pa, pv, hW, hres _ _ _, hargs _ hold, hvars _ hold, hb.frame _, λ _ => ?_⟩;have h9 := hW;obtain ⟨_, _, _, _, _, hz, hn⟩ := h9;refine ⟨hok, _, _, ([] ++ pa) ++ pv, ⟨[] ++ pa, pv, trodAll_append (hargs _ (λ _ _ => rfl)) (hres _ _ _), hvars _ (λ _ _ => rfl), rfl, ?_, ?_⟩, ?_⟩
 . intro b off hp;have hp' : MemPlace.cell b off ∈ before := by rw [hps]; simpa using hp
   rw [hb.frozen (p := ⟨b, off, none⟩) (hlt _ hp')];exact hz b off hp'
 . intro ha;have := hn ha;rw [hps] at this;simpa using this
 . intro p hp _;rw [hps];simpa using hp
end
theorem again {H : Type} {enc : TypeId × Value -> H} {t : TypeId} (hr : Tryz.prog.readableRec t = true) (ht : t < Tryz.prog.types.size) {W W' : World} {v : Value} {d : DataW H} {ps : List MemPlace}
 (h : DataW.Trod enc Tryz.prog W 0 (λ _ => true) true t v d ps) (hb : Below W.heap.size W W') (hlt : ∀ x ∈ ps, x.block < W.heap.size) {sp : Nat -> Bool} (hs : ∀ x ∈ ps, sp x.block = true) :
 DataW.Trod enc Tryz.prog W' 0 sp true t v d ps :=
 WideElems.Trod_stays laidOut hr ht h (λ x hx => hb.same (hlt x hx)) hs
end Go.Proofs.YtbjofbhhnmehgaaGreatDoor.LP
namespace Go.Proofs.YtbjofbhhnmehgaaGreatDoor.NHz
open Go.ChangeShapes Go.WideShapes Go.ChangeAt Go.RowKit Go.Proofs.YtbjofbhhnmehgaaGreatDoor.TT
theorem params : Tryz.f5.params = #[3, 32] := by kernel_rfl
theorem contract (H : Type) (enc : TypeId × Value -> H) (W : World) (base : Nat) (args : Array Value) (ds gs : List (DataW H)) (before : List MemPlace)
 (hval : ∀ (j : Nat) t v, Tryz.f5.params[j]? = some t -> args[j]? = some v -> Value.okWide Tryz.prog W .any base t v)
 (hW : DataW.Whole enc Tryz.prog Tryz.f5.params.toList Rows.tableRoomSpec.vars false W args.toList ds gs before) (hk : Rows.uptoSmall H (ds ++ gs) = true) (hL : laidMetH Tryz.prog Rows.tableRoomUptoRow.laid W) :
 Calls Tryz.prog 5 args W λ e W' => ∃ v, e = .returned v /\ Rows.tableRoomSpec.post enc Tryz.prog Tryz.f5 false true false false W args v W' := by
 have hlt := λ p hp => hW.lt p hp;have hW' := hW;obtain ⟨p, q, hA0, hV, rfl, hfz, hnd⟩ := hW;have hA : DataW.TrodAll enc Tryz.prog W 0 (λ _ => true) true Tryz.f5.params.toList args.toList ds p := hA0;rw [params] at hA hval;obtain ⟨v0, v1, d0, d1, p0, p1, rfl, rfl, rfl, t0, t1⟩ := trodAll_two hA;obtain ⟨rfl, rfl⟩ := trodVars_none hV;obtain ⟨a0, rfl, rfl, rfl, w0⟩ := open_int LP.und_int (hval 0 3 _ rfl rfl) t0;clear hA0;have hb : Rows.uptoBulkAll ([DataW.lit (.int .i64 a0), d1] ++ ([] : List (DataW H))) <= 1048576 := of_decide_eq_true hk;simp only [List.cons_append, List.nil_append, List.append_nil, Rows.uptoBulkAll] at hb;simp only [List.append_nil, List.nil_append] at hW' hlt;obtain ⟨css, h1, h2, h3⟩ := open_batches chT (hval 1 32 _ rfl rfl) t1 (by omega);refine (tableRoom_any a0 (wf_i64c w0) v1 css W (pkg_of_laid hL) h1 (by omega) (by omega)).mono λ e W' ⟨he, hB⟩ => ?_;subst he;exact ⟨_, rfl, LP.post_of_below (pa := p1) (pv := []) hW' hB (λ _ _ _ => (trodAll_cons_mk (shut_bool LP.und_bool _) trodAll_mk0))
  (λ sp hs => by rw [params]; exact trodAll_mk2 (shut_int LP.und_int w0) (LP.again (by kernel_rfl) (of_decide_eq_true (by kernel_rfl)) t1 hB hlt hs))
  (λ _ _ => rfl) (by simp) (ok_one (by kernel_rfl) rfl (okWide_bool_mk LP.und_bool _))⟩
def lay (cs : Array Value) : Obj -> Obj
 | .cells _ t frozen => .cells cs t frozen
 | o => o
noncomputable def fR (os : Os) : World :=
  { World.holding Tryz.prog os ⟨#[], #[], []⟩ with heap := ((((((((((World.holding Tryz.prog os ⟨#[], #[], []⟩).heap.modify 0 (lay #[.int .i64 4, .int .i64 6])).modify 1 (lay #[.int .i64 10, .int .i64 6])).modify 2 (lay #[.int .i64 16, .int .i64 2])).modify 3 (lay #[.int .i64 18, .int .i64 2])).modify 4 (lay #[.int .i64 28, .int .i64 4])).modify 5
      (lay #[.int .i64 4, .int .i64 6])).modify 6 (lay #[.int .i64 10, .int .i64 6])).modify 7 (lay #[.int .i64 16, .int .i64 6])).modify 8 (lay #[.int .i64 22, .int .i64 6])).modify 9 (lay #[.int .u32 0, .int .u32 498536548, .int .u32 997073096, .int .u32 651767980, .int .u32 1994146192, .int .u32 1802195444, .int .u32 1303535960, .int .u32 1342533948, .int .u32 3988292384, .int .u32 4027552580, .int .u32 3604390888, .int .u32 3412177804, .int .u32 2607071920, .int .u32 2262029012, .int .u32 2685067896, .int .u32 3183342108]) }
theorem laid_met (os : Os) : laidMet Tryz.prog Rows.tableRoomUptoRow.laid ((fR os).forCall (λ _ _ => 0) ⟨#[], #[.int .i64 0, .slice none 0 0], []⟩).memory :=
 laidMet_of_run' 8 (by kernel_rfl) (by kernel_rfl)
theorem reads (os : Os) {H : Type} (enc : TypeId × Value -> H) : ∃ places, DataW.whole enc Tryz.prog ((fR os).forCall (λ _ _ => 0) ⟨#[], #[.int .i64 0, .slice none 0 0], []⟩).memory Tryz.f5.params.toList Rows.tableRoomSpec.vars false (#[.int .i64 0, .slice none 0 0] : Array Value).toList 8 = some ([.lit (.int .i64 0), .nil], [], places) :=
 ⟨[], by kernel_rfl⟩
theorem lifted (os : Os) (started : os.Started) (H : Type) (enc : TypeId × Value -> H) (F : Stop.Interp) :
 ReturnsInHanded {} Tryz.checked os 5 .any ((Rows.OpenSpec.upto Rows.tableRoomSpec).preRow enc Tryz.prog Tryz.f5 Rows.tableRoomUptoRow.domain false Rows.tableRoomUptoRow.laid) (((Rows.OpenSpec.upto Rows.tableRoomSpec).at F).post enc Tryz.prog Tryz.f5 false true false false) := by
 obtain ⟨places, hx⟩ := reads os enc;refine returnsInHanded_of_row (C := Tryz.checked) (s := Rows.OpenSpec.upto Rows.tableRoomSpec) LP.own started (by kernel_rfl) Tryz.func5
  (witness_row_at (enc := enc) (C := Tryz.checked) false (fR os) #[.int .i64 0, .slice none 0 0] rfl (by kernel_rfl) (by kernel_rfl) (by kernel_rfl)
   (OpenSpec.preRow_of_cond 8 hx (by kernel_rfl) (λ k hk => by cases hk; kernel_rfl) (by kernel_rfl) (laid_met os))) ?_
 intro W base args ds gs before hval hW _ h2 _ hL _ _;exact contract H enc W base args ds gs before hval hW (h2 Rows.uptoSmall rfl) hL
theorem said : Rows.TableRoomUptoSaid :=
 OpenClaim.holds_of_cond 5 Tryz.f5 rfl rfl rfl rfl rfl rfl rfl ⟨rfl, rfl, rfl, rfl, rfl⟩ rfl rfl rfl rfl rfl (by kernel_rfl) Tryz.func5 (by kernel_rfl)
  (of_decide_eq_true (by kernel_rfl)) (by unfold Func.isWrapper; first | (rw [if_pos (by decide +kernel)]; kernel_rfl) | (rw [if_neg (by decide +kernel)]; exact ⟨rfl, rfl⟩))
  (λ os started H enc _ F => by rw [OpenClaim.pre_eq_preRow]; exact lifted os started H enc F)
theorem plain (f : FuncId) (fn : Func) (hf : Tryz.pinned.checked.prog.funcNamed "halyard/halyardlaw06.TableRoom" = some f) (hfn : Tryz.pinned.checked.prog.funcs[f]? = some fn) :
 true = Tryz.pinned.checked.prog.looks [] /\ ∀ (j : Nat) t, fn.params[j]? = some t -> Tryz.pinned.checked.prog.wantsStandIn t = false := by
 obtain rfl : f = 5 := Option.some.inj ((show Tryz.prog.funcNamed "halyard/halyardlaw06.TableRoom" = some 5 by kernel_rfl).symm.trans hf) |>.symm
 obtain rfl : fn = Tryz.f5 := (Option.some.inj (Tryz.func5.symm.trans hfn)).symm;refine ⟨by kernel_rfl, λ j t ht => ?_⟩;rw [params] at ht
 match j, ht with
 | 0, ht =>
  obtain rfl := Option.some.inj ht;show Tryz.prog.wantsStandIn 3 = false
  kernel_rfl
 | 1, ht =>
  obtain rfl := Option.some.inj ht;show Tryz.prog.wantsStandIn 32 = false
  kernel_rfl
theorem card : Rows.TableRoomUptoCardSaid :=
 Claim7.holds_tied_plain_at .later [] _ _ _ _ said (λ _ h => by cases h) (by kernel_rfl) (λ _ h => by cases h) tableRoomUpto_row_tie rfl ⟨rfl, rfl⟩ (by kernel_rfl) rfl plain (by kernel_rfl)
end Go.Proofs.YtbjofbhhnmehgaaGreatDoor.NHz
