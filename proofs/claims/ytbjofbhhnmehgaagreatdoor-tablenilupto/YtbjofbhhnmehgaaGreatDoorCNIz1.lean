
/-
 Arrays of many cells: load, store, a new variable, as laws for the walk that do not open them. No program.
-/
import Derived.Test.YtbjofbhhnmehgaaGreatDoorCNIz0
import Derived.Laws.Cells
import Derived.Laws.Tables
import Derived.RangeFuncRecord
import Derived.Great.FillDense
import Derived.Great.BuildSlice
import Derived.Lib.EndianBits
set_option linter.unusedSimpArgs false
set_option linter.unusedVariables false
set_option maxHeartbeats 1000000
set_option maxRecDepth 100000
open Go.IntWalk (toNatUp iteOmega)
namespace Go.Hp
open Go.RowKit Go.RG
section
variable {P : Program} {w : World} {ops : Array Oper} {rest : List Oper} {o : Oper} {a : Act} {Q : Exit -> Act -> World -> Prop}
theorem run_isAgg_arr {t e : TypeId} {n : Nat} (ht : P.underlying t = some (.array n e)) (w : World) : (isAgg t).run P w = .ok true w := by
 unfold isAgg;rw [Sem.run_bind, run_underlying ht w];rfl
theorem oQ {t e : TypeId} {n : Nat} (ht : P.underlying t = some (.array n e)) (hz : ∀ w, (sizeOf t).run P w = .ok n w) (w : World) (ad : Addr) (cs : List Value) (hl : cs.length = n) (h : ∀ j u, cs[j]? = some u -> w.cell? (ad.add j) = some u) :
 (Instr.loadAt t (.pointer (some ad))).run P w = .ok (.agg cs.toArray) w := by
 have h1 := run_loadCells_list (P := P) w ad cs h;rw [hl] at h1;simp only [Instr.loadAt, Instr.sureAddr, loadVar, Sem.run_bind, Sem.run_pure, Result.andThen_ok, run_isAgg_arr ht, hz, h1, if_true]
theorem gT (p : Operand) (t : TypeId) (ho : o.op = .load t p) {v : Value} {w' : World} (hr : (Instr.loadAt t (a.eval p)).run P w = .ok v w') : (execOp a.eval o).run P w = .ok (.value v) w' := by
 simp only [execOp, ho, Sem.run_bind, hr, Result.andThen_ok, Sem.run_pure]
theorem uD (hgd : o.guard = none) (p : Operand) (t e : TypeId) (n : Nat) (ho : o.op = .load t p) (ht : P.underlying t = some (.array n e)) (hz : ∀ w, (sizeOf t).run P w = .ok n w) (ad : Addr) (hp : a.eval p = .pointer (some ad))
 (cs : List Value) (hl : cs.length = n) (hc : ∀ j u, cs[j]? = some u -> w.cell? (ad.add j) = some u) (h : wpList P ops Q rest (a.put o.dst (.agg cs.toArray)) w) : wpList P ops Q (o :: rest) a w :=
 yW hgd (gT p t ho (by rw [hp]; exact oQ ht hz w ad cs hl hc)) h
theorem iX {w' : World} (hgd : o.guard = none) (hd : o.dst = none) (hr : (execOp a.eval o).run P w = .ok .skip w') (h : wpList P ops Q rest a w') : wpList P ops Q (o :: rest) a w := by
 refine wpList_plain hgd λ K hK => ?_;unfold Oper.wp;rw [hr];refine hK _ _ ?_;rw [hd];exact h
theorem exec_store (p x : Operand) (t : TypeId) (ho : o.op = .store t p x) {w' : World} (hr : (Instr.storeAt t (a.eval p) (a.eval x)).run P w = .ok () w') : (execOp a.eval o).run P w = .ok .skip w' := by
 simp only [execOp, ho, Sem.run_bind, hr, Result.andThen_ok, Sem.run_pure]
theorem run_storeCells_at (g off : Nat) (t : TypeId) : ∀ (vs : List Value) (i : Nat) (cur : List Value) (w : World), Row w g t cur -> off + i + vs.length <= cur.length -> (∀ v ∈ vs, v.oneCell' = true) ->
 (storeCells ⟨g, off, none⟩ vs i).run P w = .ok () (w.setRow g (cur.take (off + i) ++ vs ++ cur.drop (off + i + vs.length)).toArray)
 | [], i, cur, w, hg, hl, _ => by
  have hs : w.setRow g cur.toArray = w := by
   have hv : w.heap[g]? = some (.cells cur.toArray t (0, 0)) := hg;unfold World.setRow
   cases w with
   | mk heap tape drawn os output =>
    congr 1
    apply Array.ext_getElem?;intro k;rw [Array.getElem?_modify]
    split
    . rename_i hk;subst hk;have hv : heap[g]? = some (.cells cur.toArray t (0, 0)) := hv;rw [hv];rfl
    . rfl
  simp only [storeCells, List.append_nil, List.length_nil, Nat.add_zero, List.take_append_drop, hs];rfl
 | v :: rest, i, cur, w, hg, hl, h1 => by
  have hlen : off + i < cur.length := by simp at hl; omega
  have hcell : w.cell? ⟨g, off + i, none⟩ = some cur[off + i] := by rw [Row.cell hg]; simp [hlen]
  have hfro := Row.frozen hg (off + i);have hst : (store ((⟨g, off, none⟩ : Addr).add i) v).run P w = .ok () (w.setRow g (cur.set (off + i) v).toArray) := by
   rw [Addr.add_lit, run_store P w _ v _ (h1 v (by simp)), hcell];simp [hfro, setCell_eq_setRow w g (off + i) cur.toArray t (0, 0) v hg]
  have ih := run_storeCells_at g off t rest (i + 1) (cur.set (off + i) v) (w.setRow g (cur.set (off + i) v).toArray) (pV hg _) (by simp at hl ⊢; omega) (λ x hx => h1 x (by simp [hx]));simp only [storeCells, Sem.run_bind, hst, Result.andThen_ok, ih, setRow_setRow]
  congr 3
  rw [List.length_cons, show off + (i + 1) = off + i + 1 by omega, List.take_set, List.drop_set_of_lt (by omega), List.take_add_one, List.getElem?_eq_getElem hlen];simp only [Option.toList_some];rw [List.set_append_right _ _ (by rw [List.length_take]; exact Nat.min_le_left _ _)];simp [Nat.min_eq_left (Nat.le_of_lt hlen), show off + i + 1 + rest.length = off + i + (rest.length + 1) by omega]
theorem lN {t : TypeId} {n : Nat} (hz : ∀ w, (sizeOf t).run P w = .ok n w) (w : World) (g off : Nat) (ty : TypeId) (cur vs : List Value) (hg : Row w g ty cur) (hn : vs.length = n) (hl : off + n <= cur.length) (h1 : ∀ v ∈ vs, v.oneCell' = true) :
 (Instr.storeAt t (.pointer (some ⟨g, off, none⟩)) (.agg vs.toArray)).run P w = .ok () (w.setRow g (cur.take off ++ vs ++ cur.drop (off + n)).toArray) := by
 have h := run_storeCells_at (P := P) g off ty vs 0 cur w hg (by omega) h1;simp only [Nat.add_zero] at h;rw [hn] at h;have hsz : (Value.agg vs.toArray).cells.size = n := by simp [Value.cells, hn]
 simp only [Instr.storeAt, Instr.sureAddr, storeVar, Sem.run_bind, Sem.run_pure, Result.andThen_ok, hz, hsz];simpa [Value.cells] using h
theorem iA (hgd : o.guard = none) (hd : o.dst = none) (p x : Operand) (t : TypeId) (n : Nat) (ho : o.op = .store t p x) (hz : ∀ w, (sizeOf t).run P w = .ok n w) (g off : Nat) (hp : a.eval p = .pointer (some ⟨g, off, none⟩))
 (vs : List Value) (hx : a.eval x = .agg vs.toArray) (hn : vs.length = n) (ty : TypeId) (cur : List Value) (hg : Row w g ty cur) (hl : off + n <= cur.length) (h1 : ∀ v ∈ vs, v.oneCell' = true)
 (h : wpList P ops Q rest a (w.setRow g (cur.take off ++ vs ++ cur.drop (off + n)).toArray)) : wpList P ops Q (o :: rest) a w :=
 iX hgd hd (exec_store p x t ho (by rw [hp, hx]; exact lN hz w g off ty cur vs hg hn hl h1)) h
theorem uV (hgd : o.guard = none) (hd : o.dst = none) (p x : Operand) (t : TypeId) (n : Nat) (ho : o.op = .store t p x) (hz : ∀ w, (sizeOf t).run P w = .ok n w) (g : Nat) (hp : a.eval p = .pointer (some ⟨g, 0, none⟩))
 (vs : List Value) (hx : a.eval x = .agg vs.toArray) (hn : vs.length = n) (ty : TypeId) (cur : List Value) (hg : Row w g ty cur) (hl : cur.length = n) (h1 : ∀ v ∈ vs, v.oneCell' = true)
 (h : ∀ w', Ext (· = g) w w' -> w'.heap.size = w.heap.size -> Row w' g ty vs -> wpList P ops Q rest a w') : wpList P ops Q (o :: rest) a w := by
 refine iA hgd hd p x t n ho hz g 0 hp vs hx hn ty cur hg (by omega) h1 ?_;rw [List.take_zero, List.nil_append, Nat.zero_add, List.drop_eq_nil_of_le (by omega), List.append_nil];exact h _ (sF w g _) (by simp [World.setRow]) (pV hg _)
theorem sW (hgd : o.guard = none) (t : TypeId) (ho : o.op = .alloc t) (z : Value) (hz : ∀ w, (zeroValue t).run P w = .ok z w)
 (h : ∀ w', Below w.heap.size w w' -> w'.heap.size = w.heap.size + 1 -> Row w' w.heap.size t z.cells.toList -> wpList P ops Q rest (a.put o.dst (.pointer (some ⟨w.heap.size, 0, none⟩))) w') : wpList P ops Q (o :: rest) a w := by
 refine yW (v := .pointer (some ⟨w.heap.size, 0, none⟩)) (w' := w.alloc (.cells z.cells t)) hgd ?_ (h _ ((Below.refl _ w).alloc (Nat.le_refl _) _) (by simp) (by unfold Row; rw [Array.toArray_toList]; exact World.alloc_heap_new w _));have e : (Instr.alloc t true (.tuple #[])).run P w = .ok (.pointer (some ⟨w.heap.size, 0, none⟩)) (w.alloc (.cells z.cells t)) := by
  simp only [Instr.alloc, Sem.run_bind, hz, Result.andThen_ok];rfl
 simp only [execOp, ho, Sem.run_bind, e, Result.andThen_ok, Sem.run_pure]
theorem exec_build (t : TypeId) (n : Nat) (ps : Array (Nat × Operand)) (ho : o.op = .buildSlice t n ps) {v : Value} {w' : World} (hr : (Instr.buildSlice t n (ps.map λ (i, x) => (i, a.eval x))).run P w = .ok v w') : (execOp a.eval o).run P w = .ok (.value v) w' := by
 simp only [execOp, ho, Sem.run_bind, hr, Result.andThen_ok, Sem.run_pure]
theorem xO (t : TypeId) (n : Nat) (x : Operand) (ho : o.op = .buildSlice t n #[(0, x)]) {v : Value} {w' : World} (hr : (Instr.buildSlice t n #[(0, a.eval x)]).run P w = .ok v w') : (execOp a.eval o).run P w = .ok (.value v) w' :=
 exec_build t n #[(0, x)] ho (by simpa using hr)
theorem exec_mapUpdate (t : TypeId) (m x y : Operand) (ho : o.op = .mapUpdate t m x y) {w' : World} (hr : (Instr.mapUpdate t (a.eval m) (a.eval x) (a.eval y)).run P w = .ok () w') : (execOp a.eval o).run P w = .ok .skip w' := by
 simp only [execOp, ho, Sem.run_bind, hr, Result.andThen_ok, Sem.run_pure]
theorem xT {R : Value -> World -> Prop} {v : Value} {w' : World} (hr : (execOp a.eval o).run P w = .ok (.value v) w') (h : R v w') : yE P o a w R := by
 unfold yE;rw [hr];exact h
theorem makes_skip {R : Value -> World -> Prop} {w' : World} (hr : (execOp a.eval o).run P w = .ok .skip w') (h : R undef w') : yE P o a w R := by
 unfold yE;rw [hr];exact h
theorem row_set {w : World} {g i : Nat} {e : TypeId} {L : List Value} (h : Row w g e L) (u : Value) : Row (w.setCell ⟨g, i, none⟩ u) g e (L.set i u) := by
 rw [setCell_eq_setRow w g i L.toArray e (0, 0) u h];have := pV h (L.set i u);simpa using this
end
end Go.Hp
namespace Go.Proofs.YtbjofbhhnmehgaaGreatDoor.TT
open Go.RowKit Go.RG Go.Hp Go.Proofs.YtbjofbhhnmehgaaGreatDoor
theorem rW (s : List Int) (l : List (List Int)) : flat (s :: l) = u8s s ++ flat l := by simp [flat, u8s]
theorem flat_append (l k : List (List Int)) : flat (l ++ k) = flat l ++ flat k := by simp [flat, u8s]
theorem oG {m : Nat} : ∀ {l : List (List Int)}, (∀ s ∈ l, s.length = m) -> (flat l).length = l.length * m
 | [], _ => by simp [flat, u8s]
 | s :: l, h => by
  rw [rW, List.length_append, zH, h s (List.mem_cons_self ..), oG λ s hs => h s (List.mem_cons_of_mem _ hs), List.length_cons, Nat.add_mul];omega
theorem flat_get {m : Nat} : ∀ {l : List (List Int)} (_ : ∀ s ∈ l, s.length = m) {i : Nat} {s : List Int} (_ : l[i]? = some s) (j : Nat) (_ : j < m), (flat l)[i * m + j]? = (u8s s)[j]?
 | [], _, i, s, hs, _, _ => by simp at hs
 | t :: l, h, 0, s, hs, j, hj => by
  simp at hs;subst hs;rw [rW, Nat.zero_mul, Nat.zero_add, List.getElem?_append_left (by rw [zH, h t (List.mem_cons_self ..)]; exact hj)]
 | t :: l, h, i + 1, s, hs, j, hj => by
  rw [rW, List.getElem?_append_right (by rw [zH, h t (List.mem_cons_self ..), Nat.add_mul]; omega), zH, h t (List.mem_cons_self ..)];rw [show (i + 1) * m + j - m = i * m + j by rw [Nat.add_mul]; omega];exact flat_get (λ s hs => h s (List.mem_cons_of_mem _ hs)) (by simpa using hs) j hj
theorem tF : Tryz.prog.underlying 124 = some (.array 128 5) := by kernel_rfl
theorem wT (w : World) : (sizeOf 124).run Tryz.prog w = .ok 128 w := by kernel_rfl
def zsec : Value := .agg (List.replicate 128 (Value.int .u8 0)).toArray
theorem zsec_len : zsec.cells.toList.length = 128 := by simp [zsec, Value.cells]
theorem mI (w : World) : (zeroValue 124).run Tryz.prog w = .ok zsec w := by kernel_rfl
theorem kZ {w : World} {g i : Nat} {l : List (List Int)} {s : List Int} (h : ∀ j u, (flat l)[j]? = some u -> w.cell? ⟨g, j, none⟩ = some u) (h128 : ∀ s ∈ l, s.length = 128) (hs : l[i]? = some s) :
 ∀ j u, (u8s s)[j]? = some u -> w.cell? ((⟨g, i * 128, none⟩ : Addr).add j) = some u := λ j u hu => by
 rw [Addr.add_lit];have hl := h128 s (List.mem_of_getElem? hs);have hj : j < 128 := by
  have := (List.getElem?_eq_some_iff.1 hu).1
  rwa [zH, hl] at this
 exact h _ _ (by rw [flat_get h128 hs j hj]; exact hu)
theorem tE.look {w : World} {bm : Nat} {ks : List Int} {V : Int -> Value} (h : tE w bm ks V) (i : Int) (hi : (Lit.int .i64 i).wf = true) : Sem.run Tryz.prog (Instr.lookup 82 (.map (some bm)) (.int .i64 i) false) w = .ok (V i) w := by
 obtain ⟨D, h1, -, -, h2, -⟩ := h.some';have hint : Tryz.prog.underlying 3 = some (.int .i64) := by kernel_rfl
 obtain ⟨v, ps, hr, hv⟩ := h1.lookup (Maps.int_keyed hint) oO (z := .slice none 0 0) (show (zeroValue 80).run Tryz.prog w = .ok (.slice none 0 0) w by kernel_rfl) (show asIs (.slice none 0 0) = some (.held (.slice none 0 0), []) from rfl) (Maps.keyOf_int_mk hint hi);rw [(h2 i hi).1] at hv;unfold asIs at hv;simp only [Option.some.injEq, Prod.mk.injEq] at hv;obtain ⟨hv, -⟩ := hv;injection hv with hv;rw [hv] at hr;exact hr
def xP (x : Dsk) (i : Nat) : Option (List Int) := match (x.cache i).getLast? with
 | some s => some s
 | none => if x.torn.getD i false then none else x.dur[i]?
def ReadPost (r : Option (List Int)) (B : Nat) (e : Ending) (w' : World) : Prop := match r with
 | some s => ∃ u, e = .returned (.tuple #[u, .int .i64 0]) /\ w'.ownsRow B 5 1 u s.length (u8s s)
 | none => e = .returned (.tuple #[.slice none 0 0, .int .i64 40])
theorem read_any (b : Bks) (x : Dsk) (i : Nat) (hi : i < x.dur.length) (w : World) (h : wQ w b x) (ho : x.off = false) : Calls Tryz.prog 155 #[.pointer (some ⟨b.d, 0, none⟩), .int .i64 i] w λ e w' => ReadPost (xP x i) w.heap.size e w' /\ Below w.heap.size w w' := by
 obtain ⟨c0, c1, c2, c3, -⟩ := h.head.cells;rw [ho] at c3;have hd : pA x (i : Int) = true := by simp [pA, hi]
 have H := zB h; clear h;have hi' : (i : Int) < (x.dur.length : Int) := by omega
 have hlim := H.out.lim;have hwf : (Lit.int .i64 (i : Int)).wf = true := WalkArith.wf_i64 (by omega);obtain ⟨s, hs⟩ : ∃ s, x.dur[i]? = some s := ⟨_, List.getElem?_eq_getElem hi⟩;have hsl := H.out.s128 s (List.mem_of_getElem? hs);have hsr := kZ (λ j u hu => by rw [H.out.durs.cell]; exact hu) H.out.s128 hs;have Hsr := zB hsr;have Hs := zB (zC hs hsl);clear hsr hs hsl ho;have hlk : ∀ W, Below w.heap.size w W -> Sem.run Tryz.prog (Instr.lookup 82 (.map (some b.m)) (.int .i64 (i : Int)) false) W = .ok (b.V i) W := λ W hW => (H.out.below hW).map.look i hwf;have Hlk := zB hlk; clear hlk;by_cases hk : (i : Int) ∈ x.ks
 . obtain ⟨hp, hown⟩ := H.out.rows _ hk;obtain ⟨g', c', hV, -, -, hc', hcm, hcell, -⟩ := xB hown hp;obtain ⟨k1, hk1⟩ : ∃ k1, (x.cache (i : Int)).length = k1 + 1 := ⟨(x.cache (i : Int)).length - 1, by omega⟩;obtain ⟨s2, hs2⟩ : ∃ s2, (x.cache (i : Int))[k1]? = some s2 := ⟨_, List.getElem?_eq_getElem (by omega)⟩;have hfl := oG (H.out.c128 (i : Int));have hsr2 := kZ (w := w) (g := g') (i := k1) (l := x.cache (i : Int)) (s := s2) (λ j u hu => by
    rw [hcell j (by have := (List.getElem?_eq_some_iff.1 hu).1; omega)]; exact hu) (H.out.c128 _) hs2
   have Hsr2 := zB hsr2;have Hs2l := zB (H.out.c128 _ s2 (List.mem_of_getElem? hs2));rw [hk1] at hV hc';have hrd : xP x i = some s2 := by
    unfold xP;rw [List.getLast?_eq_getElem?, hk1, Nat.add_sub_cancel, hs2]
   have Hrd := zB hrd; clear hrd hsr2 hs2 hfl hcell hown hk1 hp;have hlk : ∀ W, Below w.heap.size w W -> Sem.run Tryz.prog (Instr.lookup 82 (.map (some b.m)) (.int .i64 (i : Int)) false) W = .ok (.slice (some ⟨g', 0, none⟩) (k1 + 1) c') W := λ W hW => by rw [<- hV]; exact Hlk.out W hW
   clear Hlk;have Hlk := zB hlk; clear hlk hV;have hk0 : (0 : Int) < ((k1 + 1 : Nat) : Int) := by omega
   have hk9 : k1 <= 9223372036854775806 := by simp only [maxLen] at hcm; omega
   clear hcm;go_enter Tryz.func155, Tryz.ntmps155
   go_wp2_with fail
   refine (has_any b x i w H.out.head).mono ?_;rintro e w' ⟨rfl, rfl⟩;rw [hd]
   go_wp2_with (first
    | (refine uD rfl _ 124 5 128 rfl tF wT ⟨b.g, i * 128, none⟩ rfl (u8s s) (by rw [zH]; exact Hs.out.2) Hsr.out ?_)
    | (refine uD rfl _ 124 5 128 rfl tF wT ⟨g', k1 * 128, none⟩ rfl (u8s s2) (by rw [zH]; exact Hs2l.out) (λ j u hu => zG hB3 (Hsr2.out j u hu)) ?_)
    | (refine sW rfl 124 rfl zsec mI ?_; intro w2 hB2 hz2 hr2; have Hr2 := zB hr2; clear hr2)
    | (refine uV rfl rfl _ _ 124 128 rfl wT w.heap.size rfl (u8s s) rfl (by rw [zH]; exact Hs.out.2) 124 _ Hr2.out zsec_len (yU _) ?_; intro w3 hX3 hz3 hr3; have hB3 : Below w.heap.size w w3 := hB2.trans (hX3.to_belowAt (by omega) (λ k hk => by omega)); have Hr3 := zB hr3; clear hr3; have d2 := zG hB3 c2; have hlk := Hlk.out w3 hB3)
    | (refine uV rfl rfl _ _ 124 128 rfl wT w.heap.size rfl (u8s s2) rfl (by rw [zH]; exact Hs2l.out) 124 _ Hr3.out (by rw [zH]; exact Hs.out.2) (yU _) ?_; intro w4 hX4 hz4 hr4; have hB4 : Below w.heap.size w w4 := hB3.trans (hX4.to_belowAt (by omega) (λ k hk => by omega)); have Hr4 := zB hr4; clear hr4))
   refine (clone_any _ (u8s s2) w4 (by have := qH (c := 128) Hr4.out (by rw [zH, Hs2l.out]; decide); rwa [zH, Hs2l.out] at this) (yU _) (by rw [zH, Hs2l.out]; decide)).mono ?_;rintro e w5 ⟨u, rfl, hown, hB5⟩;have Hown := zB hown; clear hown
   go_wp2_with fail
   go_ret2
   rw [Hrd.out];have hown := Hown.out;rw [zH] at hown;exact ⟨⟨u, rfl, yC hown (λ j hj => Nat.le_trans hB4.size (hown.lt j hj).1)⟩, hB4.trans (hB5.mono hB4.size)⟩
 . have hV : b.V i = .slice none 0 0 := by
    obtain ⟨D, -, -, -, -, h0⟩ := H.out.map.some';exact h0 _ hk
   rw [hV] at Hlk;obtain ⟨tb, htb⟩ : ∃ tb, x.torn[i]? = some tb := ⟨_, List.getElem?_eq_getElem (by rw [H.out.len]; exact hi)⟩;have ct : w.cell? ⟨b.t, i, none⟩ = some (.bool tb) := by rw [H.out.torns.cell]; simp [htb]
   have hrd : xP x i = if tb then none else some s := by
    unfold xP;rw [H.out.none' _ hk];simp [htb, Hs.out.1]
   have Hrd := zB hrd; clear hrd htb;go_enter Tryz.func155, Tryz.ntmps155
   go_wp2_with fail
   refine (has_any b x i w H.out.head).mono ?_;rintro e w' ⟨rfl, rfl⟩;rw [hd]
   cases tb
   . go_wp2_with (first
      | (refine uD rfl _ 124 5 128 rfl tF wT ⟨b.g, i * 128, none⟩ rfl (u8s s) (by rw [zH]; exact Hs.out.2) Hsr.out ?_)
      | (refine sW rfl 124 rfl zsec mI ?_; intro w2 hB2 hz2 hr2; have Hr2 := zB hr2; clear hr2)
      | (refine uV rfl rfl _ _ 124 128 rfl wT w.heap.size rfl (u8s s) rfl (by rw [zH]; exact Hs.out.2) 124 _ Hr2.out zsec_len (yU _) ?_; intro w3 hX3 hz3 hr3; have hB3 : Below w.heap.size w w3 := hB2.trans (hX3.to_belowAt (by omega) (λ k hk => by omega)); have Hr3 := zB hr3; clear hr3; have d2 := zG hB3 c2; have d1 := zG hB3 c1; have dt := zG hB3 ct; have hlk := Hlk.out w3 hB3))
     refine (clone_any _ (u8s s) w3 (by have := qH (c := 128) Hr3.out (by rw [zH, Hs.out.2]; decide); rwa [zH, Hs.out.2] at this) (yU _) (by rw [zH, Hs.out.2]; decide)).mono ?_;rintro e w4 ⟨u, rfl, hown, hB4⟩;have Hown := zB hown; clear hown
     go_wp2_with fail
     go_ret2
     rw [Hrd.out];have hown := Hown.out;rw [zH] at hown;exact ⟨⟨u, rfl, yC hown (λ j hj => Nat.le_trans hB3.size (hown.lt j hj).1)⟩, hB3.trans (hB4.mono hB3.size)⟩
   . go_wp2_with (first
      | (refine uD rfl _ 124 5 128 rfl tF wT ⟨b.g, i * 128, none⟩ rfl (u8s s) (by rw [zH]; exact Hs.out.2) Hsr.out ?_)
      | (refine sW rfl 124 rfl zsec mI ?_; intro w2 hB2 hz2 hr2; have Hr2 := zB hr2; clear hr2)
      | (refine uV rfl rfl _ _ 124 128 rfl wT w.heap.size rfl (u8s s) rfl (by rw [zH]; exact Hs.out.2) 124 _ Hr2.out zsec_len (yU _) ?_; intro w3 hX3 hz3 hr3; have hB3 : Below w.heap.size w w3 := hB2.trans (hX3.to_belowAt (by omega) (λ k hk => by omega)); have Hr3 := zB hr3; clear hr3; have d2 := zG hB3 c2; have d1 := zG hB3 c1; have dt := zG hB3 ct; have hlk := Hlk.out w3 hB3))
     go_ret2
     rw [Hrd.out];exact ⟨rfl, hB3⟩
end Go.Proofs.YtbjofbhhnmehgaaGreatDoor.TT
namespace Go.RG
open Go.RowKit
inductive Kind where
 | small
 | make (S : Spec)
 | big
 | late (R : Spec)
section
variable (P : Program) (ops : Array Oper) (base : World) (CB : World -> Prop) (kd : Nat -> Kind)
def YB (o : Oper) (a : Act) (v : Value) : Prop :=
 (Region.wanted o (yielded ops a.tmps) = true /\ ∀ w, CB w -> (execOp a.eval o).run P w = .ok (.value v) w) \/
 (Region.wanted o (yielded ops a.tmps) = false /\ v = undef)
def vE (i : Nat) (o : Oper) (K : zX -> Act -> World -> Prop) (Γ : zX) (a : Act) (w : World) : Prop :=
 match kd i with
 | .small => ∃ v, YF P ops base Γ o a v /\ K (Γ.set o.dst Spec.any) (a.put o.dst v) w
 | .make S => YM P ops base Γ o a S /\ ∀ v w', Below w.heap.size w w' -> S v w' -> K (Γ.set o.dst S) (a.put o.dst v) w'
 | .big => ∃ v, YB P ops CB o a v /\ K (Γ.set o.dst Spec.any) (a.put o.dst v) w
 | .late R => Region.wanted o (yielded ops a.tmps) = true /\ yE P o a w (λ v w' => CB w' /\ R v w') /\ ∀ v w', CB w' -> R v w' -> K Γ (a.put o.dst v) w'
def rlAny (md : Region.Mode) (n : Nat) (L : Array Bool -> Act -> World -> Prop) : Nat -> Array Bool -> zX -> Act -> World -> Prop
 | 0, listed, _, a, w => L listed a w
 | f + 1, listed, Γ, a, w =>
  Region.ready md ops listed ≠ [] /\ ∀ i ∈ Region.ready md ops listed, i < n /\ ∃ o, ops[i]? = some o /\
   vE P ops base CB kd i o (rlAny md n L f (listed.setIfInBounds i true)) Γ a w
def oR (Q : Act -> World -> Prop) : List Oper -> Nat -> zX -> Act -> World -> Prop
 | [], _, _, a, w => Q a w
 | o :: rest, k, Γ, a, w => vE P ops base CB kd k o (oR Q rest (k + 1)) Γ a w
def pI (md : Region.Mode) (l : Nat) : Nat -> Nat -> Bool
 | 0, _ => false
 | d + 1, i => (List.range ops.size).any λ k => Region.waitsFor md ops k i && (k == l || pI md l d k)
end
section
variable {P : Program} {ops : Array Oper} {base : World} {CB : World -> Prop} {kd : Nat -> Kind} {md : Region.Mode} {l n : Nat}
theorem wU {listed : Array Bool} (inv : HeadInv md ops n listed) : ∀ (d i : Nat), pI ops md l d i = true -> listed.getD i false = false -> listed.getD l false = false /\ l ∉ Region.ready md ops listed
 | 0, _, h, _ => by cases h
 | d + 1, i, h, hun => by
  unfold pI at h;obtain ⟨k, _, hk⟩ := List.any_eq_true.1 h;simp only [Bool.and_eq_true, Bool.or_eq_true, beq_iff_eq] at hk;obtain ⟨ok, hok, e, he, hb, hon⟩ := Region.waitsFor_spec hk.1;have hku : listed.getD k false = false := by
   cases hl : listed.getD k false
   . rfl
   . have := inv.closed k ok hok hl e he hb;rw [hon, hun] at this
     cases this
  rcases hk.2 with rfl | h2
  . refine ⟨hku, λ hr => ?_⟩;obtain ⟨_, o', ho', hall⟩ := mem_ready.1 hr;have : o' = ok := Option.some.inj (ho'.symm.trans hok);subst this;have h3 := hall e he hb;rw [hon, hun] at h3
    cases h3
  . exact wU inv d k h2 hku
def Kind.isBig : Kind -> Bool
 | .big => true
 | _ => false
structure Sides (md : Region.Mode) (ops : Array Oper) (kd : Nat -> Kind) (l n : Nat) : Prop where
 sel : ∀ (j : Nat) (o : Oper) cs b, ops[j]? = some o -> o.op ≠ .select cs b
 head : ∀ i, i < n -> ∀ listed, HeadInv md ops n listed -> listed.getD i true = false -> ∀ j ∈ Region.ready md ops listed, j < n
 ahead : ∀ i, i < n -> i ≠ l -> (kd i).isBig = true \/ pI ops md l ops.size i = true
 late : ∃ R, kd l = .late R
 others : ∀ i, i < n -> i ≠ l -> ∀ R, kd i ≠ .late R
structure At (P : Program) (base : World) (CB : World -> Prop) (l : Nat) (listed : Array Bool) (Γ : zX) (a : Act) (w : World) : Prop where
 big : CB w
 one : listed.getD l false = false -> Below base.heap.size base w /\ Γ.ok a w /\ Γ.stable
theorem tStep_mono {i : Nat} {o : Oper} {K K' : zX -> Act -> World -> Prop} {Γ : zX} {a : Act} {w : World} (h : ∀ Γ a w, K Γ a w -> K' Γ a w)
 (hh : vE P ops base CB kd i o K Γ a w) : vE P ops base CB kd i o K' Γ a w := by
 unfold vE at *
 split at hh
 . obtain ⟨v, h1, h2⟩ := hh; exact ⟨v, h1, h _ _ _ h2⟩
 . exact ⟨hh.1, λ v w' hb hS => h _ _ _ (hh.2 v w' hb hS)⟩
 . obtain ⟨v, h1, h2⟩ := hh; exact ⟨v, h1, h _ _ _ h2⟩
 . exact ⟨hh.1, hh.2.1, λ v w' hb hS => h _ _ _ (hh.2.2 v w' hb hS)⟩
theorem sO {listed : Array Bool} {i j : Nat} (h : i ≠ j) : (listed.setIfInBounds i true).getD j false = listed.getD j false := getD_set_ne false h
theorem hQ {listed : Array Bool} {i : Nat} (h : listed.getD i true = false) : listed.getD i false = false := getD_both h
theorem At.small {listed : Array Bool} {Γ : zX} {a : Act} {w : World} {i : Nat} {d : Option Tmp} {v : Value} (h : At P base CB l listed Γ a w) (hi : i ≠ l) : At P base CB l (listed.setIfInBounds i true) (Γ.set d Spec.any) (a.put d v) w :=
 ⟨h.big, λ hl => by
  rw [sO hi] at hl;obtain ⟨h1, h2, h3⟩ := h.one hl;exact ⟨h1, zX.ok_set (S := Spec.any) h2 trivial, zX.set_stable h3 Spec.any_stable⟩⟩
theorem At.make {listed : Array Bool} {Γ : zX} {a : Act} {w w' : World} {i : Nat} {d : Option Tmp} {v : Value} {S : Spec} (h : At P base CB l listed Γ a w) (hun : listed.getD l false = false) (hi : i ≠ l)
 (hsub : ∀ w, Below base.heap.size base w -> CB w) (hb : Below w.heap.size w w') (hS : S v w') (hs : Spec.stable S) : At P base CB l (listed.setIfInBounds i true) (Γ.set d S) (a.put d v) w' := by
 obtain ⟨h1, h2, h3⟩ := h.one hun;exact ⟨hsub _ (zF h1 hb), λ _ => ⟨zF h1 hb, zX.ok_set (zX.ok_grow h2 h3 hb) hS, zX.set_stable h3 hs⟩⟩
theorem At.late {listed : Array Bool} {Γ Γ' : zX} {a a' : Act} {w' : World} (hl : l < listed.size) (h : CB w') : At P base CB l (listed.setIfInBounds l true) Γ' a' w' :=
 ⟨h, λ hn => by simp [hl] at hn⟩
theorem hH {g : Nat} {L : Array Bool -> Act -> World -> Prop} {Q : Exit -> Act -> World -> Prop} (sd : Sides md ops kd l n) (hln : l < n)
 (hsub : ∀ w, Below base.heap.size base w -> CB w) (hL : ∀ listed a w, L listed a w -> wpAny P md ops Q g listed a w) :
 ∀ (f : Nat) (listed : Array Bool) (Γ : zX) (a : Act) (w : World), HeadInv md ops n listed -> At P base CB l listed Γ a w ->
  rlAny P ops base CB kd md n L f listed Γ a w -> wpAny P md ops Q (f + g) listed a w
 | 0, listed, Γ, a, w, _, _, h => by rw [Nat.zero_add]; exact hL _ _ _ h
 | f + 1, listed, Γ, a, w, inv, hat, h => by
  rw [show f + 1 + g = (f + g) + 1 by omega];refine ⟨λ h0 => absurd h0 h.1, λ i hi => ?_⟩;obtain ⟨hin, o, ho, hs⟩ := h.2 i hi;have hun := hQ (mem_ready.1 hi).1;have inv' := inv.set hi hin;have hgo := λ Γ' a' w' => hH sd hln hsub hL f (listed.setIfInBounds i true) Γ' a' w' inv';unfold wpOp;simp only [ho];unfold vE at hs;have hne : (∀ R, kd i ≠ .late R) -> i ≠ l := λ h e => by
   obtain ⟨R, hR⟩ := sd.late;exact h R (e ▸ hR)
  have hone : i ≠ l -> (kd i).isBig = false -> listed.getD l false = false := λ h1 h2 => by
   rcases sd.ahead i hin h1 with h | h
   . rw [h] at h2; cases h2
   . exact (wU inv _ i h hun).1
  split at hs
  . rename_i hk;have hil : i ≠ l := hne (λ R => by rw [hk]; intro h; cases h);obtain ⟨v, hy, hK⟩ := hs;obtain ⟨h1, h2, h3⟩ := hat.one (hone hil (by rw [hk]; rfl));have hnext := hgo _ _ _ (hat.small (d := o.dst) (v := v) hil) hK;rcases hy with ⟨hw, hr⟩ | ⟨hw, rfl⟩
    . rw [if_pos hw];refine .inl ?_;unfold Oper.wp;rw [hr w h1 (λ t _ ht => h2 t ht)];exact hnext
    . rw [if_neg (by simp [hw])];exact hnext
  . rename_i S hk;have hil : i ≠ l := hne (λ R => by rw [hk]; intro h; cases h);obtain ⟨⟨hw, hSs, hm⟩, hK⟩ := hs;have hlu := hone hil (by rw [hk]; rfl);obtain ⟨h1, h2, h3⟩ := hat.one hlu;rw [if_pos hw];refine .inl (tB (hm w h1 (λ t _ ht => h2 t ht)) λ v w' ⟨hb, hS⟩ => ?_);exact hgo _ _ _ (hat.make hlu hil hsub hb hS hSs) (hK v w' hb hS)
  . rename_i hk;have hil : i ≠ l := hne (λ R => by rw [hk]; intro h; cases h);obtain ⟨v, hy, hK⟩ := hs;have hnext := hgo _ _ _ (hat.small (d := o.dst) (v := v) hil) hK;rcases hy with ⟨hw, hr⟩ | ⟨hw, rfl⟩
    . rw [if_pos hw];refine .inl ?_;unfold Oper.wp;rw [hr w hat.big];exact hnext
    . rw [if_neg (by simp [hw])];exact hnext
  . rename_i R hk;have hil : i = l := by
     by_cases e : i = l
     . exact e
     . exact absurd hk (sd.others i hin e R)
    subst hil;obtain ⟨hw, hm, hK⟩ := hs;rw [if_pos hw];refine .inl (tB hm λ v w' ⟨hb, hS⟩ => ?_);refine hgo _ _ _ (At.late (Γ := Γ) (a := a) ?_ hb) (hK v w' hb hS);rw [inv.size];exact (Array.getElem?_eq_some_iff.1 ho).1
theorem rD {oj : Oper} {d : Option Tmp} {a : Act} {v u : Value} (hsj : ∀ cs b, oj.op ≠ .select cs b) (h : ∀ x, d = some x -> x ∉ oj.looksAt ops) :
 YB P ops CB oj (a.put d v) u ↔ YB P ops CB oj a u := by
 unfold YB;rw [wanted_put oj a d v h, execOp_put oj hsj a d v h]
theorem fE {o : Oper} {a : Act} {v u : Value} {w : World} (hC : CB w) (h : YB P ops CB o a v) (h' : YB P ops CB o a u) : v = u := by
 rcases h with ⟨hw, h⟩ | ⟨hw, rfl⟩ <;> rcases h' with ⟨hw', h'⟩ | ⟨hw', rfl⟩
 . have e := (h w hC).symm.trans (h' w hC);injection e with e1 _;injection e1
 . rw [hw] at hw'; cases hw'
 . rw [hw] at hw'; cases hw'
 . rfl
theorem kE {oj : Oper} {d : Option Tmp} {a : Act} {v : Value} {w : World} {R : Value -> World -> Prop} (hsj : ∀ cs b, oj.op ≠ .select cs b) (h : ∀ x, d = some x -> x ∉ oj.looksAt ops) :
 yE P oj (a.put d v) w R ↔ yE P oj a w R := by
 unfold yE;rw [execOp_put oj hsj a d v h]
theorem rl_first {i : Nat} {oi : Oper} {L : Array Bool -> Act -> World -> Prop} (sd : Sides md ops kd l n) (hln : l < n) (hi : ops[i]? = some oi) (hin : i < n) (hil : i ≠ l)
 (hsub : ∀ w, Below base.heap.size base w -> CB w) (hdone : ∀ listed a w, L listed a w -> ∀ j ∈ Region.ready md ops listed, n <= j) :
 ∀ (f : Nat) (listed : Array Bool) (Γ : zX) (a : Act) (w : World), HeadInv md ops n listed ->
  (∀ j oj, ops[j]? = some oj -> j ≠ i -> listed.getD j true = false -> (∀ e ∈ oj.after, Region.binds md e = true -> e.on ≠ i) -> oi.apart ops oj = true) ->
  i ∈ Region.ready md ops listed -> At P base CB l listed Γ a w ->
  vE P ops base CB kd i oi (rlAny P ops base CB kd md n L f (listed.setIfInBounds i true)) Γ a w -> rlAny P ops base CB kd md n L (f + 1) listed Γ a w := by
 -- what i's step leaves: at least one state pI it
 have ex : ∀ (K : zX -> Act -> World -> Prop) (listed : Array Bool) (Γ : zX) (a : Act) (w : World), HeadInv md ops n listed -> listed.getD i true = false -> At P base CB l listed Γ a w ->
  vE P ops base CB kd i oi K Γ a w -> ∃ Γ' a' w', K Γ' a' w' := by
  intro K listed Γ a w inv hun hat H;unfold vE at H
  split at H
  . obtain ⟨v, _, h⟩ := H; exact ⟨_, _, _, h⟩
  . rename_i S hk;obtain ⟨⟨_, _, hm⟩, hK⟩ := H;have hlu : listed.getD l false = false := by
     rcases sd.ahead i hin hil with h | h
     . rw [hk] at h; cases h
     . exact (wU inv _ i h (hQ hun)).1
    obtain ⟨h1, h2, _⟩ := hat.one hlu;obtain ⟨v, w', hb, hS⟩ := vS (hm w h1 (λ t _ ht => h2 t ht));exact ⟨_, _, _, hK v w' hb hS⟩
  . obtain ⟨v, _, h⟩ := H; exact ⟨_, _, _, h⟩
  . rename_i R hk; exact absurd hk (sd.others i hin hil R)
 intro f
 induction f with
 | zero =>
  intro listed Γ a w inv _ hr hat H;have hun := (mem_ready.1 hr).1;refine ⟨λ h => (by rw [h] at hr; cases hr), λ j hj => ?_⟩;have hjn : j < n := sd.head i hin listed inv hun j hj;refine ⟨hjn, ?_⟩;by_cases hji : j = i
  . subst hji; exact ⟨oi, hi, H⟩
  . exfalso
    obtain ⟨_, a', w', hL⟩ := ex _ listed Γ a w inv hun hat H;have := hdone _ _ _ hL j (ready_mono hj hji);omega
 | succ f ih =>
  intro listed Γ a w inv hfree hr hat H;have hun := (mem_ready.1 hr).1;refine ⟨λ h => (by rw [h] at hr; cases hr), λ j hj => ?_⟩;have hjn : j < n := sd.head i hin listed inv hun j hj;refine ⟨hjn, ?_⟩;by_cases hji : j = i
  . subst hji; exact ⟨oi, hi, H⟩
  obtain ⟨hjun, oj, hoj, hall⟩ := mem_ready.1 hj;refine ⟨oj, hoj, ?_⟩;have hnot : ∀ e ∈ oj.after, Region.binds md e = true -> e.on ≠ i := λ e he hb heq => by
   have h1 := hall e he hb;rw [heq, getD_both hun] at h1
   cases h1
  obtain ⟨ap1, ap2, ap3⟩ := Oper.apart_spec (hfree j oj hoj hji hjun hnot);have hsi := λ cs b => sd.sel i oi cs b hi;have hsj := λ cs b => sd.sel j oj cs b hoj;have hfree' : ∀ k ok, ops[k]? = some ok -> k ≠ i -> (listed.setIfInBounds j true).getD k true = false ->
   (∀ e ∈ ok.after, Region.binds md e = true -> e.on ≠ i) -> oi.apart ops ok = true := λ k ok hk hki hun hno => by
   refine hfree k ok hk hki ?_ hno;by_cases hjk : j = k
   . subst hjk; exact hjun
   . rw [getD_set_ne true hjk] at hun; exact hun
  have inv' := inv.set hj hjn;have IH := λ Γ' a' w' => ih (listed.setIfInBounds j true) Γ' a' w' inv' hfree' (ready_mono hr (Ne.symm hji));have hjr := ready_mono hj hji;have hcomm : (listed.setIfInBounds j true).setIfInBounds i true = (listed.setIfInBounds i true).setIfInBounds j true := Array.setIfInBounds_comm _ _ hji;have hone : ∀ k, k < n -> k ≠ l -> (kd k).isBig = false -> listed.getD k true = false -> listed.getD l false = false /\ l ∉ Region.ready md ops listed := λ k h1 h2 h3 h4 => by
   rcases sd.ahead k h1 h2 with h | h
   . rw [h] at h3; cases h3
   . exact wU inv _ k h (hQ h4)
  -- j is the late one: then i is big
  by_cases hjl : j = l
  . subst hjl;obtain ⟨R, hR⟩ := sd.late
    cases hki : kd i with
    | late R' => exact absurd hki (sd.others i hin hil R')
    | small => exact absurd hj (hone i hin hil (by rw [hki]; rfl) hun).2
    | make S => exact absurd hj (hone i hin hil (by rw [hki]; rfl) hun).2
    | big =>
     unfold vE at H;rw [hki] at H;obtain ⟨v, hy, hK⟩ := H;obtain ⟨oj', hoj', hj1⟩ := (hK.2 j hjr).2;obtain rfl : oj' = oj := Option.some.inj (hoj'.symm.trans hoj);unfold vE at hj1 ⊢;rw [hR] at hj1 ⊢;obtain ⟨hw, hm, hKj⟩ := hj1;refine ⟨by rw [wanted_put oj' a oi.dst v ap1] at hw; exact hw, (kE hsj ap1).1 hm, λ u w' hb hT => ?_⟩;have hjs : j < listed.size := by rw [inv.size]; exact (Array.getElem?_eq_some_iff.1 hoj).1
     refine IH _ _ _ (At.late (Γ := Γ) (a := a) hjs hb) ?_;unfold vE;rw [hki];refine ⟨v, (rD hsi ap3).2 hy, ?_⟩;rw [hcomm, <- Act.put_comm a v u ap2];exact hKj u w' hb hT
  -- j is another one
  have hkj : ∀ R, kd j ≠ .late R := sd.others j hjn hjl
  -- one instance pI i, for what j comes to
  obtain ⟨Γ0, a0, w0, hK0⟩ := ex _ listed Γ a w inv hun hat H
  cases hki : kd i with
  | late R' => exact absurd hki (sd.others i hin hil R')
  | small =>
   unfold vE at H;rw [hki] at H;obtain ⟨v, hy, hK⟩ := H;obtain ⟨oj', hoj', hj1⟩ := (hK.2 j hjr).2;obtain rfl : oj' = oj := Option.some.inj (hoj'.symm.trans hoj);have hlu := (hone i hin hil (by rw [hki]; rfl) hun).1;have back : ∀ (Γ' : zX) (u : Value) (w' : World) (S : Spec), rlAny P ops base CB kd md n L f ((listed.setIfInBounds i true).setIfInBounds j true) ((Γ.set oi.dst Spec.any).set oj'.dst S) ((a.put oi.dst v).put oj'.dst u) w' ->
    vE P ops base CB kd i oi (rlAny P ops base CB kd md n L f ((listed.setIfInBounds j true).setIfInBounds i true)) (Γ.set oj'.dst S) (a.put oj'.dst u) w' := by
    intro _ u w' S h;unfold vE;rw [hki];refine ⟨v, (mF hsi ap3).2 hy, ?_⟩;rw [hcomm, <- Act.put_comm a v u ap2, <- zX.set_comm ap2]; exact h
   cases hkj' : kd j with
   | late R => exact absurd hkj' (hkj R)
   | small =>
    unfold vE at hj1 ⊢;rw [hkj'] at hj1 ⊢;obtain ⟨u, hyj, hKj⟩ := hj1;exact ⟨u, (mF hsj ap1).1 hyj, IH _ _ _ (hat.small hjl) (back Γ u w Spec.any hKj)⟩
   | make T =>
    unfold vE at hj1 ⊢;rw [hkj'] at hj1 ⊢;obtain ⟨hyj, hKj⟩ := hj1;have hyj' := (nG hsj ap1).1 hyj;exact ⟨hyj', λ u w' hb hT => IH _ _ _ (hat.make hlu hjl hsub hb hT hyj'.2.1) (back Γ u w' T (hKj u w' hb hT))⟩
   | big =>
    unfold vE at hj1 ⊢;rw [hkj'] at hj1 ⊢;obtain ⟨u, hyj, hKj⟩ := hj1;exact ⟨u, (rD hsj ap1).1 hyj, IH _ _ _ (hat.small hjl) (back Γ u w Spec.any hKj)⟩
  | big =>
   unfold vE at H;rw [hki] at H;obtain ⟨v, hy, hK⟩ := H;obtain ⟨oj', hoj', hj1⟩ := (hK.2 j hjr).2;obtain rfl : oj' = oj := Option.some.inj (hoj'.symm.trans hoj);have back : ∀ (Γ' : zX) (u : Value) (w' : World) (S : Spec), rlAny P ops base CB kd md n L f ((listed.setIfInBounds i true).setIfInBounds j true) ((Γ.set oi.dst Spec.any).set oj'.dst S) ((a.put oi.dst v).put oj'.dst u) w' ->
    vE P ops base CB kd i oi (rlAny P ops base CB kd md n L f ((listed.setIfInBounds j true).setIfInBounds i true)) (Γ.set oj'.dst S) (a.put oj'.dst u) w' := by
    intro _ u w' S h;unfold vE;rw [hki];refine ⟨v, (rD hsi ap3).2 hy, ?_⟩;rw [hcomm, <- Act.put_comm a v u ap2, <- zX.set_comm ap2]; exact h
   cases hkj' : kd j with
   | late R => exact absurd hkj' (hkj R)
   | small =>
    unfold vE at hj1 ⊢;rw [hkj'] at hj1 ⊢;obtain ⟨u, hyj, hKj⟩ := hj1;exact ⟨u, (mF hsj ap1).1 hyj, IH _ _ _ (hat.small hjl) (back Γ u w Spec.any hKj)⟩
   | make T =>
    have hlu := (hone j hjn hjl (by rw [hkj']; rfl) hjun).1;unfold vE at hj1 ⊢;rw [hkj'] at hj1 ⊢;obtain ⟨hyj, hKj⟩ := hj1;have hyj' := (nG hsj ap1).1 hyj;exact ⟨hyj', λ u w' hb hT => IH _ _ _ (hat.make hlu hjl hsub hb hT hyj'.2.1) (back Γ u w' T (hKj u w' hb hT))⟩
   | big =>
    unfold vE at hj1 ⊢;rw [hkj'] at hj1 ⊢;obtain ⟨u, hyj, hKj⟩ := hj1;exact ⟨u, (rD hsj ap1).1 hyj, IH _ _ _ (hat.small hjl) (back Γ u w Spec.any hKj)⟩
  | make S =>
   have hlu := (hone i hin hil (by rw [hki]; rfl) hun).1;obtain ⟨h1, h2, h3⟩ := hat.one hlu;unfold vE at H;rw [hki] at H;obtain ⟨hy, hK⟩ := H;obtain ⟨vs, ws, hbs, hSs⟩ := vS (hy.2.2 w h1 (λ t _ ht => h2 t ht));obtain ⟨oj', hoj', hj1⟩ := ((hK vs ws hbs hSs).2 j hjr).2;obtain rfl : oj' = oj := Option.some.inj (hoj'.symm.trans hoj)
   cases hkj' : kd j with
   | late R => exact absurd hkj' (hkj R)
   | small =>
    unfold vE at hj1 ⊢;rw [hkj'] at hj1 ⊢;obtain ⟨u, hyj, hKj⟩ := hj1;have hyj' := (mF hsj ap1).1 hyj;refine ⟨u, hyj', IH _ _ _ (hat.small hjl) ?_⟩;unfold vE;rw [hki];refine ⟨(nG hsi ap3).2 hy, λ v w' hb hS => ?_⟩;rw [hcomm, <- Act.put_comm a v u ap2, <- zX.set_comm ap2];obtain ⟨oj'', hoj'', hj2⟩ := ((hK v w' hb hS).2 j hjr).2;obtain rfl : oj'' = oj' := Option.some.inj (hoj''.symm.trans hoj);unfold vE at hj2;rw [hkj'] at hj2;obtain ⟨u', hyj2, hKj2⟩ := hj2;obtain rfl : u = u' := YF_unique h1 (λ t _ ht => h2 t ht) (λ t _ ht => h2 t ht) hyj' ((mF hsj ap1).1 hyj2);exact hKj2
   | big =>
    unfold vE at hj1 ⊢;rw [hkj'] at hj1 ⊢;obtain ⟨u, hyj, hKj⟩ := hj1;have hyj' := (rD hsj ap1).1 hyj;refine ⟨u, hyj', IH _ _ _ (hat.small hjl) ?_⟩;unfold vE;rw [hki];refine ⟨(nG hsi ap3).2 hy, λ v w' hb hS => ?_⟩;rw [hcomm, <- Act.put_comm a v u ap2, <- zX.set_comm ap2];obtain ⟨oj'', hoj'', hj2⟩ := ((hK v w' hb hS).2 j hjr).2;obtain rfl : oj'' = oj' := Option.some.inj (hoj''.symm.trans hoj);unfold vE at hj2;rw [hkj'] at hj2;obtain ⟨u', hyj2, hKj2⟩ := hj2;obtain rfl : u = u' := fE hat.big hyj' ((rD hsj ap1).1 hyj2);exact hKj2
   | make T =>
    unfold vE at hj1 ⊢;rw [hkj'] at hj1 ⊢;obtain ⟨hyj, hKj⟩ := hj1;have hyj' := (nG hsj ap1).1 hyj;refine ⟨hyj', λ u w' hb hT => IH _ _ _ (hat.make hlu hjl hsub hb hT hyj'.2.1) ?_⟩;unfold vE;rw [hki];refine ⟨(nG hsi ap3).2 hy, λ v w'' hb2 hS => ?_⟩;rw [hcomm, <- Act.put_comm a v u ap2, <- zX.set_comm ap2];have hbb : Below w.heap.size w w'' := zF hb hb2;obtain ⟨oj'', hoj'', hj2⟩ := ((hK v w'' hbb hS).2 j hjr).2;obtain rfl : oj'' = oj' := Option.some.inj (hoj''.symm.trans hoj);unfold vE at hj2;rw [hkj'] at hj2;obtain ⟨_, hKj2⟩ := hj2;exact hKj2 u w'' (Below.refl _ _) (hyj'.2.1 _ _ _ hT hb2)
theorem rl_lex {g : Nat} {Lq : Act -> World -> Prop} (sd : Sides md ops kd l n) (hln : l + 1 = n) (L : Array Bool -> Act -> World -> Prop)
 (hsub : ∀ w, Below base.heap.size base w -> CB w) (hdone : ∀ listed a w, L listed a w -> ∀ j ∈ Region.ready md ops listed, n <= j)
 (hend : ∀ listed a w, Region.seqB md ops g n listed = true -> Lq a w -> L listed a w) :
 ∀ (ls : List Oper) (k : Nat) (listed : Array Bool) (Γ : zX) (a : Act) (w : World), (∀ j, j < ls.length -> ls[j]? = ops[k + j]?) -> k + ls.length = n -> HeadInv md ops n listed ->
 Region.lexHead md ops g ls.length k listed = true -> Region.ready md ops ((List.range (n - 1)).foldl (λ l i => l.setIfInBounds i true) (Array.replicate ops.size false)) = [l] ->
 listed = (List.range k).foldl (λ l i => l.setIfInBounds i true) (Array.replicate ops.size false) ->
 (k <= l -> At P base CB l listed Γ a w) -> oR P ops base CB kd Lq ls k Γ a w ->
 rlAny P ops base CB kd md n L ls.length listed Γ a w
 | [], k, listed, Γ, a, w, _, hk, _, hB, _, _, _, h => by
  have : k = n := by simpa using hk
  subst this;exact hend _ _ _ (by simpa [Region.lexHead] using hB) h
 | o :: ls, k, listed, Γ, a, w, hl, hk, inv, hB, hlast, hlisted, hat, h => by
  have h0 : ops[k]? = some o := by simpa using (hl 0 (by simp)).symm
  simp only [List.length_cons, Region.lexHead, Bool.and_eq_true] at hB;obtain ⟨⟨hr, hf⟩, hB'⟩ := hB;have hkn : k < n := by simp only [List.length_cons] at hk; omega
  have hr' : k ∈ Region.ready md ops listed := by simpa using hr
  have hls : (List.range (k + 1)).foldl (λ l i => l.setIfInBounds i true) (Array.replicate ops.size false) = listed.setIfInBounds k true := by
   rw [List.range_succ, List.foldl_append, <- hlisted]; rfl
  have hgo := λ Γ' a' w' => rl_lex sd hln L hsub hdone hend ls (k + 1) (listed.setIfInBounds k true) Γ' a' w' (λ j hj => by have := hl (j + 1) (by simp; omega); simpa [Nat.add_assoc, Nat.add_comm 1 j] using this)
   (by simp only [List.length_cons] at hk; omega) (inv.set hr' hkn) hB' hlast hls.symm
  have h' : vE P ops base CB kd k o (oR P ops base CB kd Lq ls (k + 1)) Γ a w := h;by_cases hkl : k = l
  . -- the late one: nothing else is left
    subst hkl;have hrd : Region.ready md ops listed = [k] := by rw [hlisted]; rw [<- hln] at hlast; simpa using hlast
    refine ⟨by rw [hrd]; simp, λ j hj => ?_⟩;rw [hrd] at hj;obtain rfl : j = k := by simpa using hj
    refine ⟨hkn, o, h0, ?_⟩;exact tStep_mono (λ Γ' a' w' h2 => hgo Γ' a' w' (λ hh => by omega) h2) h'
  . have hkl' : k < l := by omega
    refine rl_first sd (by omega) h0 hkn hkl hsub hdone ls.length listed Γ a w inv (Region.free_spec h0 hf) hr' (hat (by omega)) ?_;have hat' := hat (by omega);have hun := (mem_ready.1 hr').1;have hlu : listed.getD l false = false := by
     rcases sd.ahead k hkn hkl with hb | hb
     . -- by what stands listed
       rw [hlisted];have : ∀ m, m <= l -> ((List.range m).foldl (λ l i => l.setIfInBounds i true) (Array.replicate ops.size false)).getD l false = false := by
        intro m
        induction m with
        | zero => intro _; exact getD_replicate_false _ _
        | succ m ihm =>
         intro hm;rw [List.range_succ, List.foldl_append];simp only [List.foldl_cons, List.foldl_nil];rw [sO (by omega)];exact ihm (by omega)
       exact this k (by omega)
     . exact (wU inv _ k hb (hQ hun)).1
    unfold vE at h' ⊢
    split at h'
    . rename_i hkk;obtain ⟨v, h1, h2⟩ := h';exact ⟨v, h1, hgo _ _ _ (λ _ => hat'.small hkl) h2⟩
    . rename_i S hkk;exact ⟨h'.1, λ v w' hb hS => hgo _ _ _ (λ _ => hat'.make hlu hkl hsub hb hS h'.1.2.1) (h'.2 v w' hb hS)⟩
    . rename_i hkk;obtain ⟨v, h1, h2⟩ := h';exact ⟨v, h1, hgo _ _ _ (λ _ => hat'.small hkl) h2⟩
    . rename_i R hkk;exact absurd hkk (sd.others k hkn hkl R)
end
section
variable {P : Program} {id : Nat} {Q : Exit -> Act -> World -> Prop} {a : Act} {w : World} {ls : List Oper}
def lateB (ops : Array Oper) (big : List Nat) (n : Nat) : Bool :=
 Region.lexTailB .any ops n && decide (0 < n) && decide (Region.ready .any ops ((List.range (n - 1)).foldl (λ l i => l.setIfInBounds i true) (Array.replicate ops.size false)) = [n - 1]) &&
 (List.range (n - 1)).all λ i => big.contains i || pI ops .any (n - 1) ops.size i
def gP (big : List Nat) (mk : Nat -> Option Spec) (n : Nat) (R : Spec) (i : Nat) : Kind :=
 if i = n - 1 then .late R else if big.contains i then .big else match mk i with
  | some S => .make S
  | none => .small
theorem vY (n : Nat) (big : List Nat) (mk : Nat -> Option Spec) (CB : World -> Prop) (R : Spec) (hm : P.follows .mixedOrders = true) (hB : lateB ls.toArray big n = true)
 (hsub : ∀ b, b.heap = w.heap -> Below w.heap.size w b -> ∀ w', Below b.heap.size b w' -> CB w')
 (h : ∀ b, Below w.heap.size w b -> b.heap = w.heap -> oR P ls.toArray b CB (gP big mk n R) (λ a' w' => wpList P ls.toArray Q (ls.drop n) a' w') (ls.take n) 0 zX.empty a b) :
 (Code.region id ls.toArray true).wp P Q a w := by
 simp only [lateB, Bool.and_eq_true, decide_eq_true_eq] at hB;obtain ⟨⟨⟨hB1, hpos⟩, hlast⟩, hbig⟩ := hB;simp only [Region.lexTailB, Bool.and_eq_true, decide_eq_true_eq] at hB1;obtain ⟨⟨⟨⟨hsel, hn⟩, hs⟩, hc⟩, hlex⟩ := hB1;have htl : (ls.take n).length = n := by simp at hn; simp; omega
 have hdl : (ls.drop n).length = ls.toArray.size - n := by simp
 have inv0 : HeadInv .any ls.toArray n (Array.replicate ls.toArray.size false) :=
  ⟨by simp, λ j oj _ hl => (by rw [getD_replicate_false] at hl; cases hl), λ t _ ht => getD_in (by simpa using ht) (getD_replicate_false _ _)⟩
 have sd : Sides .any ls.toArray (gP big mk n R) (n - 1) n := by
  refine ⟨Region.noSelect_spec hsel, λ i hin listed inv hun j hj => ?_, λ i hin hil => ?_, ⟨R, by simp [gP]⟩, λ i hin hil R' => ?_⟩
  . rcases Nat.lt_or_ge j n with h | h
    . exact h
    . exact absurd hj (tail_waits hs hc hn inv _ i rfl hin hun j h)
  . have := List.all_eq_true.1 hbig i (List.mem_range.2 (by omega));simp only [Bool.or_eq_true] at this;rcases this with h | h
    . left;unfold gP;rw [if_neg hil, if_pos h];rfl
    . exact .inr h
  . unfold gP;rw [if_neg hil]
    split
    . intro h; cases h
    . split <;> (intro h; cases h)
 have hw0 : Below w.heap.size w { w with drawn := w.drawn + 1 } := (Below.refl _ w).drew;have H := rl_lex (md := .any) (g := ls.toArray.size - n) (Lq := λ a' w' => wpList P ls.toArray Q (ls.drop n) a' w') sd (by omega)
  (λ listed' a' w' => Region.seqB .any ls.toArray (ls.toArray.size - n) n listed' = true /\ wpList P ls.toArray Q (ls.drop n) a' w')
  (λ w' h' => hsub { w with drawn := w.drawn + 1 } rfl hw0 w' h') (λ listed a w hL => seqB_ready hL.1) (λ _ _ _ h1 h2 => ⟨h1, h2⟩)
  (ls.take n) 0 _ zX.empty a { w with drawn := w.drawn + 1 } (λ j hj => by
   have hj' : j < n := by rw [htl] at hj; exact hj
   simp [hj']) (by simpa using htl) inv0 (by rw [htl]; exact hlex) hlast rfl
  (λ _ => ⟨hsub { w with drawn := w.drawn + 1 } rfl hw0 _ (Below.refl _ _), λ _ => ⟨Below.refl _ _, zX.empty_ok _ _, zX.empty_stable⟩⟩)
  (h { w with drawn := w.drawn + 1 } hw0 rfl)
 refine wp_region_any hm ?_;have := hH (Q := Q) (g := ls.toArray.size - n) sd (by omega) (λ w' h' => hsub { w with drawn := w.drawn + 1 } rfl hw0 w' h') (λ listed a' w' hL => by
  have := wpAny_of_seq (md := .any) (Q' := Q) (ls.drop n) n listed a' w' (λ j => by simp [List.getElem?_drop]) (by rw [hdl]; exact hL.1) hL.2
  rwa [hdl] at this) _ _ _ _ _ inv0 ⟨hsub { w with drawn := w.drawn + 1 } rfl hw0 _ (Below.refl _ _), λ _ => ⟨Below.refl _ _, zX.empty_ok _ _, zX.empty_stable⟩⟩ H
 rw [htl, show n + (ls.toArray.size - n) = ls.toArray.size by simp at hn; simp; omega] at this;exact this
variable {ops : Array Oper} {b : World} {q : Act -> World -> Prop} {o : Oper} {rest : List Oper} {k : Nat} {Γ : zX} {CB : World -> Prop} {kd : Nat -> Kind}
theorem rl_nil (h : q a w) : oR P ops b CB kd q [] k Γ a w := h
theorem sI (v : Value) (hs : kd k = .small) (hw : Region.wanted o (yielded ops a.tmps) = true)
 (h : ∀ w1, Below b.heap.size b w1 -> iD ops o Γ a w1 -> (execOp a.eval o).run P w1 = .ok (.value v) w1)
 (hn : oR P ops b CB kd q rest (k + 1) (Γ.set o.dst Spec.any) (a.put o.dst v) w) : oR P ops b CB kd q (o :: rest) k Γ a w := by
 show vE _ _ _ _ _ _ _ _ _ _ _;unfold vE;rw [hs];exact ⟨v, .inl ⟨hw, h⟩, hn⟩
theorem jP (v : Value) (hs : kd k = .big) (hw : Region.wanted o (yielded ops a.tmps) = true) (h : ∀ w1, CB w1 -> (execOp a.eval o).run P w1 = .ok (.value v) w1)
 (hn : oR P ops b CB kd q rest (k + 1) (Γ.set o.dst Spec.any) (a.put o.dst v) w) : oR P ops b CB kd q (o :: rest) k Γ a w := by
 show vE _ _ _ _ _ _ _ _ _ _ _;unfold vE;rw [hs];exact ⟨v, .inl ⟨hw, h⟩, hn⟩
theorem mO (x : Operand) (ho : o.op = .move x \/ o.op = .assign x) (hs : kd k = .small \/ kd k = .big) (hw : Region.wanted o (yielded ops a.tmps) = true)
 (hn : oR P ops b CB kd q rest (k + 1) (Γ.set o.dst Spec.any) (a.put o.dst (a.eval x)) w) : oR P ops b CB kd q (o :: rest) k Γ a w := by
 rcases hs with hs | hs
 . exact sI (a.eval x) hs hw (λ w1 _ _ => by rcases ho with h | h <;> simp [execOp, h]) hn
 . exact jP (a.eval x) hs hw (λ w1 _ => by rcases ho with h | h <;> simp [execOp, h]) hn
theorem rl_make (S : Spec) (hs : kd k = .make S) (hst : Spec.stable S) (hw : Region.wanted o (yielded ops a.tmps) = true)
 (h : ∀ w1, Below b.heap.size b w1 -> iD ops o Γ a w1 -> yE P o a w1 λ v w' => Below w1.heap.size w1 w' /\ S v w')
 (hn : ∀ v w', Below w.heap.size w w' -> S v w' -> oR P ops b CB kd q rest (k + 1) (Γ.set o.dst S) (a.put o.dst v) w') : oR P ops b CB kd q (o :: rest) k Γ a w := by
 show vE _ _ _ _ _ _ _ _ _ _ _;unfold vE;rw [hs];exact ⟨⟨hw, hst, h⟩, hn⟩
theorem jA (R : Spec) (hs : kd k = .late R) (hw : Region.wanted o (yielded ops a.tmps) = true) (h : yE P o a w λ v w' => CB w' /\ R v w')
 (hn : ∀ v w', CB w' -> R v w' -> oR P ops b CB kd q rest (k + 1) Γ (a.put o.dst v) w') : oR P ops b CB kd q (o :: rest) k Γ a w := by
 show vE _ _ _ _ _ _ _ _ _ _ _;unfold vE;rw [hs];exact ⟨hw, h, hn⟩
end
end Go.RG
namespace Go.Proofs.YtbjofbhhnmehgaaGreatDoor.TT
open Go.RowKit Go.RG Go.Hp Go.Proofs.YtbjofbhhnmehgaaGreatDoor
theorem apart_le : ∀ (n : Nat) (l : List Int), l.Nodup -> (∀ i ∈ l, 0 <= i /\ i < (n : Int)) -> l.length <= n
 | 0, l, _, h => by
  cases l with
  | nil => exact Nat.le_refl _
  | cons a l => have := h a (List.mem_cons_self ..); omega
 | n + 1, l, hd, h => by
  by_cases hn : (n : Int) ∈ l
  . have h1 := apart_le n (l.erase (n : Int)) (hd.erase _) (λ i hi => by
     have h2 := (List.Nodup.mem_erase_iff hd).1 hi;have h3 := h i h2.2;have h4 := h2.1;omega)
    rw [List.length_erase_of_mem hn] at h1;omega
  . have h1 := apart_le n l hd (λ i hi => by
     have h3 := h i hi;have h4 : i ≠ (n : Int) := λ e => hn (e ▸ hi);omega)
    omega
theorem qZ {w : World} {P : Program} {k : TypeId} {R : Value -> Option (DataW Value × List MemPlace)} {b n : Nat} {D : DataW Value} (h : w.ownsMap P k R b n D) : w.ownsMap P k R b (Maps.size D) D := by
 obtain ⟨es, clock, h1, h2, h3, rfl⟩ := h;refine ⟨es, clock, h1, h2, ?_, rfl⟩;rw [Maps.size_eq, length_sorted];simp
def setV (V : Int -> Value) (i : Int) (v : Value) (j : Int) : Value := if j = i then v else V j
def addK (ks : List Int) (i : Int) : List Int := if i ∈ ks then ks else i :: ks
theorem qR {ks : List Int} {i j : Int} : j ∈ addK ks i ↔ j = i \/ j ∈ ks := by
 unfold addK
 split
 . rename_i h;constructor
   . exact .inr
   . rintro (rfl | h')
     . exact h
     . exact h'
 . exact List.mem_cons
theorem mK : Tryz.prog.underlying 3 = some (.int .i64) := by kernel_rfl
theorem tE.store {w : World} {bm : Nat} {ks : List Int} {V : Int -> Value} (h : tE w bm ks V) (hn : ks.length <= 65536) (i : Int) (hi : (Lit.int .i64 i).wf = true) (v : Value) :
 ∃ w', (Instr.mapUpdate 82 (.map (some bm)) (.int .i64 i) v).run Tryz.prog w = .ok () w' /\ tE w' bm (addK ks i) (setV V i v) /\ w.grownBy w' (some bm) := by
 obtain ⟨D, h1, h2, h3, h4, h5⟩ := h.some';have K := Maps.int_keyed mK;have hkey := Maps.keyOf_int_mk mK hi;obtain ⟨w', r1, r2, r3⟩ := h1.update K oO (by unfold maxLen; omega) hkey (show asIs v = some (.held v, []) from rfl);have ht := h1.tidy K;have hsz := Maps.size_put ht (k := .int .i64 i) (.held v);rw [(h4 i hi).2, h2] at hsz;have hlen : Maps.size (D.put (.int .i64 i) (.held v)) = (addK ks i).length := by
  rw [hsz];unfold addK;by_cases hm : i ∈ ks
  . simp [hm]
  . simp [hm]
 refine ⟨w', r1, ⟨D.put (.int .i64 i) (.held v), by rw [<- hlen]; exact qZ r2, hlen, ?_, λ j hj => ?_, λ j hj => ?_⟩, r3⟩
 . unfold addK
   split
   . exact h3
   . rename_i hm; exact List.nodup_cons.2 ⟨hm, h3⟩
 . have hD := h1.isMap;have hkl : WideAt.IsKeyLit (.int .i64 i) := by first | trivial | simp [WideAt.IsKeyLit]
   by_cases hji : j = i
   . subst hji;exact ⟨by rw [Maps.atKey_put_same hD hkl]; simp [setV], by rw [Maps.has_put_same hD hkl]; simp [qR]⟩
   . have hne : (Lit.int .i64 j) ≠ .int .i64 i := λ e => hji (by injection e);refine ⟨?_, ?_⟩
     . rw [Maps.atKey_put_other hne, (h4 j hj).1]; simp [setV, hji]
     . rw [Maps.has_put_other hne, (h4 j hj).2];simp [qR, hji]
 . have := λ e => hj (qR.2 e);have h6 : j ≠ i := λ e => this (.inl e);have h7 : j ∉ ks := λ e => this (.inr e);simp [setV, h6, h5 j h7]
theorem build_one (cs : List Value) (hl : cs.length = 128) (w : World) : Sem.run Tryz.prog (Instr.buildSlice 80 1 #[(0, .agg cs.toArray)]) w = .ok (.slice (some ⟨w.heap.size, 0, none⟩) 1 1) (w.alloc (.cells cs.toArray 124)) := by
 have hi := mX
 cases hi0 : Tryz.prog.info? 124 with
 | none => rw [hi0] at hi; cases hi
 | some i0 =>
  rw [hi0] at hi;simp only [Option.map_some, Option.some.injEq, Prod.mk.injEq] at hi;obtain ⟨hz, hs, hb⟩ := hi
  cases hz0 : i0.zero with
  | none => rw [hz0] at hz; cases hz
  | some z =>
   obtain ⟨r, hr, hrs, hrk⟩ := Great.fill_dense (s := 128) (by decide) [.agg cs.toArray] 0 ((Array.range (1 * 128)).map (z.cells[· % z.cells.size]!)) (λ v hv => by
    obtain rfl := List.mem_singleton.1 hv;simp [Value.cells, hl]) (by simp)
   have hrc : r = cs.toArray := by
    apply Array.ext_getElem?;intro k;rw [hrk];by_cases hk : k < 128
    . rw [if_pos (by simp; omega), Nat.div_eq_of_lt hk, Nat.mod_eq_of_lt hk];simp [Value.cells]
    . rw [if_neg (by simp; omega)];rw [Array.getElem?_eq_none (by simp; omega), Array.getElem?_eq_none (by simp; omega)]
   subst hrc;exact run_buildSlice w 80 124 1 #[(0, .agg cs.toArray)] cs.toArray i0 z sA hi0 hz0 (by rw [hs]; decide) (by rw [hs]; decide) (by rw [hs]; exact hr)
theorem goesD_eq (x : Dsk) : vJ x = { x with off := (vJ x).off, fuse := (vJ x).fuse } := by
 unfold vJ
 split
 . rfl
 . split
   . rfl
   . split <;> rfl
theorem wQ.gone {w w' : World} {b : Bks} {x : Dsk} (h : wQ w b x) (hX : Ext (· = b.d) w w') (hh : vK w' b (vJ x)) : wQ w' b (vJ x) := by
 rw [goesD_eq] at hh ⊢;exact h.headed hX _ _ hh
theorem head_off {w : World} {b : Bks} {x : Dsk} (h : vK w b x) {g o : Nat} {n : Int} (hc : w.cell? ⟨g, o, none⟩ = some (.int .u8 n)) : g ≠ b.d := by
 rintro rfl;unfold vK at h
 match o with
 | 0 => simp [World.cell?, h] at hc
 | 1 => simp [World.cell?, h] at hc
 | 2 => simp [World.cell?, h] at hc
 | 3 => simp [World.cell?, h] at hc
 | 4 => simp [World.cell?, h] at hc
 | o + 5 => simp [World.cell?, h] at hc
theorem append_one (w : World) (B : Nat) (v : Value) (n : Nat) (xs : List Value) (hown : w.ownsRow B 124 128 v n xs) (hn : n <= 1099511627775) (hB : B <= w.heap.size) (g c : Nat) (cs : List Value) (hl : cs.length = 128) (hc : Row w g 124 cs) (h1 : ∀ u ∈ cs, u.oneCell' = true) (ty : TypeId) :
 ∃ v' w', Sem.run Tryz.prog (Builtin.append_ #[80, 80] ty #[v, .slice (some ⟨g, 0, none⟩) 1 c]) w = .ok v' w' /\ w'.ownsRow B 124 128 v' (n + 1) (xs ++ cs) /\ w.grownBy w' v.ownBlock /\ ∀ k, v'.ownBlock = some k -> v.ownBlock = some k \/ w.heap.size <= k := by
 have hi := mX
 cases hi0 : Tryz.prog.info? 124 with
 | none => rw [hi0] at hi; cases hi
 | some i0 =>
  rw [hi0] at hi;simp only [Option.map_some, Option.some.injEq, Prod.mk.injEq] at hi;obtain ⟨hz, hs, hb⟩ := hi
  cases hz0 : i0.zero with
  | none => rw [hz0] at hz; cases hz
  | some z =>
   rw [hz0] at hz;injection hz with hz;have hzs : z.cells.size = 128 := by rw [hz]; exact List.length_replicate
   have hcs : ∀ j u, cs[j]? = some u -> w.cell? ((⟨g, 0, none⟩ : Addr).add j) = some u := λ j u hu => by rw [Addr.add_lit, Nat.zero_add, hc.cell]; exact hu
   have q1 : n + 1 <= maxLen := by unfold maxLen; omega
   have q2 : (n + 1) * 128 <= 140737488355328 := by omega
   rcases hown.2 with ⟨hv, hn0⟩ | ⟨g', cap, cur, hv, -⟩
   . subst hv hn0;obtain ⟨v', w', r1, r2, r3, -⟩ := run_append_own (P := Tryz.prog) w w.heap.size 80 ty 124 i0 z 128 128 sA hi0 hz0 hs hb hzs (by decide) (.slice none 0 0) 0 xs (yC hown (λ k hk => by cases hk)) ⟨g, 0, none⟩ 1 c cs (by rw [hl]) hcs h1 q1 q2 (Nat.le_refl _);exact ⟨v', w', r1, yC r2 (λ k hk => Nat.le_trans hB (r2.lt k hk).1), r3, λ k hk => .inr (r2.lt k hk).1⟩
   . subst hv;obtain ⟨v', w', hr, r2, r3, -⟩ := run_append_own (P := Tryz.prog) w B 80 ty 124 i0 z 128 128 sA hi0 hz0 hs hb hzs (by decide) _ n xs hown ⟨g, 0, none⟩ 1 c cs (by rw [hl]) hcs h1 q1 q2 hB;refine ⟨v', w', hr, r2, r3, ?_⟩;intro k hk;obtain ⟨L, hL, hLl, hLt, hnc, hcm⟩ := qJ hown;by_cases hroom : n + 1 <= cap
     . have hr2 := run_append_room (P := Tryz.prog) w 80 ty 124 i0 sA hi0 g' n cap L.toArray hL ⟨g, 0, none⟩ 1 c cs (by rw [hl, hs]) hcs h1 hroom (by rw [List.size_toArray, hs, hLl, hl]; omega);rw [hr2] at hr;injection hr with hv _;subst hv;exact .inl hk
     . have hr2 := run_append_grow (P := Tryz.prog) w 80 ty 124 i0 z sA hi0 hz0 ⟨g', 0, none⟩ n cap xs (by rw [hs]; exact hown.1) (hown.cells (g := g') rfl) ⟨g, 0, none⟩ 1 c cs (by rw [hl, hs]) hcs (by unfold maxLen at q1; omega) (by omega) (growslice_fits (by omega) (by rw [hb]; exact q2));rw [hr2] at hr;injection hr with hv _;subst hv;have hk : w.heap.size = k := Option.some.inj hk;exact .inr (by omega)
def uP (x : Dsk) (i : Int) (bs : List Int) : Dsk := { x with ks := addK x.ks i, cache := λ j => if j = i then x.cache i ++ [bs] else x.cache j }
def Bks.setV (b : Bks) (i : Int) (v : Value) : Bks := { b with V := TT.setV b.V i v }
theorem arr_at (w : World) (g o c : Nat) : Sem.run Tryz.prog (Instr.arrayAt 124 (.slice (some ⟨g, o, none⟩) 128 c)) w = .ok (.pointer (some ⟨g, o, none⟩)) w := by
 simp only [Instr.arrayAt, Sem.run_bind, run_underlying tF, Result.andThen_ok];rfl
theorem wQ.wrote {wg w10 w11 : World} {b : Bks} {y : Dsk} (h : wQ wg b y) (i : Nat) (hi : i < y.dur.length) (bs : List Int) (hl : bs.length = 128) (v : Value) (hown : w10.ownsRow 0 124 128 v ((y.cache i).length + 1) (flat (y.cache i ++ [bs])))
 (hX : Ext (λ k => (b.V i).ownBlock = some k) wg w10) (hbk : ∀ k, v.ownBlock = some k -> (b.V i).ownBlock = some k \/ wg.heap.size <= k) (hm : tE w11 b.m (addK y.ks i) (TT.setV b.V i v)) (hg : w10.grownBy w11 (some b.m)) : wQ w11 (b.setV i v) (uP y i bs) := by
 have hlt := h.lt;have hk : ∀ k, b.all k -> k ≠ b.m -> (b.V i).ownBlock ≠ some k -> w11.heap[k]? = wg.heap[k]? := λ k hk h1 h2 => by
  have := hlt k hk;rw [hg.block k (Nat.lt_of_lt_of_le this hX.size) (λ e => h1 (by injection e)), hX.block k this h2]
 have hVn : ∀ k, (b.V i).ownBlock = some k -> k ≠ b.d /\ k ≠ b.g /\ k ≠ b.t /\ k ≠ b.m := λ k e => h.ne2 i k e;have hv : ∀ k, v.ownBlock = some k -> k ≠ b.d /\ k ≠ b.g /\ k ≠ b.t /\ k ≠ b.m := λ k e => by
  rcases hbk k e with e | e
  . exact hVn k e
  . have l1 := hlt b.d (.inl rfl);have l2 := hlt b.g (.inr (.inl rfl));have l3 := hlt b.t (.inr (.inr (.inl rfl)));have l4 := hlt b.m (.inr (.inr (.inr (.inl rfl))));omega
 have hnd : (b.V i).ownBlock ≠ some b.d := λ e => (hVn _ e).1 rfl;have hng : (b.V i).ownBlock ≠ some b.g := λ e => (hVn _ e).2.1 rfl;have hnt : (b.V i).ownBlock ≠ some b.t := λ e => (hVn _ e).2.2.1 rfl;refine { head := ?_, durs := ?_, torns := ?_, map := hm, rows := λ j hj => ?_, none' := λ j hj => ?_, len := h.len, pos := h.pos, lim := h.lim, in' := λ j hj => ?_, s128 := h.s128, c128 := λ j s hs => ?_, ne1 := h.ne1, ne2 := λ j k e => ?_, ne3 := λ j l k hjl e => ?_ }
 . show w11.heap[b.d]? = _;rw [hk b.d (.inl rfl) h.ne1.2.2.1 hnd];exact h.head
 . show w11.heap[b.g]? = _;rw [hk b.g (.inr (.inl rfl)) h.ne1.2.2.2.2.1 hng];exact h.durs
 . show w11.heap[b.t]? = _;rw [hk b.t (.inr (.inr (.inl rfl))) h.ne1.2.2.2.2.2 hnt];exact h.torns
 . by_cases hji : j = (i : Int)
   . subst hji;simp only [uP, Bks.setV, TT.setV, if_true];rw [List.length_append, List.length_singleton];refine ⟨by omega, yJ hown λ k e => ?_⟩;exact hg.block k (xD hown e) (λ e2 => (hv k e).2.2.2 (by injection e2))
   . have hj' := (qR.1 hj).resolve_left hji;simp only [uP, Bks.setV, TT.setV, if_neg hji];exact ⟨(h.rows j hj').1, yJ (h.rows j hj').2 λ k e => hk k (.inr (.inr (.inr (.inr ⟨j, e⟩)))) (h.ne2 j k e).2.2.2 (h.ne3 j i k hji e)⟩
 . have hj' := λ e => hj (qR.2 e);simp only [uP];rw [if_neg (λ e => hj' (.inl e))];exact h.none' j λ e => hj' (.inr e)
 . rcases qR.1 hj with rfl | hj
   . exact ⟨by omega, by show (i : Int) < (y.dur.length : Int); omega⟩
   . exact h.in' j hj
 . simp only [uP] at hs;by_cases hji : j = (i : Int)
   . rw [if_pos hji] at hs;rcases List.mem_append.1 hs with hs | hs
     . exact h.c128 _ s hs
     . rw [List.mem_singleton.1 hs]; exact hl
   . rw [if_neg hji] at hs;exact h.c128 j s hs
 . simp only [Bks.setV, TT.setV] at e;by_cases hji : j = (i : Int)
   . rw [if_pos hji] at e;exact hv k e
   . rw [if_neg hji] at e;exact h.ne2 j k e
 . simp only [Bks.setV, TT.setV] at e ⊢;by_cases hji : j = (i : Int)
   . subst hji;rw [if_pos rfl] at e;rw [if_neg (Ne.symm hjl)];rcases hbk k e with e | e
     . exact h.ne3 _ l k hjl e
     . intro e2;have := hlt k (.inr (.inr (.inr (.inr ⟨l, e2⟩))));omega
   . rw [if_neg hji] at e;by_cases hli : l = (i : Int)
     . subst hli;rw [if_pos rfl];intro e2;rcases hbk k e2 with e3 | e3
       . exact h.ne3 j _ k hji e e3
       . have := hlt k (.inr (.inr (.inr (.inr ⟨j, e⟩))));omega
     . rw [if_neg hli];exact h.ne3 j l k hjl e
theorem write_any (b : Bks) (x : Dsk) (i : Nat) (hi : i < x.dur.length) (v : Value) (bs : List Int) (hl : bs.length = 128) (w : World) (h : wQ w b x) (hf : x.fuse <= 9223372036854775807 /\ -1 <= x.fuse) (hs : Src w v (u8s bs)) (hver : (x.cache i).length <= 1099511627775) :
 Calls Tryz.prog 79 #[.pointer (some ⟨b.d, 0, none⟩), .int .i64 i, v] w λ e w' => ∃ b' : Bks, b'.d = b.d /\ (∀ k, b'.all k -> b.all k \/ w.heap.size <= k) /\ Ext b.all w w' /\
  ((vC x = true /\ e = .returned (.int .i64 0) /\ wQ w' b' (uP (vJ x) i bs)) \/ (vC x = false /\ e = .returned (.int .i64 5) /\ wQ w' b' (vJ x))) := by
 have hd : pA x (i : Int) = true := by simp [pA, hi]
 have hlim := h.lim;have hwf : (Lit.int .i64 (i : Int)).wf = true := WalkArith.wf_i64 (by omega);rcases hs with ⟨g, o, c, rfl, hc, hr⟩ | ⟨-, e2⟩
 . rw [zH, hl] at hc ⊢;have H := zB h; clear h;have Hr := zB hr; clear hr;have Hl := zB hl; clear hl;go_enter Tryz.func79, Tryz.ntmps79
   go_wp2_with fail
   refine (has_any b x i w H.out.head).mono ?_;rintro e w' ⟨rfl, rfl⟩;rw [hd]
   go_wp2_with fail
   refine (goes_any b x w H.out.head hf).mono ?_;rintro e wg ⟨rfl, hh1, hX1⟩;have hD1 := H.out.gone hX1 hh1;have hXa : Ext b.all w wg := hX1.mono λ k _ hk => .inl hk;have HD1 := zB hD1; clear hD1
   cases hgb : vC x
   . have Hgb := zB hgb; clear hgb
     go_wp2_with fail
     go_ret
     exact ⟨b, rfl, λ k hk => .inl hk, hXa, .inr ⟨Hgb.out, rfl, HD1.out⟩⟩
   . have Hgb := zB hgb; clear hgb;obtain ⟨y, hy⟩ : ∃ y, vJ x = y := ⟨_, rfl⟩;rw [hy] at HD1 hh1;have hcy : y.cache = x.cache := by rw [<- hy, goesD_eq]
     have Hy := zB hy; clear hy;obtain ⟨-, -, c2, -⟩ := hh1.cells;have hs1 : ∀ j u, (u8s bs)[j]? = some u -> wg.cell? ⟨g, o + j, none⟩ = some u := λ j u hu => by
      have hc0 := Hr.out j u hu;obtain ⟨n, rfl⟩ : ∃ n, u = .int .u8 n := by
       obtain ⟨n, -, e⟩ := List.mem_map.1 (List.mem_of_getElem? hu);exact ⟨n, e.symm⟩
      exact hX1.cell_some hc0 (head_off H.out.head hc0)
     have Hs1 := zB hs1; clear hs1;clear hh1
     go_wp2_with fail
     refine vY 16 [0, 1, 2, 3, 4] (λ i => if i = 14 then some (λ v w' => ∃ g : Nat, v = .slice (some ⟨g, 0, none⟩) 1 1 /\ wg.heap.size <= g /\ Row w' g 124 (u8s bs)) else none)
      (λ w' => w'.cell? ⟨b.d, 2, none⟩ = some (.map (some b.m)))
      (λ u w' => w'.ownsRow 0 124 128 u ((y.cache i).length + 1) (flat (y.cache i ++ [bs])) /\ Ext (λ k => (b.V i).ownBlock = some k) wg w' /\ ∀ k, u.ownBlock = some k -> (b.V i).ownBlock = some k \/ wg.heap.size <= k) fol (by kernel_rfl)
      (λ b1 _ hb w' h => zG (zF hb h) c2) (λ W hW hh => ?_)
     clear hh;have c2W : ∀ w2, Below W.heap.size W w2 -> w2.cell? ⟨b.d, 2, none⟩ = some (.map (some b.m)) := λ w2 h2 => zG (zF hW h2) c2;have hlk : ∀ w2, Below W.heap.size W w2 -> Sem.run Tryz.prog (Instr.lookup 82 (.map (some b.m)) (.int .i64 (i : Int)) false) w2 = .ok (b.V i) w2 := λ w2 h2 => (HD1.out.below (zF hW h2)).map.look i hwf;have harr := λ w2 => arr_at w2 g o c;simp only [fT]
     iterate 13 ((first | (refine mO _ (by first | exact .inl rfl | exact .inr rfl) (by first | exact .inl rfl | exact .inr rfl) rfl ?_) | (refine sI ?_ rfl rfl (λ w1 hb1 hf1 => ?_) ?_; rotate_left; (go_simp; (try simp (disch := omega) only [zE, toNatUp, iteOmega]); (try go_simp); rfl)) | (refine jP ?_ rfl rfl (λ w1 hcb1 => ?_) ?_; rotate_left; ((try dsimp only at hcb1); go_simp; (try simp (disch := omega) only [zE, toNatUp, iteOmega]); (try go_simp); rfl))); simp only [zD])
     refine sI (.agg (u8s bs).toArray) rfl rfl (λ w2 hb2 hf2 => gT (.tmp 31) 124 rfl (show (Instr.loadAt 124 (.pointer (some ⟨g, o, none⟩))).run Tryz.prog w2 = _ from oQ tF wT w2 ⟨g, o, none⟩ (u8s bs) (by rw [zH]; exact Hl.out) (λ j u hu => by rw [Addr.add_lit]; exact zG (zF hW hb2) (Hs1.out j u hu)))) ?_;simp only [zD];refine rl_make _ rfl (by exact λ _ _ _ ⟨g, h1, h2, h3⟩ hb => ⟨g, h1, h2, h3.below hb⟩) rfl (λ w1 hb1 hf1 => ?_) ?_
     . exact xT (xO 80 1 (.tmp 32) rfl (show (Instr.buildSlice 80 1 #[(0, .agg (u8s bs).toArray)]).run Tryz.prog w1 = _ from build_one (u8s bs) (by rw [zH]; exact Hl.out) w1)) ⟨(Below.refl _ w1).alloc (Nat.le_refl _) _, _, rfl, Nat.le_trans hW.size hb1.size, World.alloc_heap_new w1 _⟩
     rintro v9 w9 hB9 ⟨g9, rfl, hg9, hr9⟩;simp only [zD];have h9 := zF hW hB9;have hD9 := HD1.out.below h9;have hownV : w9.ownsRow 0 124 128 (b.V i) (y.cache i).length (flat (y.cache i)) := by
      by_cases hm : (i : Int) ∈ y.ks
      . exact (hD9.rows _ hm).2
      . obtain ⟨D, -, -, -, -, h0⟩ := hD9.map.some';rw [h0 _ hm, hD9.none' _ hm];exact World.ownsRow_nil _ _ _ _
     refine jA _ rfl rfl ?_ ?_
     . obtain ⟨v', w', r1, r2, r3, r4⟩ := append_one w9 0 (b.V i) _ _ hownV (by rw [hcy]; exact hver) (Nat.zero_le _) g9 1 (u8s bs) (by rw [zH]; exact Hl.out) hr9 (yU _) 80;refine xT (yM (.tmp 29) (.tmp 33) 80 80 rfl (show (Builtin.append_ #[80, 80] 80 #[b.V i, .slice (some ⟨g9, 0, none⟩) 1 1]).run Tryz.prog w9 = _ from r1)) ⟨?_, ?_, ?_, ?_⟩
       . have hx : Ext (λ k => (b.V i).ownBlock = some k) w9 w' := Ext.grown r3 λ k e _ => e;exact hx.cell_some (zG h9 c2) λ e => (hD9.ne2 i _ e).1 rfl
       . rw [flat_append];have e1 : flat [bs] = u8s bs := by simp [flat, u8s]
         rw [e1];exact r2
       . exact (Ext.of_below h9).trans (Ext.grown (S := λ k => (b.V i).ownBlock = some k) r3 λ k e _ => e) λ k _ e => e
       . intro k hk;rcases r4 k hk with e | e
         . exact .inl e
         . exact .inr (Nat.le_trans h9.size e)
     rintro v10 w10 hcb ⟨hown, hX10, hbk⟩;simp only [zD];refine rl_nil ?_;have hm10 : tE w10 b.m y.ks b.V := HD1.out.map.keep (hX10.block _ HD1.out.map.lt λ e => (HD1.out.ne2 i _ e).2.2.2 rfl);obtain ⟨D, -, -, hnd, -⟩ := HD1.out.map.some';have hkl : y.ks.length <= 65536 := Nat.le_trans (apart_le y.dur.length y.ks hnd HD1.out.in') HD1.out.lim;obtain ⟨w11, q1, q2, q3⟩ := hm10.store hkl i hwf v10;have hiy : i < y.dur.length := by have := Hy.out; rw [goesD_eq] at this; rw [<- this]; exact hi
     have hfin := HD1.out.wrote i hiy bs Hl.out v10 hown hX10 hbk q2 q3;have hall : ∀ k, (b.setV i v10).all k -> b.all k \/ w.heap.size <= k := by
      rintro k (rfl | rfl | rfl | rfl | ⟨j, e⟩)
      . exact .inl (.inl rfl)
      . exact .inl (.inr (.inl rfl))
      . exact .inl (.inr (.inr (.inl rfl)))
      . exact .inl (.inr (.inr (.inr (.inl rfl))))
      . simp only [Bks.setV, TT.setV] at e
        split at e
        . rcases hbk k e with e | e
          . exact .inl (.inr (.inr (.inr (.inr ⟨_, e⟩))))
          . exact .inr (Nat.le_trans hX1.size e)
        . exact .inl (.inr (.inr (.inr (.inr ⟨j, e⟩))))
     have hext : Ext b.all w w11 := (hXa.trans (hX10.mono λ k _ e => .inr (.inr (.inr (.inr ⟨_, e⟩)))) λ _ _ e => e).trans (Ext.grown (S := b.all) q3 λ k e _ => by injection e with e; subst e; exact .inr (.inr (.inr (.inl rfl)))) λ _ _ e => e;have HF := zB (zC hfin (zC hall hext));refine iX rfl rfl (exec_mapUpdate 82 (.tmp 22) (.tmp 23) (.tmp 34) rfl (show (Instr.mapUpdate 82 (.map (some b.m)) (.int .i64 (i : Int)) v10).run Tryz.prog w10 = _ from q1)) ?_;clear hfin hall hext hown hX10 hbk hm10 q1 q2 q3 hcb hownV hD9 hlk harr c2W
     go_wp2_with fail
     go_ret
     exact ⟨b.setV i v10, rfl, HF.out.2.1, HF.out.2.2, .inl ⟨Hgb.out, rfl, by rw [Hy.out]; exact HF.out.1⟩⟩
 . have := congrArg List.length e2;rw [zH, List.length_nil] at this;omega
def setD (x : Dsk) (i : Nat) (s : List Int) (tb : Bool) : Dsk := { x with dur := x.dur.set i s, torn := x.torn.set i tb }
theorem flat_set {m : Nat} : ∀ {l : List (List Int)} (_ : ∀ s ∈ l, s.length = m) {i : Nat} (_ : i < l.length) (s : List Int), flat (l.set i s) = (flat l).take (i * m) ++ u8s s ++ (flat l).drop (i * m + m)
 | [], _, i, hi, _ => by simp at hi
 | t :: l, h, 0, _, s => by
  have ht := h t (List.mem_cons_self ..);rw [List.set_cons_zero, rW, rW, Nat.zero_mul, Nat.zero_add, List.take_zero, List.nil_append, List.drop_left' (by rw [zH, ht])]
 | t :: l, h, i + 1, hi, s => by
  have ht := h t (List.mem_cons_self ..);have ih := flat_set (λ s hs => h s (List.mem_cons_of_mem _ hs)) (i := i) (by simpa using hi) s;rw [List.set_cons_succ, rW, rW, ih];have e1 : (i + 1) * m = (u8s t).length + i * m := by rw [zH, ht, Nat.add_mul]; omega
  rw [e1, List.take_length_add_append, show (u8s t).length + i * m + m = (u8s t).length + (i * m + m) by omega, List.drop_length_add_append];simp only [List.append_assoc]
theorem ext_two {w w' w'' : World} {g t : Nat} (h1 : Ext (· = g) w w') (h2 : Ext (· = t) w' w'') : Ext (λ k => k = g \/ k = t) w w'' := (h1.mono λ _ _ e => .inl e).trans (h2.mono λ _ _ e => .inr e) λ _ _ e => e
theorem wQ.settled {w w' : World} {b : Bks} {x : Dsk} (h : wQ w b x) {i : Nat} (hi : i < x.dur.length) {s : List Int} (hs : s.length = 128) {tb : Bool} (hX : Ext (λ k => k = b.g \/ k = b.t) w w')
    (hg : Row w' b.g 124 (flat (x.dur.set i s))) (ht : Row w' b.t 4 ((x.torn.set i tb).map Value.bool)) : wQ w' b (setD x i s tb) := by
  have hk : ∀ k, b.all k -> k ≠ b.g -> k ≠ b.t -> w'.heap[k]? = w.heap[k]? := λ k hk h1 h2 => hX.block k (h.lt k hk) λ e => e.elim h1 h2
  exact { head := by
            show w'.heap[b.d]? = _;rw [hk b.d (.inl rfl) h.ne1.1 h.ne1.2.1];have := h.head;unfold vK at this;simpa [setD] using this
          durs := hg, torns := ht, map := h.map.keep (hk _ (.inr (.inr (.inr (.inl rfl)))) (Ne.symm h.ne1.2.2.2.2.1) (Ne.symm h.ne1.2.2.2.2.2)), rows := λ j hj => ⟨(h.rows j hj).1, yJ (h.rows j hj).2 λ k e => hk k (.inr (.inr (.inr (.inr ⟨j, e⟩)))) (h.ne2 j k e).2.1 (h.ne2 j k e).2.2.1⟩, none' := h.none', len := by simp [setD, h.len], pos := by simp [setD]; exact h.pos, lim := by simp [setD]; exact h.lim, in' := λ j hj => by simpa [setD] using h.in' j hj, s128 := λ u hu => by
            rcases List.mem_or_eq_of_mem_set hu with h1 | h1
            . exact h.s128 u h1
            . rw [h1]; exact hs
          c128 := h.c128, ne1 := h.ne1, ne2 := h.ne2, ne3 := h.ne3 }
theorem settle_any (b : Bks) (x : Dsk) (i : Nat) (hi : i < x.dur.length) (s : List Int) (hs : s.length = 128) (tb : Bool) (w : World) (h : wQ w b x) :
 Calls Tryz.prog 74 #[.pointer (some ⟨b.d, 0, none⟩), .int .i64 i, .agg (u8s s).toArray, .bool tb] w λ e w' => (∃ v, e = .returned v) /\ wQ w' b (setD x i s tb) /\ Ext (λ k => k = b.g \/ k = b.t) w w' := by
 have hlim := h.lim;have hi' : (i : Int) < (x.dur.length : Int) := by omega
 have H := zB h; clear h;have Hs := zB hs; clear hs;go_enter Tryz.func74, Tryz.ntmps74
 go_wp2_with fail
 have hB0 := zQ w (.cells (u8s s).toArray 124);have hr0 : Row (w.alloc (.cells (u8s s).toArray 124)) w.heap.size 124 (u8s s) := row_new w (u8s s) 124;generalize w.alloc (.cells (u8s s).toArray 124) = w0 at hB0 hr0 ⊢;have hD0 := H.out.below hB0;obtain ⟨c0, c1, -⟩ := hD0.head.cells;have HD0 := zB hD0; clear hD0;have Hr0 := zB hr0; clear hr0;refine vY 14 [9, 11] (λ _ => none) (λ _ => True) (λ _ w' => Row w' b.g 124 (flat (x.dur.set i s)) /\ Ext (· = b.g) w0 w') fol (by kernel_rfl) (λ _ _ _ _ _ => trivial) (λ W hW hh => ?_);clear hh;have q0 : ∀ w1, Below W.heap.size W w1 -> w1.cell? ⟨b.d, 0, none⟩ = some (.slice (some ⟨b.g, 0, none⟩) x.dur.length x.dur.length) := λ w1 h => zG (zF hW h) c0;have q1 : ∀ w1, Below W.heap.size W w1 -> w1.cell? ⟨b.d, 1, none⟩ = some (.slice (some ⟨b.t, 0, none⟩) x.dur.length x.dur.length) := λ w1 h => zG (zF hW h) c1;simp only [fT]
 iterate 10 ((first | (refine mO _ (by first | exact .inl rfl | exact .inr rfl) (by first | exact .inl rfl | exact .inr rfl) rfl ?_) | (refine sI ?_ rfl rfl (λ w1 hb1 hf1 => ?_) ?_; rotate_left; (go_simp; (try simp (disch := omega) only [zE, toNatUp, iteOmega]); (try go_simp); rfl)) | (refine jP ?_ rfl rfl (λ w1 hcb1 => ?_) ?_; rotate_left; ((try dsimp only at hcb1); go_simp; (try simp (disch := omega) only [zE, toNatUp, iteOmega]); (try go_simp); rfl))); simp only [zD])
 refine sI (.agg (u8s s).toArray) rfl rfl (λ w1 hb1 hf1 => gT (.tmp 6) 124 rfl (show (Instr.loadAt 124 (.pointer (some ⟨w.heap.size, 0, none⟩))).run Tryz.prog w1 = _ from oQ tF wT w1 ⟨w.heap.size, 0, none⟩ (u8s s) (by rw [zH]; exact Hs.out) (λ j u hu => by
  rw [Addr.add_lit, Nat.zero_add, (Hr0.out.below (zF hW hb1)).cell]; exact hu))) ?_
 simp only [zD]
 iterate 2 ((first | (refine mO _ (by first | exact .inl rfl | exact .inr rfl) (by first | exact .inl rfl | exact .inr rfl) rfl ?_) | (refine sI ?_ rfl rfl (λ w1 hb1 hf1 => ?_) ?_; rotate_left; (go_simp; (try simp (disch := omega) only [zE, toNatUp, iteOmega]); (try go_simp); rfl)) | (refine jP ?_ rfl rfl (λ w1 hcb1 => ?_) ?_; rotate_left; ((try dsimp only at hcb1); go_simp; (try simp (disch := omega) only [zE, toNatUp, iteOmega]); (try go_simp); rfl))); simp only [zD])
 have hDW := HD0.out.below hW;refine jA _ rfl rfl ?_ ?_
 . have hfl := oG HD0.out.s128;have hst := lN (P := Tryz.prog) wT W b.g (i * 128) 124 (flat x.dur) (u8s s) hDW.durs (by rw [zH]; exact Hs.out) (by rw [hfl]; omega) (yU _);refine makes_skip (exec_store (.tmp 20) (.tmp 18) 124 rfl (show (Instr.storeAt 124 (.pointer (some ⟨b.g, i * 128, none⟩)) (.agg (u8s s).toArray)).run Tryz.prog W = _ from hst)) ⟨trivial, ?_, ?_⟩
   . rw [flat_set HD0.out.s128 hi];exact pV hDW.durs _
   . exact (Ext.of_below hW).trans (sF W b.g _) λ _ _ e => e
 rintro v9 w9 - ⟨hr9, hX9⟩;simp only [zD];refine rl_nil ?_;have ht9 : Row w9 b.t 4 (x.torn.map Value.bool) := HD0.out.torns.ext hX9 (λ e => HD0.out.ne1.2.2.2.1 e.symm);obtain ⟨ob, hob⟩ : ∃ ob, x.torn[i]? = some ob := ⟨_, List.getElem?_eq_getElem (by rw [HD0.out.len]; exact hi)⟩;have ct : w9.cell? ⟨b.t, i, none⟩ = some (.bool ob) := by rw [ht9.cell]; simp [hob]
 have cf := ht9.frozen i;have Hr9 := zB hr9;have Ht9 := zB ht9;clear hr9 ht9 hob q0 q1
 go_wp2_with fail
 refine ⟨rfl, _, results_none rfl _ _ _, ⟨_, rfl⟩, ?_, ?_⟩
 . have hX := ext_two (hX9) (Ext.setCell (S := (· = b.t)) (w := w9) (p := ⟨b.t, i, none⟩) rfl (.bool tb));refine HD0.out.settled hi Hs.out hX ?_ ?_
   . exact Hr9.out.ext (Ext.setCell (S := (· = b.t)) (p := ⟨b.t, i, none⟩) rfl _) HD0.out.ne1.2.2.2.1
   . have := row_set (i := i) Ht9.out (.bool tb)
     rwa [<- List.map_set] at this
 . exact (Ext.of_below hB0).trans (ext_two hX9 (Ext.setCell (S := (· = b.t)) (w := w9) (p := ⟨b.t, i, none⟩) rfl (.bool tb))) λ _ _ e => e
end Go.Proofs.YtbjofbhhnmehgaaGreatDoor.TT
namespace Go.Proofs.YtbjofbhhnmehgaaGreatDoor.TT
open Go.RowKit Go.RG Go.Hp Go.Proofs.YtbjofbhhnmehgaaGreatDoor Go.ChangeMaps Go.MapKept
def kW (x : Dsk) (dn : Int -> Bool) : Dsk := { x with dur := x.dur.mapIdx λ i s => if dn i then (x.cache i).getLast?.getD s else s, torn := x.torn.mapIdx λ i t => if dn i then false else t }
def vT (x : Dsk) : Dsk := { kW x (λ i => decide (i ∈ x.ks)) with ks := [], cache := λ _ => [] }
theorem someD_none (x : Dsk) (dn : Int -> Bool) (h : ∀ i, dn i = false) : kW x dn = x := by
 have e1 : x.dur.mapIdx (λ i s => if dn i then (x.cache i).getLast?.getD s else s) = x.dur := by
  apply List.ext_getElem?;intro j;rw [List.getElem?_mapIdx]
  cases x.dur[j]? <;> simp [h]
 have e2 : x.torn.mapIdx (λ i t => if dn i then false else t) = x.torn := by
  apply List.ext_getElem?;intro j;rw [List.getElem?_mapIdx]
  cases x.torn[j]? <;> simp [h]
 unfold kW;rw [e1, e2]
theorem someD_step (x : Dsk) (dn dn' : Int -> Bool) (i : Nat) (s : List Int) (hs : (x.cache i).getLast? = some s) (h : ∀ j : Int, dn' j = (dn j || decide (j = i))) : setD (kW x dn) i s false = kW x dn' := by
 have e1 : (x.dur.mapIdx (λ i s => if dn i then (x.cache i).getLast?.getD s else s)).set i s = x.dur.mapIdx (λ i s => if dn' i then (x.cache i).getLast?.getD s else s) := by
  apply List.ext_getElem?;intro j;rw [List.getElem?_set, List.getElem?_mapIdx, List.getElem?_mapIdx, List.length_mapIdx];by_cases hij : i = j
  . subst hij;rw [if_pos rfl];by_cases hi : i < x.dur.length
    . rw [if_pos hi, List.getElem?_eq_getElem hi];simp [h, hs]
    . rw [if_neg hi, List.getElem?_eq_none (by omega)];rfl
  . rw [if_neg hij];have : decide ((j : Int) = (i : Int)) = false := by rw [decide_eq_false_iff_not]; omega
    simp [h, this]
 have e2 : (x.torn.mapIdx (λ i t => if dn i then false else t)).set i false = x.torn.mapIdx (λ i t => if dn' i then false else t) := by
  apply List.ext_getElem?;intro j;rw [List.getElem?_set, List.getElem?_mapIdx, List.getElem?_mapIdx, List.length_mapIdx];by_cases hij : i = j
  . subst hij;rw [if_pos rfl];by_cases hi : i < x.torn.length
    . rw [if_pos hi, List.getElem?_eq_getElem hi];simp [h]
    . rw [if_neg hi, List.getElem?_eq_none (by omega)];rfl
  . rw [if_neg hij];have : decide ((j : Int) = (i : Int)) = false := by rw [decide_eq_false_iff_not]; omega
    simp [h, this]
 unfold setD kW;simp only [e1, e2]
theorem ranges_keep {w w' : World} {P : Program} {k : TypeId} {R : Value -> Option (DataW Value × List MemPlace)} {b r n : Nat} {D : DataW Value} {left : Lit -> Bool} {cnt : Nat} (h : w.ranges P k R b r n D left cnt) (hb : w'.heap[b]? = w.heap[b]?) (hr : w'.heap[r]? = w.heap[r]?) : w'.ranges P k R b r n D left cnt := by
 obtain ⟨es, clock, since, seen, c0, h1, h2, h3, h4, h5, h6⟩ := h;exact ⟨es, clock, since, seen, c0, hb.trans h1, h2, h3, h4, hr.trans h5, h6⟩
theorem cache_empty {w : World} {bm clock : Nat} (h : w.heap[bm]? = some (.map #[] clock)) : tE w bm [] (λ _ => .slice none 0 0) :=
 ⟨⟨.map [], ⟨#[], clock, h, ⟨by simp, stamped_empty clock, by simp⟩, Nat.le_refl _, rfl⟩, rfl, List.nodup_nil, λ i _ => ⟨rfl, by simp [Maps.has]⟩, λ i _ => rfl⟩⟩
theorem run_clear_map {w : World} {bm clock : Nat} {es : Array MapEntry} (h : w.heap[bm]? = some (.map es clock)) (ty : TypeId) : Sem.run Tryz.prog (Builtin.clear_ #[82] ty #[.map (some bm)]) w = .ok (.tuple #[]) (ChangeMaps.setBlock w bm (.map #[] clock)) := by
 have h1 := MapKept.run_getObj_map (P := Tryz.prog) h;have h2 := MapKept.run_setObj_map (P := Tryz.prog) (.map #[] clock) h;simp [Builtin.clear_, run_underlying oO, h1, h2, ChangeMaps.setBlock, Result.andThen]
theorem flush_any (b : Bks) (x : Dsk) (w : World) (h : wQ w b x) (hf : x.fuse <= 9223372036854775807 /\ -1 <= x.fuse) :
    Calls Tryz.prog 80 #[.pointer (some ⟨b.d, 0, none⟩)] w λ e w' => ∃ b' : Bks, b'.d = b.d /\ (∀ k, b'.all k -> b.all k) /\ Ext b.all w w' /\
      ((vC x = true /\ e = .returned (.int .i64 0) /\ wQ w' b' (vT (vJ x))) \/ (vC x = false /\ e = .returned (.int .i64 5) /\ wQ w' b' (vJ x))) := by
  have H := zB h; clear h;go_enter Tryz.func80, Tryz.ntmps80
  go_wp2_with fail
  refine (iS b x w H.out.head).mono ?_;rintro e w' ⟨rfl, rfl⟩
  go_wp2_with fail
  refine (goes_any b x w H.out.head hf).mono ?_;rintro e wg ⟨rfl, hh1, hX1⟩;have hD1 := H.out.gone hX1 hh1;have hXa : Ext b.all w wg := hX1.mono λ k _ hk => .inl hk;have HD1 := zB hD1; clear hD1
  cases hgb : vC x
  . have Hgb := zB hgb; clear hgb
    go_wp2_with fail
    go_ret
    exact ⟨b, rfl, λ k hk => hk, hXa, .inr ⟨Hgb.out, rfl, HD1.out⟩⟩
  . have Hgb := zB hgb; clear hgb;obtain ⟨y, hy⟩ : ∃ y, vJ x = y := ⟨_, rfl⟩;rw [hy] at HD1 hh1;have Hy := zB hy; clear hy;obtain ⟨-, -, c2, -⟩ := hh1.cells;clear hh1;obtain ⟨D, hown, hsz, hnd, hat, hno⟩ := HD1.out.map.some';have Hown := zB hown; clear hown;have Hat := zB hat; clear hat;have K := Maps.int_keyed mK
    go_wp2_with (refine wpList_range_own _ rfl _ 82 rfl 3 80 K oO asIs b.m y.ks.length D rfl Hown.out ?_; intro w0r hrg hgr hrs; have Hrg := zB hrg; clear hrg)
    simp only [zD];have hDr : wQ w0r b y := HD1.out.keep λ k hk => hgr.block k (HD1.out.lt k hk) (by simp);have hXr : Ext b.all w w0r := hXa.trans (Ext.grown (S := b.all) hgr λ k e _ => (by cases e)) λ _ _ e => e;have hall0 : ∀ i : Int, (decide (i ∈ y.ks) && !Maps.has D (.int .i64 i)) = false := λ i => by
      by_cases hi : i ∈ y.ks
      . have h1 := HD1.out.in' i hi;have h2 := HD1.out.lim;rw [(Hat.out i (WalkArith.wf_i64 (by omega))).2];simp [hi]
      . simp [hi]
    have hlim := HD1.out.lim;clear c2
    go_loopw [] (λ ww => ∃ (left : Lit -> Bool) (cnt : Nat), ww.ranges Tryz.prog 3 asIs b.m wg.heap.size y.ks.length D left cnt /\ wQ ww b (kW y λ i => decide (i ∈ y.ks) && !left (.int .i64 i)) /\ Ext b.all w ww /\ w0r.heap.size <= ww.heap.size)
      (λ ww => ww.rangeLeft b.m wg.heap.size)
    case atStart => exact ⟨_, _, Hrg.out, by rw [someD_none _ _ hall0]; exact hDr, hXr, Nat.le_refl _⟩
    case round =>
      obtain ⟨left, cnt, hrg, hD, hX, hsz1⟩ := hrel;have hle := hrg.left_eq;have Hle := zB hle; clear hle;clear hDr hXr Hrg;have HD := zB hD; clear hD
      go_wp2_with (refine wpList_next_ranges _ rfl _ rfl 3 K asIs (λ i : Int => .int .i64 i) (λ v : Value => v) (λ key kl hk => by obtain ⟨x, rfl, _⟩ := Maps.keyOf_int_inv mK hk; exact ⟨x, rfl⟩) (λ v _ _ => ⟨v, rfl⟩) b.m wg.heap.size y.ks.length D left cnt rfl hrg ?_ ?_)
      . intro hc0 hl0;obtain ⟨es, clock, since, seen, c0, hmp, -⟩ := hrg;have hcl := λ ty => run_clear_map hmp ty;obtain ⟨-, -, c2, -⟩ := HD.out.head.cells;have hdn : (λ i : Int => decide (i ∈ y.ks) && !left (.int .i64 i)) = λ i => decide (i ∈ y.ks) := by funext i; simp [hl0]
        rw [hdn] at HD;have ho : ∀ k, k ≠ b.m -> (setBlock wr b.m (.map #[] clock)).heap[k]? = wr.heap[k]? := λ k hk => heap_setBlock_other hmp _ hk;have hne := HD.out.ne1;have hfin : wQ (setBlock wr b.m (.map #[] clock)) { b with V := λ _ => .slice none 0 0 } (vT y) :=
          { head := by show (setBlock wr b.m (.map #[] clock)).heap[b.d]? = _; rw [ho _ hne.2.2.1]; exact HD.out.head
            durs := by show (setBlock wr b.m (.map #[] clock)).heap[b.g]? = _; rw [ho _ hne.2.2.2.2.1]; exact HD.out.durs
            torns := by show (setBlock wr b.m (.map #[] clock)).heap[b.t]? = _; rw [ho _ hne.2.2.2.2.2]; exact HD.out.torns
            map := cache_empty (heap_setBlock_same hmp _), rows := λ i hi => (by cases hi), none' := λ _ _ => rfl, len := HD.out.len, pos := HD.out.pos, lim := HD.out.lim, in' := λ i hi => (by cases hi), s128 := HD.out.s128, c128 := λ i s hs => (by cases hs), ne1 := hne, ne2 := λ i k e => (by cases e), ne3 := λ i j k _ e => (by cases e) }
        have hXf : Ext b.all w (setBlock wr b.m (.map #[] clock)) := hX.trans ⟨rfl, rfl, rfl, by simp [setBlock], λ k _ hk => ho k λ e => hk (by rw [e]; exact .inr (.inr (.inr (.inl rfl))))⟩ λ _ _ e => e;have HF := zB (zC hfin hXf);clear hfin hXf ho hdn hl0
        go_wp2_with fail
        go_ret
        refine ⟨{ b with V := λ _ => .slice none 0 0 }, rfl, ?_, HF.out.2, .inl ⟨Hgb.out, rfl, by rw [Hy.out]; exact HF.out.1⟩⟩;rintro k (rfl | rfl | rfl | rfl | ⟨i, e⟩)
        . exact .inl rfl
        . exact .inr (.inl rfl)
        . exact .inr (.inr (.inl rfl))
        . exact .inr (.inr (.inr (.inl rfl)))
        . cases e
      . intro i v kl z zp w2 cnt2 hkey hlk hv hat hrg2 hlt hgr2 hsz2 hen;obtain ⟨i', e1, rfl, hwf⟩ := Maps.keyOf_int_inv mK hkey;injection e1 with _ e1;subst e1;have hhas := Maps.has_true_of_atKey hat;have hA := Hat.out i hwf;rw [hhas] at hA;have hik : i ∈ y.ks := of_decide_eq_true hA.2.symm;obtain ⟨n, rfl⟩ := Int.eq_ofNat_of_zero_le (HD1.out.in' i hik).1;have hnl : n < y.dur.length := by have := (HD1.out.in' _ hik).2; omega
        have hvV : v = b.V n := by
          have h1 := hA.1;rw [hat] at h1;unfold asIs at hv;simp only [Option.some.injEq, Prod.mk.injEq] at hv;rw [<- hv.1] at h1;injection h1
        subst hvV;have hD2 : wQ w2 b (kW y λ i => decide (i ∈ y.ks) && !left (.int .i64 i)) := HD.out.keep λ k hk => hgr2.block k (HD.out.lt k hk) (λ e => by injection e with e; have := HD1.out.lt k hk; omega);obtain ⟨hp, hown⟩ := hD2.rows _ hik;obtain ⟨g', c', hV0, -, -, hc', hcm, hcell, -⟩ := xB hown hp;obtain ⟨k1, hk1⟩ : ∃ k1, (y.cache (n : Int)).length = k1 + 1 := ⟨(y.cache (n : Int)).length - 1, by have : 0 < (y.cache (n : Int)).length := hp; omega⟩;obtain ⟨s2, hs2⟩ : ∃ s2, (y.cache (n : Int))[k1]? = some s2 := ⟨_, List.getElem?_eq_getElem (by omega)⟩;have hfl := oG (HD1.out.c128 (n : Int));have hsr2 := kZ (w := w2) (g := g') (i := k1) (l := y.cache (n : Int)) (s := s2) (λ j u hu => by
          rw [hcell j (by have := (List.getElem?_eq_some_iff.1 hu).1; show j < (y.cache (n : Int)).length * 128; omega)]; exact hu) (HD1.out.c128 _) hs2
        have Hsr2 := zB hsr2;have hs2l := HD1.out.c128 _ s2 (List.mem_of_getElem? hs2);have Hs2l := zB hs2l;have hV : b.V (n : Int) = .slice (some ⟨g', 0, none⟩) (k1 + 1) c' := by rw [hV0, <- hk1]; rfl
        have hk9 : k1 <= 9223372036854775806 := by
          have h1 : (y.cache (n : Int)).length <= c' := hc';simp only [maxLen] at hcm;omega
        have hc9 : k1 + 1 <= c' := by
          have h1 : (y.cache (n : Int)).length <= c' := hc';omega
        have hlast : (y.cache (n : Int)).getLast? = some s2 := by rw [List.getLast?_eq_getElem?, hk1, Nat.add_sub_cancel, hs2]
        rw [hV] at hen ⊢;have HSt := zB (settle_any b _ n (by simpa [kW] using hnl) s2 hs2l false w2 hD2);have Hlast := zB hlast;have HD2 := zB hD2;have Hg2 := zB hrg2;clear hlast hD2 hV hV0 hsr2 hs2 hfl hcell hc' hcm hown hk1 hp hA hhas hat hv hs2l hrg2 hrg
        go_wp2_with (refine uD rfl _ 124 5 128 rfl tF wT ⟨g', k1 * 128, none⟩ rfl (u8s s2) (by rw [zH]; exact Hs2l.out) Hsr2.out ?_)
        refine HSt.out.mono ?_;rintro e w3 ⟨⟨vv, rfl⟩, hD3, hX3⟩;have HD3 := zB hD3; clear hD3;have hbl := HD1.out.lt;have hz2 : wg.heap.size < w2.heap.size := by omega
        have hm3 : w3.heap[b.m]? = w2.heap[b.m]? := hX3.block _ (HD2.out.lt _ (.inr (.inr (.inr (.inl rfl))))) λ e => e.elim (Ne.symm HD1.out.ne1.2.2.2.2.1) (Ne.symm HD1.out.ne1.2.2.2.2.2);have hr3 : w3.heap[wg.heap.size]? = w2.heap[wg.heap.size]? := hX3.block _ hz2 λ e => by
          have h1 := hbl b.g (.inr (.inl rfl));have h2 := hbl b.t (.inr (.inr (.inl rfl)));omega
        have hrg3 := ranges_keep Hg2.out hm3 hr3;have hX9 : Ext b.all w w3 := (hX.trans (Ext.grown (S := λ k => k = wg.heap.size) hgr2 λ k e _ => by injection e with e; exact e.symm) (λ k hk e => by
          have := hX1.size;have e : k = wg.heap.size := e;omega)).trans (hX3.mono λ k _ e => e.elim (λ e => .inr (.inl e)) λ e => .inr (.inr (.inl e))) λ _ _ e => e
        have hle3 := hrg3.left_eq;have Hrg3 := zB hrg3;have Hle3 := zB hle3;clear hrg3 hle3 hm3 hr3
        go_wp2_with fail
        refine ⟨⟨_, _, Hrg3.out, ?_, hX9, by have := hX3.size; omega⟩, ?_⟩
        . have := HD3.out
          rwa [someD_step y _ (λ i => decide (i ∈ y.ks) && !(left (.int .i64 i) && !(Lit.int .i64 i).sameKey (.int .i64 n))) n s2 Hlast.out (λ j => by
            by_cases hj : j = (n : Int)
            . subst hj;simp [hik, Lit.sameKey]
            . have := Maps.sameKey_ne (a := Lit.int .i64 j) (b := .int .i64 n) (λ e => hj (by injection e));simp [this, hj])] at this
        . rw [Hle3.out, Hle.out];exact hlt
end Go.Proofs.YtbjofbhhnmehgaaGreatDoor.TT
namespace Go.Proofs.YtbjofbhhnmehgaaGreatDoor.TT
open Go.RowKit Go.RG Go.Hp Go.Proofs.YtbjofbhhnmehgaaGreatDoor
def need (n : Nat) : Nat := if n <= 8192 then max 1 ((n + 103) / 104) else 0
theorem qL (n : Nat) (hn : n <= 1099511627776) (w : World) : Calls Tryz.prog 61 #[.int .i64 n] w λ e w' => e = .returned (.int .i64 (need n)) /\ w = w' := by
 by_cases h : n <= 8192
 . have h1 : ¬ (8192 < (n : Int)) := by omega
   have h0 : ¬ ((n : Int) < 0) := by omega
   have hr : (need n : Int) = max 1 (((n : Int) + 103) / 104) := by unfold need; rw [if_pos h]; omega
   have Hr := zB hr; clear hr;go_enter Tryz.func61, Tryz.ntmps61
   go_wp2_with fail
   . go_ret
     refine ⟨?_, rfl⟩;show Ending.returned (.int .i64 _) = _;rw [Hr.out]
     congr 2
     omega
   . go_ret
     refine ⟨?_, rfl⟩;show Ending.returned (.int .i64 _) = _;rw [Hr.out]
     congr 2
     omega
 . have h1 : 8192 < (n : Int) := by omega
   have h0 : ¬ ((n : Int) < 0) := by omega
   have hr : need n = 0 := by unfold need; rw [if_neg h]
   have Hr := zB hr; clear hr;go_enter Tryz.func61, Tryz.ntmps61
   go_wp2_with fail
   go_ret
   exact ⟨by rw [Hr.out]; rfl, rfl⟩
def rC (bs : List Int) : Bool := bs.all λ b => b == 0
theorem gZ (v : Value) (bs : List Int) (w : World) (hx : Src w v (u8s bs)) (hl : bs.length <= 1099511627776) : Calls Tryz.prog 136 #[v] w λ e w' => e = .returned (.bool (rC bs)) /\ w = w' := by
 obtain ⟨ax, cx, rfl, -⟩ := hx.shape;obtain ⟨n, hn⟩ : ∃ n, bs.length = n := ⟨_, rfl⟩;rw [zH, hn] at hx ⊢;rw [hn] at hl;have Hn := zB hn; clear hn;have Hx := zB hx; clear hx;go_enter Tryz.func136, Tryz.ntmps136
 go_wp2_with fail
 go_loopw [7] (λ vi wr => ∃ i : Nat, vi = .int .i64 i /\ i <= n /\ (∀ b ∈ bs.take i, b = 0) /\ w = wr) (λ vi _ => n - (intOf vi).toNat)
 case atStart => exact ⟨0, rfl, by omega, by simp, rfl⟩
 case round =>
  obtain ⟨i, rfl, hi, ht, rfl⟩ := hrel;have Ht := zB ht; clear ht;by_cases hlt : i < n
  . have hii : (i : Int) < (n : Int) := by omega
    have hlx : i < bs.length := by rw [Hn.out]; exact hlt
    rcases Hx.out with ⟨g, o, c', e1, -, hr⟩ | ⟨e1, e2⟩
    . injection e1 with e1 _ e3;subst e1 e3;have z0 := hr i _ (pO (List.getElem?_eq_getElem hlx));obtain ⟨a, ha⟩ : ∃ a, bs[i] = a := ⟨_, rfl⟩;rw [ha] at z0;have Ha := zB ha; clear ha hr;by_cases h0 : a = 0
      . subst h0
        go_wp2_with fail
        refine ⟨⟨i + 1, by simp, by omega, λ b hb => ?_, by first | rfl | trivial⟩, ?_⟩
        . rw [List.take_add_one, List.getElem?_eq_getElem hlx, Ha.out] at hb;rcases List.mem_append.1 hb with hb | hb
          . exact Ht.out b hb
          . simpa using hb
        . show n - (((i : Int) + 1).toNat) < n - ((i : Int).toNat);omega
      . have h0' : (a != 0) = true := by simp [h0]
        have hc : rC bs = false := by
         unfold rC;rw [List.all_eq_false];exact ⟨a, by rw [<- Ha.out]; exact List.getElem_mem hlx, by simp [h0]⟩
        have Hc := zB hc; clear hc
        go_wp2_with fail
        go_ret
        rw [Hc.out];exact ⟨rfl, rfl⟩
    . have := congrArg List.length e2;rw [zH, List.length_nil] at this;omega
  . obtain rfl : i = n := by omega
    have hc : rC bs = true := by
     unfold rC;rw [List.all_eq_true];intro b hb;rw [Ht.out b (by rw [List.take_of_length_le (by rw [Hn.out]; exact Nat.le_refl _)]; exact hb)];rfl
    have Hc := zB hc; clear hc
    go_wp2_with fail
    go_ret
    rw [Hc.out];exact ⟨rfl, rfl⟩
def vH (b : Bks) (first size : Int) : Value := .agg #[.pointer (some ⟨b.d, 0, none⟩), .int .i64 first, .int .i64 size]
theorem fits_yes (b : Bks) (x : Dsk) (first size : Nat) (w : World) (h : wQ w b x) (h1 : 2 < size) (h2 : first + size <= x.dur.length) : Calls Tryz.prog 111 #[vH b first size] w λ e w' => e = .returned (.bool true) /\ Below w.heap.size w w' := by
 have hlim := h.lim;have hb := zQ w (.cells #[.pointer (some ⟨b.d, 0, none⟩), .int .i64 first, .int .i64 size] 126);have HS := zB (gB b x _ (h.below hb).head);have q1 : (2 : Int) < (size : Int) := by omega
 have q2 : (size : Int) <= (x.dur.length : Int) := by omega
 have q3 : (0 : Int) <= (first : Int) := by omega
 have q4 : (first : Int) <= (x.dur.length : Int) - (size : Int) := by omega
 clear h;unfold vH;go_enter Tryz.func111, Tryz.ntmps111
 go_wp2_with fail
 refine HS.out.mono ?_;rintro e w' ⟨rfl, rfl⟩
 go_wp2_with fail
 go_ret
 exact ⟨rfl, hb⟩
def gI (x : Dsk) : Int := if x.off then 5 else 0
theorem ready_any (b : Bks) (x : Dsk) (first size : Nat) (w : World) (h : wQ w b x) (h1 : 2 < size) (h2 : first + size <= x.dur.length) : Calls Tryz.prog 76 #[vH b first size] w λ e w' => e = .returned (.int .i64 (gI x)) /\ Below w.heap.size w w' := by
 have hb := zQ w (.cells #[.pointer (some ⟨b.d, 0, none⟩), .int .i64 first, .int .i64 size] 126);have g0 := World.alloc_heap_new w (.cells #[.pointer (some ⟨b.d, 0, none⟩), .int .i64 first, .int .i64 size] 126);have HF := zB (fits_yes b x first size _ (h.below hb) h1 h2);have H := zB h; clear h;have hr : ∀ o : Bool, x.off = o -> gI x = if o then 5 else 0 := λ o h => by unfold gI; rw [h]
 have Hr := zB hr; clear hr;unfold vH at HF ⊢;go_enter Tryz.func76, Tryz.ntmps76
 go_wp2_with fail
 generalize w.alloc (.cells #[.pointer (some ⟨b.d, 0, none⟩), .int .i64 first, .int .i64 size] 126) = w1 at hb g0 HF ⊢;refine HF.out.mono ?_;rintro e w2 ⟨rfl, hb2⟩;have hB2 := hb.trans (hb2.mono hb.size);have g2 := zK hb2 g0;have c0 : w2.cell? ⟨w.heap.size, 0, none⟩ = some (.pointer (some ⟨b.d, 0, none⟩)) := by simp [World.cell?, g2]
 have HD := zB (kK b x w2 (H.out.below hB2).head);clear g0 g2
 go_wp2_with fail
 refine HD.out.mono ?_;rintro e w' ⟨rfl, rfl⟩
 cases ho : x.off
 . have Ho := zB ho; clear ho
   go_wp2_with fail
   go_ret
   exact ⟨by rw [Hr.out _ Ho.out]; rfl, hB2⟩
 . have Ho := zB ho; clear ho
   go_wp2_with fail
   go_ret
   exact ⟨by rw [Hr.out _ Ho.out]; rfl, hB2⟩
def wY (first size : Nat) (n : Nat) : Nat := first + 2 + n % (size - 2)
theorem ring_any (d : Option Addr) (first size n : Nat) (w : World) (h1 : 2 < size) (h2 : first <= 65536) (h3 : size <= 65536) (hn : n < 18446744073709551616) : Calls Tryz.prog 85 #[.agg #[.pointer d, .int .i64 first, .int .i64 size], .int .u64 n] w λ e w' => e = .returned (.int .i64 (wY first size n)) /\ Below w.heap.size w w' := by
 obtain ⟨k, rfl⟩ : ∃ k, size = k + 2 := ⟨size - 2, by omega⟩;have hk : (((k + 2 : Nat) : Int) - 2) = (k : Int) := by omega
 have hk0 : (0 : Int) < (k : Int) := by omega
 have hr : (wY first (k + 2) n : Int) = (first : Int) + 2 + (n : Int) % (k : Int) := by unfold wY; rw [Nat.add_sub_cancel]; push_cast; rfl
 have Hr := zB hr; clear hr;have hm0 : (0 : Int) <= (n : Int) % (k : Int) := Int.emod_nonneg _ (by omega);have hm1 : (n : Int) % (k : Int) < (k : Int) := Int.emod_lt_of_pos _ (by omega);have q2 := IntWalk.i64_in ((n : Int) % (k : Int)) (by omega);have q3 := IntWalk.i64_in ((first : Int) + 2 + (n : Int) % (k : Int)) (by omega);have hb := zQ w (.cells #[.pointer d, .int .i64 first, .int .i64 ((k : Int) + 2)] 126);have g0 := World.alloc_heap_new w (.cells #[.pointer d, .int .i64 first, .int .i64 ((k : Int) + 2)] 126);go_enter Tryz.func85, Tryz.ntmps85
 go_wp2_with fail
 generalize w.alloc (.cells #[.pointer d, .int .i64 first, .int .i64 ((k : Int) + 2)] 126) = w1 at hb g0 ⊢;have c1 : w1.cell? ⟨w.heap.size, 1, none⟩ = some (.int .i64 first) := by simp [World.cell?, g0]
 have c2 : w1.cell? ⟨w.heap.size, 2, none⟩ = some (.int .i64 ((k : Int) + 2)) := by simp [World.cell?, g0]
 have q1 := IntWalk.i64_in ((first : Int) + 2) (by omega);refine zY (λ _ => none) fol (by kernel_rfl) (λ W hW hh => ?_);clear hh;have r1 : ∀ w2, Below W.heap.size W w2 -> w2.cell? ⟨w.heap.size, 1, none⟩ = some (.int .i64 first) := λ w2 h => zG (zF hW h) c1;have r2 : ∀ w2, Below W.heap.size W w2 -> w2.cell? ⟨w.heap.size, 2, none⟩ = some (.int .i64 ((k : Int) + 2)) := λ w2 h => zG (zF hW h) c2
 repeat ((first | refine lxM ?_ | refine lxF ?_ | refine zM rfl ?_); simp only [zD])
 refine zZ ?_;clear r1 r2
 go_wp2_with fail
 go_ret
 exact ⟨by rw [Hr.out]; rfl, hb.trans (hW.mono hb.size)⟩
def zT (v : Int) : Nat -> List Int
 | 0 => []
 | n + 1 => zT v n ++ [v / 256 ^ n % 256]
theorem yI (v : Int) (n : Nat) : (zT v n).length = n := by induction n with
 | zero => rfl
 | succ n ih => simp [zT, ih]
def layF (L : List Value) (at' : Nat) (D : List Int) : List Value := L.take at' ++ u8s D ++ L.drop (at' + D.length)
theorem layF_length {L : List Value} {at' : Nat} {D : List Int} (h : at' + D.length <= L.length) : (layF L at' D).length = L.length := by
 unfold layF;simp [u8s];omega
theorem layF_step {L : List Value} {at' : Nat} {D : List Int} (b : Int) (h : at' + D.length < L.length) : (layF L at' D).set (at' + D.length) (.int .u8 b) = layF L at' (D ++ [b]) := by
 have e1 : (L.take at' ++ u8s D).length = at' + D.length := by simp [u8s]; omega
 have e2 : L.drop (at' + D.length) = L[at' + D.length] :: L.drop (at' + D.length + 1) := List.drop_eq_getElem_cons h;unfold layF;rw [List.set_append_right _ _ (by rw [e1]; exact Nat.le_refl _), e1, Nat.sub_self, e2, List.set_cons_zero, xI, List.length_append, <- Nat.add_assoc];simp [u8s]
theorem iH (i : Nat) : (2 : Int) ^ (8 * i) = 256 ^ i := by rw [Int.pow_mul]; rfl
theorem put_any (g c at' n : Nat) (v : Int) (hv0 : 0 <= v) (hv : v < 18446744073709551616) (L : List Value) (hl : at' + n <= L.length) (hL : L.length <= 1024) (hn : n <= 8) (hc : L.length <= c) (w : World) (h : Row w g 5 L) :
 Calls Tryz.prog 117 #[.agg #[.int .i64 at', .int .i64 n], .slice (some ⟨g, 0, none⟩) L.length c, .int .u64 v] w λ e w' => (∃ t, e = .returned t) /\ Row w' g 5 (layF L at' (zT v n)) /\ Ext (· = g) w w' := by
 have hg := h.lt;have hb := zQ w (.cells #[.int .i64 at', .int .i64 n] 175);have g0 := World.alloc_heap_new w (.cells #[.int .i64 at', .int .i64 n] 175);have h0 := h.below hb;obtain ⟨m, hm⟩ : ∃ m, L.length = m := ⟨_, rfl⟩;rw [hm] at hl hL hc ⊢;have Hm := zB hm; clear hm h;go_enter Tryz.func117, Tryz.ntmps117
 go_wp2_with fail
 generalize w.alloc (.cells #[.int .i64 at', .int .i64 n] 175) = w1 at hb g0 h0 ⊢;have Hg0 := zB g0; clear g0
 go_loopw [9] (λ vi wr => ∃ i : Nat, vi = .int .i64 i /\ i <= n /\ Row wr g 5 (layF L at' (zT v i)) /\ wr.heap[w.heap.size]? = some (.cells #[.int .i64 at', .int .i64 n] 175 (0, 0)) /\ Ext (· = g) w wr) (λ vi _ => n - (intOf vi).toNat)
 case atStart => exact ⟨0, rfl, by omega, by simpa [layF, zT, u8s] using h0, Hg0.out, Ext.of_below hb⟩
 case round =>
  obtain ⟨i, rfl, hi, hr, hf, hX⟩ := hrel;clear h0;by_cases hlt : i < n
  . have hii : (i : Int) < (n : Int) := by omega
    have c0 : wr.cell? ⟨w.heap.size, 0, none⟩ = some (.int .i64 at') := by simp [World.cell?, hf]
    have Hr := zB hr; clear hr;have Hf := zB hf; clear hf
    go_wp2_with fail
    refine zR 11 (λ _ => none) fol (by kernel_rfl) (λ W hW hh => ?_);clear hh;have r1 : ∀ w2, Below W.heap.size W w2 -> w2.cell? ⟨w.heap.size, 0, none⟩ = some (.int .i64 at') := λ w2 h => zG (zF hW h) c0;simp only [fT]
    repeat ((first | refine lxM ?_ | refine lxF ?_ | refine zM rfl ?_); simp only [zD])
    refine zZ ?_;clear r1;have hlen : (layF L at' (zT v i)).length = m := by rw [layF_length (by rw [yI, Hm.out]; omega), Hm.out]
    have hrW := Hr.out.below hW;obtain ⟨u, hu⟩ : ∃ u, (layF L at' (zT v i))[at' + i]? = some u := ⟨_, List.getElem?_eq_getElem (by rw [hlen]; omega)⟩;have c1 : W.cell? ⟨g, at' + i, none⟩ = some u := by rw [hrW.cell, hu]
    have f1 : W.frozen? ⟨g, at' + i, none⟩ = false := hrW.frozen _;have HrW := zB hrW; clear hrW;have Hlen := zB hlen; clear hlen hu
    go_wp2_with fail
    refine ⟨⟨i + 1, by simp, by omega, ?_, ?_, ?_⟩, ?_⟩
    . have := row_set HrW.out (i := at' + i) (.int .u8 (v / 2 ^ (8 * i) % 256));rw [iH] at this ⊢;have e := layF_step (L := L) (at' := at') (D := zT v i) (v / 256 ^ i % 256) (by rw [yI, Hm.out]; omega);rw [yI] at e;rw [e] at this;exact this
    . rw [Below.heap_setCell _ _ _ _ (by intro h; subst h; exact Nat.lt_irrefl _ hg)];exact zK hW Hf.out
    . exact (hX.trans (Ext.of_below (S := (· = g)) hW) (λ _ _ h => h)).trans (Ext.setCell (S := (· = g)) rfl _) (λ _ _ h => h)
    . show n - (((i : Int) + 1).toNat) < n - ((i : Int).toNat);omega
  . obtain rfl : i = n := by omega
    have Hr := zB hr; clear hr;have Hf := zB hf; clear hf
    go_wp2_with fail
    exact ⟨rfl, _, results_none rfl _ _ _, ⟨_, rfl⟩, Hr.out, hX⟩
def mU : List Int -> Int
 | [] => 0
 | b :: r => b + 256 * mU r
def zO (bs : List Int) : Prop := ∀ b ∈ bs, 0 <= b /\ b < 256
theorem jS (a b : List Int) : mU (a ++ b) = mU a + 256 ^ a.length * mU b := by induction a with
 | nil => simp [mU]
 | cons x r ih => simp only [List.cons_append, mU, ih, List.length_cons, Int.pow_succ]; rw [Int.mul_add, Int.add_assoc, <- Int.mul_assoc, Int.mul_comm 256 (256 ^ r.length)]
theorem oX {a : List Int} (h : zO a) : 0 <= mU a /\ mU a < 256 ^ a.length := by induction a with
 | nil => exact ⟨Int.le_refl _, by decide⟩
 | cons x r ih =>
  have h1 := ih (λ b hb => h b (List.mem_cons_of_mem _ hb));have h2 := h x (List.mem_cons_self ..);simp only [mU, List.length_cons, Int.pow_succ];omega
theorem zO.take {a : List Int} (h : zO a) (n : Nat) : zO (a.take n) := λ b hb => h b (List.mem_of_mem_take hb)
theorem zO.drop {a : List Int} (h : zO a) (n : Nat) : zO (a.drop n) := λ b hb => h b (List.mem_of_mem_drop hb)
theorem zO.append {a b : List Int} (h : zO a) (k : zO b) : zO (a ++ b) := λ x hx => (List.mem_append.1 hx).elim (h x) (k x)
def oH (bs : List Int) (at' n : Nat) : List Int := (bs.drop at').take n
def getF (bs : List Int) (at' n : Nat) : Int := mU (oH bs at' n)
theorem pow256 : ∀ i : Nat, i <= 7 -> (256 : Int) ^ i * 256 <= 18446744073709551616 := by decide
theorem getF_step {bs : List Int} {at' i : Nat} {b : Int} (hb : zO bs) (h : bs[at' + i]? = some b) (hi : i < 8) :
 bits .or .u64 (getF bs at' i) (IntKind.u64.wrap (b * 2 ^ (8 * i))) = getF bs at' (i + 1) := by
 have hlt : at' + i < bs.length := by
  rcases Nat.lt_or_ge (at' + i) bs.length with h1 | h1
  . exact h1
  . rw [List.getElem?_eq_none h1] at h; cases h
 have e1 : (oH bs at' i).length = i := by simp [oH]; omega
 have e2 : oH bs at' (i + 1) = oH bs at' i ++ [b] := by
  unfold oH;rw [List.take_add_one]
  congr 1
  rw [List.getElem?_drop, h];rfl
 have e3 : getF bs at' (i + 1) = getF bs at' i + 256 ^ i * b := by
  unfold getF;rw [e2, jS, e1];simp [mU]
 have hB := oX ((hb.drop at').take i);rw [show (List.take i (List.drop at' bs)) = oH bs at' i from rfl, e1] at hB;have hb1 := hb b (List.mem_of_getElem? h);have hp := pow256 i (by omega);have hp0 : (0 : Int) < 256 ^ i := Int.pow_pos (by decide);have hm1 : (256 : Int) ^ i * b <= 256 ^ i * 255 := Int.mul_le_mul_of_nonneg_left (by omega) (by omega);have hm0 : (0 : Int) <= 256 ^ i * b := Int.mul_nonneg (by omega) hb1.1;rw [e3, iH, Int.mul_comm b];rw [wraps_u64 _ hm0 (by omega)];refine bits_join_low .u64 64 (by decide) wraps_u64 (8 * i) _ _ hB.1 ?_ ?_ hm0 ?_ ?_
 . rw [iH]; exact hB.2
 . have := hB.2;unfold getF;omega
 . rw [iH]; exact Int.mul_emod_right _ _
 . omega
theorem get_any (at' n : Nat) (v : Value) (bs : List Int) (hb : zO bs) (hl : at' + n <= bs.length) (hL : bs.length <= 1024) (hn : n <= 8) (w : World) (h : Src w v (u8s bs)) :
 Calls Tryz.prog 137 #[.agg #[.int .i64 at', .int .i64 n], v] w λ e w' => e = .returned (.int .u64 (getF bs at' n)) /\ Below w.heap.size w w' := by
 have hB0 := zQ w (.cells #[.int .i64 at', .int .i64 n] 175);have g0 := World.alloc_heap_new w (.cells #[.int .i64 at', .int .i64 n] 175);have h0 := h.below hB0;obtain ⟨ax, cx, rfl, -⟩ := h.shape;obtain ⟨m, hm⟩ : ∃ m, bs.length = m := ⟨_, rfl⟩;rw [zH, hm] at h0 h ⊢;rw [hm] at hl hL;have Hm := zB hm; clear hm h;have Hb := zB hb; clear hb;go_enter Tryz.func137, Tryz.ntmps137
 go_wp2_with fail
 generalize w.alloc (.cells #[.int .i64 at', .int .i64 n] 175) = w1 at hB0 g0 h0 ⊢;have c0 : w1.cell? ⟨w.heap.size, 0, none⟩ = some (.int .i64 at') := by simp [World.cell?, g0]
 have Hx := zB h0; clear g0 h0
 go_loopw [4, 8] (λ vv vi wr => ∃ i : Nat, vi = .int .i64 i /\ i <= n /\ vv = .int .u64 (getF bs at' i) /\ w1 = wr) (λ _ vi _ => n - (intOf vi).toNat)
 case atStart => exact ⟨0, rfl, by omega, rfl, rfl⟩
 case round =>
  obtain ⟨i, rfl, hi, rfl, rfl⟩ := hrel;by_cases hlt : i < n
  . have hii : (i : Int) < (n : Int) := by omega
    have hlx : at' + i < bs.length := by rw [Hm.out]; omega
    have hm' : at' + i < m := by omega
    rcases Hx.out with ⟨g, o, c', e1, -, hr⟩ | ⟨e1, e2⟩
    . injection e1 with e1 _ e3;subst e1 e3;have z0 := hr (at' + i) _ (pO (List.getElem?_eq_getElem hlx));obtain ⟨b, hb⟩ : ∃ b, bs[at' + i] = b := ⟨_, rfl⟩;rw [hb] at z0;have hst := getF_step (at' := at') (i := i) (b := b) Hb.out (by rw [List.getElem?_eq_getElem hlx, hb]) (by omega);have Hst := zB hst;have hb' := hb;clear hr hb hst;have hb2 := Hb.out bs[at' + i] (List.getElem_mem hlx);have hw := wraps_u64 bs[at' + i] hb2.1 (by omega);rw [hb'] at hw;have Hw := zB hw;clear hb2 hw hb'
      go_wp2_with fail
      rw [Hw.out, Hst.out];refine ⟨⟨i + 1, by simp, by omega, rfl, trivial⟩, ?_⟩;show n - (((i : Int) + 1).toNat) < n - ((i : Int).toNat);omega
    . have := congrArg List.length e2;rw [zH, List.length_nil] at this;omega
  . obtain rfl : i = n := by omega
    go_wp2_with fail
    go_ret
    exact ⟨rfl, hB0⟩
end Go.Proofs.YtbjofbhhnmehgaaGreatDoor.TT
