/-
  The document's index: row: some pages in the place of some others.
-/
import Derived.Test.YtagcohpghgnalaaCGR1
set_option linter.unusedSimpArgs false
set_option linter.unusedVariables false
namespace Go.Proofs.Ytagcohpghgnalaa.RF
open Go.RowKit Go.RG Go.Hp Go.Pg Go.Proofs.Ytagcohpghgnalaa


theorem und_rows : Try.prog.underlying 133 = some (.slice 34) := by kernel_rfl
theorem info_page : (Try.prog.info? 34).map (fun i => (i.zero, i.size, i.bytes)) = some (some (.slice none 0 0), 1, 24) := by kernel_rfl

section
variable {P : Program}
/-- append of nothing at all -/
theorem wpList_append_none {w : World} {ops : Array Oper} {rest : List Oper} {o : Oper} {a : Act} {Q : Exit → Act → World → Prop} (hgd : o.guard = none) (s x : Operand) (t : TypeId)
    (ho : o.op = .call { callee := .builtin .append, args := #[s, x], argTypes := #[t, t] })
    (e : TypeId) (i : TypeInfo) (ht : P.underlying t = some (.slice e)) (hi : P.info? e = some i)
    (p : Option Addr) (n cap c : Nat) (hs : a.eval s = .slice p n cap) (hx : a.eval x = .slice none 0 c) (hn : n ≤ cap)
    (h : wpList P ops Q rest (a.put o.dst (.slice p n cap)) w) : wpList P ops Q (o :: rest) a w := by
  refine wpList_value hgd (exec_append s x t t ho (v := .slice p n cap) (w' := w) (by
    rw [hs, hx]
    cases p <;> simp [Builtin.append_, run_underlying ht, sizeOf, typeInfo, hi, Builtin.lenOf, Builtin.firstCells, loadCells, loadCellsFrom, storeCells, hn])) h
end

theorem take_succ_val {l : List Value} {i : Nat} (h : i < l.length) : l.take (i + 1) = l.take i ++ [val l i] := by
  rw [List.take_add_one]; simp [val, h]
theorem drop_take_succ {l : List Value} {j k : Nat} (hjk : j ≤ k) (h : k < l.length) : (l.take (k + 1)).drop j = (l.take k).drop j ++ [val l k] := by
  rw [take_succ_val h, List.drop_append_of_le_length (by rw [List.length_take]; omega)]

/-- the pages that are put in -/
def NewsAt (w : World) (f : Value) (fs : List Value) : Prop :=
  (f = .slice none 0 0 ∧ fs = []) ∨ ∃ gf cf, f = .slice (some ⟨gf, 0, none⟩) fs.length cf ∧ ∀ (j : Nat) (u : Value), fs[j]? = some u → w.cell? ((⟨gf, 0, none⟩ : Addr).add j) = some u
theorem NewsAt.below {w w' : World} {f : Value} {fs : List Value} (h : NewsAt w f fs) (hb : Below w.heap.size w w') : NewsAt w' f fs := by
  rcases h with h | ⟨gf, cf, h1, h2⟩
  · exact .inl h
  · exact .inr ⟨gf, cf, h1, fun j u hu => below_cell hb (h2 j u hu)⟩

set_option maxHeartbeats 1000000 in
set_option maxRecDepth 100000 in
theorem row_ref (B : Nat) (vr f : Value) (n i j : Nat) (pvs fs : List Value) (hij : i ≤ j) (hj : j ≤ n) (hn : n + fs.length ≤ 274877906944) (hsl : ∀ q, q < n → ∃ a m c, val pvs q = .slice a m c)
    (hfs : ∀ u ∈ fs, u.oneCell' = true) (w : World) (hr : w.ownsRow B 34 1 vr n pvs) (hf : NewsAt w f fs) :
    Calls Try.prog 110 #[vr, .int .i64 i, .int .i64 j, f] w fun e w' => ∃ v, e = .returned v ∧ w'.ownsRow w.heap.size 34 1 v (n - (j - i) + fs.length) (pvs.take i ++ (fs ++ pvs.drop j)) ∧ Below w.heap.size w w' := by
  have hpl : pvs.length = n := by have := owns_length hr; omega
  obtain ⟨ar, cr, rfl, hcr, hcm⟩ := owns_shape hr
  have hcell : ∀ q, q < n → ∃ g, ar = some ⟨g, 0, none⟩ ∧ g < w.heap.size ∧ w.cell? ⟨g, q, none⟩ = some (val pvs q) := fun q hq => by
    obtain ⟨g, c, e1, _, hg, _, _, hc, _⟩ := owns_parts hr (by omega)
    injection e1 with e1 _ _
    exact ⟨g, e1, hg, by rw [hc q (by omega)]; simp [val, show q < pvs.length by omega]⟩
  have Hc := Lib.hid (And.intro hcell hsl); clear hcell hsl hr
  have Hf := Lib.hid (And.intro hf hfs); clear hf hfs
  obtain ⟨af, nf, cf, rfl⟩ : ∃ a m c, f = .slice a m c := by
    rcases Hf.out.1 with h | ⟨gf, cf, h, _⟩
    · exact ⟨_, _, _, h.1⟩
    · exact ⟨_, _, _, h⟩
  obtain ⟨i0, hi, hz0, hz1, hz2⟩ := info_parts info_page
  go_enter Try.func110, Try.ntmps110
  go_wp2_with fail
  go_loopw [9, 10] (fun vl vi wr => ∃ (k L : Nat) (acc : List Value) (a : Option Addr) (c : Nat), vi = .int .i64 k ∧ vl = .slice a L c ∧ k ≤ i ∧ acc = pvs.take k ∧ L ≤ k ∧ wr.ownsRow w.heap.size 34 1 vl L acc ∧ Below w.heap.size w wr)
    (fun _ vi _ => i - (intOf vi).toNat)
  case atStart => exact ⟨0, 0, [], none, 0, rfl, rfl, by omega, by simp, by simp, World.ownsRow_nil _ _ 34 1, Below.refl _ _⟩
  case round =>
    obtain ⟨k, L, acc, a, c, rfl, rfl, hk, hgo, hal, hown, hB⟩ := hrel
    have Hown := Lib.hid hown; clear hown
    have Hgo := Lib.hid hgo; clear hgo
    by_cases hlt : k < i
    · have hii : (k : Int) < (i : Int) := by omega
      obtain ⟨g, rfl, hgl, r0⟩ := Hc.out.1 k (by omega)
      obtain ⟨ap, np, cp, hv⟩ := Hc.out.2 k (by omega)
      rw [hv] at r0
      have r0 := below_cell hB r0
      have hkn : (k : Int) < (n : Int) := by omega
      have hsrc : ∀ (j : Nat) (u : Value), ([.slice ap np cp] : List Value)[j]? = some u → (wr.alloc (.cells #[.slice ap np cp] 34)).cell? ((⟨wr.heap.size, 0, none⟩ : Addr).add j) = some u := fun j u h => by
        have hr : Row (wr.alloc (.cells #[.slice ap np cp] 34)) wr.heap.size 34 [.slice ap np cp] := row_new wr [.slice ap np cp] 34
        rw [Addr.add_lit, Nat.zero_add, hr.cell]
        exact h
      have Hsrc := Lib.hid hsrc; clear hsrc
      have Hown1 := Lib.hid (owns_below Hown.out (below_box wr (.cells #[.slice ap np cp] 34)))
      have q1 : L + 1 ≤ maxLen := by unfold maxLen; omega
      have q2 : (L + 1) * 24 ≤ 140737488355328 := by omega
      have q3 : w.heap.size ≤ (wr.alloc (.cells #[.slice ap np cp] 34)).heap.size := by have := hB.size; simp; omega
      have q4 : ∀ u ∈ ([.slice ap np cp] : List Value), u.oneCell' = true := fun u hu => by obtain rfl := List.mem_singleton.1 hu; rfl
      have Q4 := Lib.hid q4; clear q4
      go_wp2_with (at_builtin; go_loud (refine wpList_append_own _ rfl _ _ 133 rfl w.heap.size 34 i0 (.slice none 0 0) 1 24 und_rows hi hz0 hz1 hz2 rfl (by decide) _ _ _ rfl Hown1.out ⟨wr.heap.size, 0, none⟩ 1 1 [.slice ap np cp] rfl rfl Hsrc.out Q4.out q1 q2 q3 ?_; intro v' w1 hown' hgrow hnil; clear hnil; have hb1 := (below_box wr (.cells #[.slice ap np cp] 34)).mono hB.size; have Hbg := Lib.hid (hb1.grown hgrow q3 (fun k hk => (Hown1.out.lt k hk).1)); clear hb1 hgrow q1 q2 q3 Hown1 Hsrc Q4; obtain ⟨a2, cap3, rfl, hx1, hx2⟩ := owns_shape hown'; have Hown' := Lib.hid hown'; clear hown'))
      refine ⟨⟨k + 1, L + 1, acc ++ [.slice ap np cp], a2, cap3, by simp, rfl, by omega, by rw [take_succ_val (by omega), ← Hgo.out, hv], by omega, Hown'.out, hB.trans Hbg.out⟩, ?_⟩
      show i - (((k : Int) + 1).toNat) < i - ((k : Int).toNat)
      omega
    · obtain rfl : k = i := by omega
      have hii : ¬ (k : Int) < (k : Int) := by omega
      have hle : L + fs.length ≤ n + fs.length := by omega
      rcases Hf.out.1 with ⟨hf1, hf2⟩ | ⟨gf, cf2, hf1, hf2⟩
      · injection hf1 with e1 e2 e3
        subst e1 e2 e3 hf2
        have Hown' := Lib.hid Hown.out
        have hac : L ≤ c := by obtain ⟨_, _, e, h, _⟩ := owns_shape Hown.out; injection e with _ _ e; omega
        go_wp2_with (at_builtin; go_loud (refine wpList_append_none rfl _ _ 133 rfl 34 i0 und_rows hi _ _ _ _ rfl rfl hac ?_))
        go_loopw [9, 11] (fun vl vi wr => ∃ (k2 L : Nat) (acc : List Value) (a : Option Addr) (c : Nat), vi = .int .i64 k2 ∧ vl = .slice a L c ∧ j ≤ k2 ∧ k2 ≤ n ∧ acc = pvs.take k ++ (([] : List Value) ++ (pvs.take k2).drop j) ∧ L ≤ k2 + (([] : List Value)).length ∧ wr.ownsRow w.heap.size 34 1 vl L acc ∧ Below w.heap.size w wr)
          (fun _ vi _ => n - (intOf vi).toNat)
        case atStart => exact ⟨j, _, _, _, _, rfl, rfl, by omega, hj, by rw [List.drop_eq_nil_of_le (by rw [List.length_take]; omega), List.append_nil, ← Hgo.out] <;> simp, by simp; omega, Hown'.out, hB⟩
        case round =>
          clear Hown Hown'
          obtain ⟨k2, L, acc2, a, c, rfl, rfl, hk2, hk3, hgo2, hal, hown, hB⟩ := hrel
          have Hown := Lib.hid hown; clear hown
          have Hgo2 := Lib.hid hgo2; clear hgo2
          by_cases hlt : k2 < n
          · have hii : (k2 : Int) < (n : Int) := by omega
            obtain ⟨g, rfl, hgl, r0⟩ := Hc.out.1 k2 (by omega)
            obtain ⟨ap, np, cp, hv⟩ := Hc.out.2 k2 (by omega)
            rw [hv] at r0
            have r0 := below_cell hB r0
            have hal' : L + 1 ≤ n + (([] : List Value)).length := by omega
            have hsrc : ∀ (j : Nat) (u : Value), ([.slice ap np cp] : List Value)[j]? = some u → (wr.alloc (.cells #[.slice ap np cp] 34)).cell? ((⟨wr.heap.size, 0, none⟩ : Addr).add j) = some u := fun j u h => by
              have hr : Row (wr.alloc (.cells #[.slice ap np cp] 34)) wr.heap.size 34 [.slice ap np cp] := row_new wr [.slice ap np cp] 34
              rw [Addr.add_lit, Nat.zero_add, hr.cell]
              exact h
            have Hsrc := Lib.hid hsrc; clear hsrc
            have Hown1 := Lib.hid (owns_below Hown.out (below_box wr (.cells #[.slice ap np cp] 34)))
            have q1 : L + 1 ≤ maxLen := by unfold maxLen; omega
            have q2 : (L + 1) * 24 ≤ 140737488355328 := by omega
            have q3 : w.heap.size ≤ (wr.alloc (.cells #[.slice ap np cp] 34)).heap.size := by have := hB.size; simp; omega
            have q4 : ∀ u ∈ ([.slice ap np cp] : List Value), u.oneCell' = true := fun u hu => by obtain rfl := List.mem_singleton.1 hu; rfl
            have Q4 := Lib.hid q4; clear q4
            go_wp2_with (at_builtin; go_loud (refine wpList_append_own _ rfl _ _ 133 rfl w.heap.size 34 i0 (.slice none 0 0) 1 24 und_rows hi hz0 hz1 hz2 rfl (by decide) _ _ _ rfl Hown1.out ⟨wr.heap.size, 0, none⟩ 1 1 [.slice ap np cp] rfl rfl Hsrc.out Q4.out q1 q2 q3 ?_; intro v' w1 hown' hgrow hnil; clear hnil; have hb1 := (below_box wr (.cells #[.slice ap np cp] 34)).mono hB.size; have Hbg := Lib.hid (hb1.grown hgrow q3 (fun k hk => (Hown1.out.lt k hk).1)); clear hb1 hgrow q1 q2 q3 Hown1 Hsrc Q4; obtain ⟨a2, cap3, rfl, hx1, hx2⟩ := owns_shape hown'; have Hown' := Lib.hid hown'; clear hown'))
            refine ⟨⟨k2 + 1, L + 1, acc2 ++ [.slice ap np cp], a2, cap3, by simp, rfl, by omega, by omega, ?_, by omega, Hown'.out, hB.trans Hbg.out⟩, ?_⟩
            · rw [drop_take_succ hk2 (by omega), Hgo2.out, hv]; simp only [List.append_assoc]
            · show n - (((k2 : Int) + 1).toNat) < n - ((k2 : Int).toNat)
              omega
          · obtain rfl : k2 = n := by omega
            have hgo2 := Hgo2.out
            rw [List.take_of_length_le (show pvs.length ≤ k2 by omega)] at hgo2
            have hlen := owns_length Hown.out
            rw [hgo2] at hlen
            simp only [List.length_append, List.length_take, List.length_drop] at hlen
            have hL : L = k2 - (j - k) + (([] : List Value)).length := by omega
            subst hgo2
            have HL := Lib.hid hL; clear hL hlen
            have Hown := Lib.hid Hown.out
            go_wp2_with fail
            go_ret
            exact ⟨_, rfl, by rw [← HL.out]; exact Hown.out, hB⟩
      · injection hf1 with e1 e2 e3
        subst e1 e2 e3
        have q1 : L + fs.length ≤ maxLen := by unfold maxLen; omega
        have q2 : (L + fs.length) * 24 ≤ 140737488355328 := by omega
        have q3 : w.heap.size ≤ wr.heap.size := hB.size
        have Hsrc := Lib.hid (fun j u hu => below_cell hB (hf2 j u hu))
        go_wp2_with (at_builtin; go_loud (refine wpList_append_own _ rfl _ _ 133 rfl w.heap.size 34 i0 (.slice none 0 0) 1 24 und_rows hi hz0 hz1 hz2 rfl (by decide) _ _ _ rfl Hown.out ⟨gf, 0, none⟩ _ _ fs rfl (by simp) Hsrc.out Hf.out.2 q1 q2 q3 ?_; intro v' w1 hown' hgrow hnil; clear hnil; have Hbg := Lib.hid (hB.grown hgrow q3 (fun k hk => (Hown.out.lt k hk).1)); clear hgrow q1 q2 q3 Hsrc; obtain ⟨a2, cap3, rfl, hx1, hx2⟩ := owns_shape hown'; have Hown' := Lib.hid hown'; clear hown'))
        go_loopw [9, 11] (fun vl vi wr => ∃ (k2 L : Nat) (acc : List Value) (a : Option Addr) (c : Nat), vi = .int .i64 k2 ∧ vl = .slice a L c ∧ j ≤ k2 ∧ k2 ≤ n ∧ acc = pvs.take k ++ (fs ++ (pvs.take k2).drop j) ∧ L ≤ k2 + (fs).length ∧ wr.ownsRow w.heap.size 34 1 vl L acc ∧ Below w.heap.size w wr)
          (fun _ vi _ => n - (intOf vi).toNat)
        case atStart => exact ⟨j, _, _, _, _, rfl, rfl, by omega, hj, by rw [List.drop_eq_nil_of_le (by rw [List.length_take]; omega), List.append_nil, ← Hgo.out] <;> simp, by simp; omega, Hown'.out, Hbg.out⟩
        case round =>
          clear Hown Hown'
          obtain ⟨k2, L, acc2, a, c, rfl, rfl, hk2, hk3, hgo2, hal, hown, hB⟩ := hrel
          have Hown := Lib.hid hown; clear hown
          have Hgo2 := Lib.hid hgo2; clear hgo2
          by_cases hlt : k2 < n
          · have hii : (k2 : Int) < (n : Int) := by omega
            obtain ⟨g, rfl, hgl, r0⟩ := Hc.out.1 k2 (by omega)
            obtain ⟨ap, np, cp, hv⟩ := Hc.out.2 k2 (by omega)
            rw [hv] at r0
            have r0 := below_cell hB r0
            have hal' : L + 1 ≤ n + (fs).length := by omega
            have hsrc : ∀ (j : Nat) (u : Value), ([.slice ap np cp] : List Value)[j]? = some u → (wr.alloc (.cells #[.slice ap np cp] 34)).cell? ((⟨wr.heap.size, 0, none⟩ : Addr).add j) = some u := fun j u h => by
              have hr : Row (wr.alloc (.cells #[.slice ap np cp] 34)) wr.heap.size 34 [.slice ap np cp] := row_new wr [.slice ap np cp] 34
              rw [Addr.add_lit, Nat.zero_add, hr.cell]
              exact h
            have Hsrc := Lib.hid hsrc; clear hsrc
            have Hown1 := Lib.hid (owns_below Hown.out (below_box wr (.cells #[.slice ap np cp] 34)))
            have q1 : L + 1 ≤ maxLen := by unfold maxLen; omega
            have q2 : (L + 1) * 24 ≤ 140737488355328 := by omega
            have q3 : w.heap.size ≤ (wr.alloc (.cells #[.slice ap np cp] 34)).heap.size := by have := hB.size; simp; omega
            have q4 : ∀ u ∈ ([.slice ap np cp] : List Value), u.oneCell' = true := fun u hu => by obtain rfl := List.mem_singleton.1 hu; rfl
            have Q4 := Lib.hid q4; clear q4
            go_wp2_with (at_builtin; go_loud (refine wpList_append_own _ rfl _ _ 133 rfl w.heap.size 34 i0 (.slice none 0 0) 1 24 und_rows hi hz0 hz1 hz2 rfl (by decide) _ _ _ rfl Hown1.out ⟨wr.heap.size, 0, none⟩ 1 1 [.slice ap np cp] rfl rfl Hsrc.out Q4.out q1 q2 q3 ?_; intro v' w1 hown' hgrow hnil; clear hnil; have hb1 := (below_box wr (.cells #[.slice ap np cp] 34)).mono hB.size; have Hbg := Lib.hid (hb1.grown hgrow q3 (fun k hk => (Hown1.out.lt k hk).1)); clear hb1 hgrow q1 q2 q3 Hown1 Hsrc Q4; obtain ⟨a2, cap3, rfl, hx1, hx2⟩ := owns_shape hown'; have Hown' := Lib.hid hown'; clear hown'))
            refine ⟨⟨k2 + 1, L + 1, acc2 ++ [.slice ap np cp], a2, cap3, by simp, rfl, by omega, by omega, ?_, by omega, Hown'.out, hB.trans Hbg.out⟩, ?_⟩
            · rw [drop_take_succ hk2 (by omega), Hgo2.out, hv]; simp only [List.append_assoc]
            · show n - (((k2 : Int) + 1).toNat) < n - ((k2 : Int).toNat)
              omega
          · obtain rfl : k2 = n := by omega
            have hgo2 := Hgo2.out
            rw [List.take_of_length_le (show pvs.length ≤ k2 by omega)] at hgo2
            have hlen := owns_length Hown.out
            rw [hgo2] at hlen
            simp only [List.length_append, List.length_take, List.length_drop] at hlen
            have hL : L = k2 - (j - k) + (fs).length := by omega
            subst hgo2
            have HL := Lib.hid hL; clear hL hlen
            have Hown := Lib.hid Hown.out
            go_wp2_with fail
            go_ret
            exact ⟨_, rfl, by rw [← HL.out]; exact Hown.out, hB⟩
end Go.Proofs.Ytagcohpghgnalaa.RF
namespace Go.Proofs.Ytagcohpghgnalaa.RF
open Go.RowKit Go.RG Go.Hp Go.Pg Go.Proofs.Ytagcohpghgnalaa


def RNewPost (size : Nat) (w : World) (e : Ending) (w' : World) : Prop :=
  ∃ bx vr, e = .returned (.tuple #[.pointer (some ⟨bx, 0, none⟩), .int .i64 0]) ∧ w.heap.size ≤ bx ∧ RMemV w' bx size [] (· = bx) vr [] ∧ Below w.heap.size w w'
theorem new_ref (size : Nat) (h4 : 4 ≤ size) (h64 : size ≤ 64) (w : World) :
    Calls Try.prog 80 #[.int .i64 size] w (RNewPost size w) := by
  have h1 : ¬ (size : Int) < 4 := by omega
  have h2 : ¬ (64 : Int) < (size : Int) := by omega
  go_enter Try.func80, Try.ntmps80
  go_wp2
  go_ret2
  have hb := below_box w (.cells #[.int .i64 size, .slice none 0 0] 135)
  have hmem : RMemV (w.alloc (.cells #[.int .i64 size, .slice none 0 0] 135)) w.heap.size size [] (· = w.heap.size) (.slice none 0 0) [] :=
    ⟨heap_alloc_new w _, World.ownsRow_nil _ 0 34 1, fun i hi => (by cases hi), rfl, fun k hk => (by cases hk), fun i hi => (by cases hi)⟩
  exact ⟨_, _, rfl, Nat.le_refl _, hmem, hb⟩
theorem new_rbad (size : Int) (h : size < 4 ∨ 64 < size) (w : World) :
    Calls Try.prog 80 #[.int .i64 size] w fun e w' => e = .returned (.tuple #[.pointer none, .int .i64 1]) ∧ w = w' := by
  rcases h with h | h
  · go_enter Try.func80, Try.ntmps80
    go_wp2
    go_ret2
    exact ⟨rfl, rfl⟩
  · have h1 : ¬ size < 4 := by omega
    go_enter Try.func80, Try.ntmps80
    go_wp2
    go_ret2
    exact ⟨rfl, rfl⟩

/-- what a Put leaves -/
def RPutPost (w : World) (bx size : Nat) (R' : List (List Ent)) (S : Nat → Prop) (b : Bool) (e : Ending) (w' : World) : Prop :=
  e = .returned (.bool b) ∧ ∃ vr' pvs', RMemV w' bx size R' (fun k => S k ∨ w.heap.size ≤ k) vr' pvs' ∧ Ext S w w'

theorem put_rbare (s : St) (x : Int) (w : World) : Calls Try.prog 84 #[.pointer none, s.v, .int .u64 x] w fun e w' => e = .returned (.bool false) ∧ Below w.heap.size w w' := by
  have hB0 := below_box w (.cells #[.int .u64 s.t, .int .u64 s.s] 38)
  unfold St.v
  go_enter Try.func84, Try.ntmps84
  go_wp2_with fail
  go_ret
  exact ⟨rfl, hB0⟩

set_option maxRecDepth 100000 in
theorem put_rnone (s : St) (x : Int) (bx size : Nat) (S : Nat → Prop) (vr : Value) (pvs : List Value) (w : World) (hM : RMemV w bx size [] S vr pvs) :
    Calls Try.prog 84 #[.pointer (some ⟨bx, 0, none⟩), s.v, .int .u64 x] w (RPutPost w bx size [[⟨s, .int .u64 x⟩]] S true) := by
  have hB0 := below_box w (.cells #[.int .u64 s.t, .int .u64 s.s] 38)
  have HP := Lib.hid (place_rnone s bx size S vr pvs _ (hM.below hB0))
  have hbx := block_lt_of_heap hM.str
  have hM0 := hM
  obtain ⟨m0, m1⟩ := hM.cells
  obtain ⟨a, cap, rfl, _, _⟩ := owns_shape hM.rows
  have hfr := hM.frozen
  have HM := Lib.hid hM; clear hM hM0
  unfold St.v at HP ⊢
  have s0 : (w.alloc (.cells #[.int .u64 s.t, .int .u64 s.s] 38)).cell? ⟨w.heap.size, 0, none⟩ = some (.int .u64 s.t) := by simp
  have s1 : (w.alloc (.cells #[.int .u64 s.t, .int .u64 s.s] 38)).cell? ⟨w.heap.size, 1, none⟩ = some (.int .u64 s.s) := by simp
  go_enter Try.func84, Try.ntmps84
  go_wp2_with fail
  generalize w.alloc (.cells #[.int .u64 s.t, .int .u64 s.s] 38) = w0 at hB0 s0 s1 HP ⊢
  refine HP.out.mono ?_
  rintro e w1 ⟨rfl, hB⟩
  have hB2 := hB0.trans (hB.mono hB0.size)
  have s0 := below_cell hB s0
  have s1 := below_cell hB s1
  have m1 := below_cell hB2 m1
  have hz1 := hB2.size
  have n3 := (HM.out.below hB2).frozen 1
  have hs2 : bx < w1.heap.size := by omega
  have hs3 : bx < w1.heap.size + 1 := by omega
  have hs4 : bx < w1.heap.size + 1 + 1 := by omega
  have hne1 : ¬ bx = w1.heap.size := by omega
  have hne2 : ¬ bx = w1.heap.size + 1 := by omega
  have hne3 : ¬ bx = w1.heap.size + 1 + 1 := by omega
  go_wp2_with fail
  go_ret
  have hw : ((((w1.setCell ⟨bx, 1, none⟩ (.slice (some ⟨w1.heap.size + 1 + 1, 0, none⟩) 1 1)).alloc (Obj.cells #[.int .u64 s.t, .int .u64 s.s, .int .u64 x] 60)).alloc (Obj.cells #[.int .u64 s.t, .int .u64 s.s, .int .u64 x] 60)).alloc
      (Obj.cells #[.slice (some ⟨w1.heap.size + 1, 0, none⟩) 1 1] 34)) = (((w1.alloc (Obj.cells #[.int .u64 s.t, .int .u64 s.s, .int .u64 x] 60)).alloc (Obj.cells #[.int .u64 s.t, .int .u64 s.s, .int .u64 x] 60)).alloc
      (Obj.cells #[.slice (some ⟨w1.heap.size + 1, 0, none⟩) 1 1] 34)).setCell ⟨bx, 1, none⟩ (.slice (some ⟨w1.heap.size + 1 + 1, 0, none⟩) 1 1) := by
    rw [World.setCell_alloc_past _ _ _ _ (by simp; omega), World.setCell_alloc_past _ _ _ _ (by simp; omega), World.setCell_alloc_past _ _ _ _ hs2]
  have hb3 : Below w.heap.size w (((w1.alloc (Obj.cells #[.int .u64 s.t, .int .u64 s.s, .int .u64 x] 60)).alloc (Obj.cells #[.int .u64 s.t, .int .u64 s.s, .int .u64 x] 60)).alloc (Obj.cells #[.slice (some ⟨w1.heap.size + 1, 0, none⟩) 1 1] 34)) :=
    ((hB2.alloc (by omega) _).alloc (by simp; omega) _).alloc (by simp; omega) _
  have hpl : pvs = [] := List.eq_nil_of_length_eq_zero (by have := owns_length HM.out.rows; simpa using this)
  subst hpl
  have hend := HM.out.rows_end (ms := [[⟨s, .int .u64 x⟩]]) (vs := [.slice (some ⟨w1.heap.size + 1, 0, none⟩) 1 1]) (vr' := .slice (some ⟨w1.heap.size + 1 + 1, 0, none⟩) 1 1) (i := 0) (j := 0) (n' := 1) hb3 (by omega) (by simp) rfl rfl ?_ ?_ ?_
  · rw [hw]
    exact ⟨rfl, _, _, hend.1, hend.2⟩
  · refine owns_of_row (L := [.slice (some ⟨w1.heap.size + 1, 0, none⟩) 1 1]) (by
      have := row_new ((w1.alloc (Obj.cells #[.int .u64 s.t, .int .u64 s.s, .int .u64 x] 60)).alloc (Obj.cells #[.int .u64 s.t, .int .u64 s.s, .int .u64 x] 60)) [.slice (some ⟨w1.heap.size + 1, 0, none⟩) 1 1] 34
      simpa using this) rfl (Nat.le_refl _) (by decide) rfl (by omega)
  · intro q hq
    obtain rfl : q = 0 := by simpa using hq
    refine ⟨?_, fun e he => by obtain rfl := List.mem_singleton.1 he; rfl⟩
    refine owns_of_row (L := [.int .u64 s.t, .int .u64 s.s, .int .u64 x]) (Row.below ?_ (below_box _ _)) rfl (Nat.le_refl _) (by decide) rfl (by omega)
    have := row_new (w1.alloc (Obj.cells #[.int .u64 s.t, .int .u64 s.s, .int .u64 x] 60)) [.int .u64 s.t, .int .u64 s.s, .int .u64 x] 60
    simpa using this
  · intro q hq k hk
    obtain rfl : q = 0 := by simpa using hq
    have hk : w1.heap.size + 1 = k := Option.some.inj hk
    refine ⟨by omega, fun h => ?_⟩
    have h : w1.heap.size + 1 + 1 = k := Option.some.inj h
    omega

theorem ent_num {R : List (List Ent)} {p i : Nat} (hN : ∀ e ∈ R.flatten, U.NumV e.v) (hp : p < R.length) (hi : i < (pageAt R p).length) : U.NumV (ent (pageAt R p) i).v := by
  refine hN _ (List.mem_flatten.2 ⟨_, pageAt_mem hp, ?_⟩)
  have : ent (pageAt R p) i = (pageAt R p)[i] := by simp [ent, hi]
  rw [this]; exact List.getElem_mem _

set_option maxRecDepth 100000 in
theorem put_rthere (s : St) (x : Int) (bx size : Nat) (R : List (List Ent)) (hR : 0 < R.length) (hm : R.length ≤ 4611686018427387904) (hO : Ordered R)
    (hl : ∀ i, i < R.length → (pageAt R i).length ≤ 4611686018427387904) (ht : there R s = true) (S : Nat → Prop) (vr : Value) (pvs : List Value) (w : World) (hM : RMemV w bx size R S vr pvs) :
    Calls Try.prog 84 #[.pointer (some ⟨bx, 0, none⟩), s.v, .int .u64 x] w (RPutPost w bx size (putR size R s (.int .u64 x)) S false) := by
  have hB0 := below_box w (.cells #[.int .u64 s.t, .int .u64 s.s] 38)
  have HP := Lib.hid (place_rsome s bx size R hR hm hO hl S vr pvs _ (hM.below hB0))
  have hpl := pageOf_lt (s := s) hR
  have hen : entOf R s < (pageAt R (pageOf R s)).length := by
    have ht := ht
    unfold there at ht
    have := (isIn_iff.1 ht).1
    rwa [length_keys] at this
  obtain ⟨m0, m1⟩ := hM.cells
  obtain ⟨g, cap, rfl, hg, hc, hcm, hrow, -⟩ := hM.row hR
  obtain ⟨g2, cap2, hv2, hg2, hc2, hcm2, hpage, hone, hfz⟩ := (hM.pages _ hpl).parts (hO.full _ hpl)
  have hrp := hrow _ hpl
  rw [hv2] at hrp
  have HM := Lib.hid (And.intro hM (And.intro hO hv2)); clear hM hO
  have hput : putR size R s (.int .u64 x) = R.set (pageOf R s) ((pageAt R (pageOf R s)).set (entOf R s) ⟨(ent (pageAt R (pageOf R s)) (entOf R s)).k, .int .u64 x⟩) := by
    unfold putR
    rw [if_neg (by omega), if_pos ht]
  rw [hput]
  rw [ht] at HP
  have e1 : (pageOf R s : Int) < (R.length : Int) := by omega
  have e2 : (entOf R s : Int) < ((pageAt R (pageOf R s)).length : Int) := by omega
  have hfz := hfz (entOf R s * 3 + 2)
  obtain ⟨z0, z1, z2⟩ := hpage _ hen
  clear hpage hone hrow hl hput ht hv2
  unfold St.v at HP ⊢
  go_enter Try.func84, Try.ntmps84
  go_wp2_with fail
  generalize w.alloc (.cells #[.int .u64 s.t, .int .u64 s.s] 38) = w0 at hB0 HP ⊢
  refine HP.out.mono ?_
  rintro e w1 ⟨rfl, hB⟩
  have hB2 := hB0.trans (hB.mono hB0.size)
  have m1 := below_cell hB2 m1
  have hrp := below_cell hB2 hrp
  have z2 := below_cell hB2 z2
  have hfz : w1.frozen? ⟨g2, entOf R s * 3 + 2, none⟩ = false := by rw [← hfz]; unfold World.frozen?; rw [hB2.block _ hg2]
  go_wp2_with fail
  go_ret
  have hend := HM.out.1.put_in HM.out.2.1 hpl hen hB2 HM.out.2.2 (v := .int .u64 x) rfl
  exact ⟨rfl, _, _, hend.1.mono fun k hk => Or.inl hk, hend.2⟩
end Go.Proofs.Ytagcohpghgnalaa.RF
namespace Go.Proofs.Ytagcohpghgnalaa.RF
open Go.RowKit Go.RG Go.Hp Go.Pg Go.Proofs.Ytagcohpghgnalaa


theorem src_take {w w' : World} {E g cap i : Nat} {p : List Ent} (h : PageIs E w (.slice (some ⟨g, 0, none⟩) p.length cap) p) (hb : Below w.heap.size w w') (hi : i ≤ p.length) :
    ∀ (j : Nat) (u : Value), (cellsOf (p.take i))[j]? = some u → w'.cell? ((⟨g, 0, none⟩ : Addr).add j) = some u := fun j u hj => by
  rw [← cellsOf_take, List.getElem?_take] at hj
  split at hj
  · exact owns_src (owns_below h.row hb) j u hj
  · cases hj
theorem src_drop {w w' : World} {E g cap i : Nat} {p : List Ent} (h : PageIs E w (.slice (some ⟨g, 0, none⟩) p.length cap) p) (hb : Below w.heap.size w w') :
    ∀ (j : Nat) (u : Value), (cellsOf (p.drop i))[j]? = some u → w'.cell? ((⟨g, i * 3, none⟩ : Addr).add j) = some u := fun j u hj => by
  rw [← cellsOf_drop, List.getElem?_drop] at hj
  have := owns_src (owns_below h.row hb) _ u hj
  rw [Addr.add_lit] at this ⊢
  simpa using this

theorem mid_cells (p : List Ent) (i : Nat) (s : St) (x : Int) : [] ++ cellsOf (p.take i) ++ [.int .u64 s.t, .int .u64 s.s, .int .u64 x] ++ cellsOf (p.drop i) = cellsOf (p.take i ++ (⟨s, .int .u64 x⟩ :: p.drop i)) := by
  rw [cellsOf_append, cellsOf_cons]
  simp [Ent.cells]
theorem mid_len (p : List Ent) {i : Nat} (e : Ent) (h : i ≤ p.length) : (p.take i ++ (e :: p.drop i)).length = p.length + 1 := by
  simp only [List.length_append, List.length_take, List.length_cons, List.length_drop]; omega
theorem mid_one {p : List Ent} {i : Nat} {e : Ent} (h : ∀ e ∈ p, e.v.oneCell' = true) (he : e.v.oneCell' = true) : ∀ d ∈ p.take i ++ (e :: p.drop i), d.v.oneCell' = true := fun d hd => by
  rcases List.mem_append.1 hd with h1 | h1
  · exact h d (List.mem_of_mem_take h1)
  · rcases List.mem_cons.1 h1 with rfl | h1
    · exact he
    · exact h d (List.mem_of_mem_drop h1)

set_option maxHeartbeats 1000000 in
set_option maxRecDepth 100000 in
theorem put_rfits (s : St) (x : Int) (bx size : Nat) (R : List (List Ent)) (hR : 0 < R.length) (hm : R.length ≤ 274877906944) (hO : Ordered R)
    (hl : ∀ i, i < R.length → (pageAt R i).length ≤ 64) (ht : there R s = false) (hfit : (pageAt R (pageOf R s)).length + 1 ≤ size) (S : Nat → Prop) (vr : Value) (pvs : List Value) (w : World) (hM : RMemV w bx size R S vr pvs) :
    Calls Try.prog 84 #[.pointer (some ⟨bx, 0, none⟩), s.v, .int .u64 x] w (RPutPost w bx size (putR size R s (.int .u64 x)) S true) := by
  have hB0 := below_box w (.cells #[.int .u64 s.t, .int .u64 s.s] 38)
  have HP := Lib.hid (place_rsome s bx size R hR (by omega) hO (fun i hi => by have := hl i hi; omega) S vr pvs _ (hM.below hB0))
  have hpl := pageOf_lt (s := s) hR
  have hel := entOf_le R s
  have hlp := hl _ hpl
  have hf0 := hO.full _ hpl
  obtain ⟨m0, m1⟩ := hM.cells
  obtain ⟨g, cap, rfl, hg, hc, hcm, hrow, hfr⟩ := hM.row hR
  obtain ⟨g2, cap2, hv2, hg2, hc2, hcm2, hpage, hone, -⟩ := (hM.pages _ hpl).parts hf0
  have hrp := hrow _ hpl
  rw [hv2] at hrp
  have hbx := block_lt_of_heap hM.str
  have hpi := hM.pages _ hpl
  rw [hv2] at hpi
  have Hpi := Lib.hid hpi; clear hpi
  have HM := Lib.hid (And.intro hM (And.intro hO hv2)); clear hM hO
  rw [ht] at HP
  have e1 : (pageOf R s : Int) < (R.length : Int) := by omega
  have e2 : (entOf R s : Int) ≤ ((pageAt R (pageOf R s)).length : Int) := by omega
  have hfr := hfr (pageOf R s)
  have hRz : ((R.length : Int) == 0) = false := by rw [beq_eq_false_iff_ne]; omega
  clear hpage hone hrow hl hv2
  obtain ⟨i0, hi, hz0, hz1, hz2⟩ := info_parts BK.info_Entry
  unfold St.v at HP ⊢
  have s0 : (w.alloc (.cells #[.int .u64 s.t, .int .u64 s.s] 38)).cell? ⟨w.heap.size, 0, none⟩ = some (.int .u64 s.t) := by simp
  have s1 : (w.alloc (.cells #[.int .u64 s.t, .int .u64 s.s] 38)).cell? ⟨w.heap.size, 1, none⟩ = some (.int .u64 s.s) := by simp
  go_enter Try.func84, Try.ntmps84
  go_wp2_with fail
  generalize w.alloc (.cells #[.int .u64 s.t, .int .u64 s.s] 38) = w0 at hB0 s0 s1 HP ⊢
  refine HP.out.mono ?_
  rintro e w1 ⟨rfl, hB⟩
  have hB2 := hB0.trans (hB.mono hB0.size)
  have s0 := below_cell hB s0
  have s1 := below_cell hB s1
  have n0 := below_cell hB2 m0
  have n1 := below_cell hB2 m1
  have nrp := below_cell hB2 hrp
  have hz1' := hB2.size
  have hs2 : bx < w1.heap.size := by omega
  have hs3 : g < w1.heap.size := by omega
  have hne1 : ¬ bx = w1.heap.size := by omega
  have hne2 : ¬ g = w1.heap.size := by omega
  have hB3 : Below w.heap.size w (w1.alloc (.cells #[.int .u64 s.t, .int .u64 s.s, .int .u64 x] 60)) := hB2.alloc (by omega) _
  have Hown0 := Lib.hid (World.ownsRow_nil (w1.alloc (.cells #[.int .u64 s.t, .int .u64 s.s, .int .u64 x] 60)) (w1.alloc (.cells #[.int .u64 s.t, .int .u64 s.s, .int .u64 x] 60)).heap.size 60 3)
  have q1 : 0 + entOf R s ≤ maxLen := by unfold maxLen; omega
  have q2 : (0 + entOf R s) * 24 ≤ 140737488355328 := by omega
  have q3 := Nat.le_refl (w1.alloc (.cells #[.int .u64 s.t, .int .u64 s.s, .int .u64 x] 60)).heap.size
  have Hsrc := Lib.hid (fun j u hj => (src_take Hpi.out hB3 hel j u hj))
  have Hone1 := Lib.hid (cellsOf_one (p := (pageAt R (pageOf R s)).take (entOf R s)) fun e he => Hpi.out.one e (List.mem_of_mem_take he))
  have Hlen1 := Lib.hid (show (cellsOf ((pageAt R (pageOf R s)).take (entOf R s))).length = entOf R s * 3 by rw [length_cellsOf, List.length_take, Nat.min_eq_left hel])
  by_cases hci : cap2 = entOf R s
  · have Hoff := Lib.hid (show ∀ W, Below w.heap.size w W → ∀ (j : Nat) (u : Value), (cellsOf ((pageAt R (pageOf R s)).drop (entOf R s)))[j]? = some u → W.cell? ((⟨g2, 0, none⟩ : Addr).add j) = some u from fun W _ j u hj => by
      rw [List.drop_eq_nil_of_le (by omega)] at hj
      cases hj)
    go_wp2_with (at_builtin; first | (refine wpList_append_own _ rfl _ _ 34 rfl (w1.alloc (.cells #[.int .u64 s.t, .int .u64 s.s, .int .u64 x] 60)).heap.size 60 i0 (.agg #[.int .u64 0, .int .u64 0, .int .u64 0]) 3 24 und_page hi hz0 hz1 hz2 rfl (by decide) _ _ _ rfl Hown0.out ⟨g2, 0, none⟩ _ _ (cellsOf ((pageAt R (pageOf R s)).take (entOf R s))) rfl Hlen1.out Hsrc.out Hone1.out q1 q2 q3 ?_; intro v' w2 hown' hgrow hnil; clear hnil; rw [Nat.zero_add] at hown'; have Hb2 := Lib.hid ((Below.refl _ _).grown hgrow q3 (fun k hk => by cases hk)); clear hgrow q1 q2 q3 Hsrc Hone1 Hlen1 Hown0; obtain ⟨a2, cap3, rfl, hx1, hx2⟩ := owns_shape hown'; have o0 := (Hb2.out.cell (p := ⟨bx, 0, none⟩) (by simp; omega)).trans (below_cell (below_box w1 (.cells #[.int .u64 s.t, .int .u64 s.s, .int .u64 x] 60)) n0); have o1 := (Hb2.out.cell (p := ⟨bx, 1, none⟩) (by simp; omega)).trans (below_cell (below_box w1 (.cells #[.int .u64 s.t, .int .u64 s.s, .int .u64 x] 60)) n1); have orp := (Hb2.out.cell (p := ⟨g, pageOf R s, none⟩) (by simp; omega)).trans (below_cell (below_box w1 (.cells #[.int .u64 s.t, .int .u64 s.s, .int .u64 x] 60)) nrp); have c0 : w2.cell? ⟨w1.heap.size, 0, none⟩ = some (.int .u64 s.t) := (Hb2.out.cell (p := ⟨w1.heap.size, 0, none⟩) (by simp)).trans (by simp); have c1 : w2.cell? ⟨w1.heap.size, 1, none⟩ = some (.int .u64 s.s) := (Hb2.out.cell (p := ⟨w1.heap.size, 1, none⟩) (by simp)).trans (by simp); have c2 : w2.cell? ⟨w1.heap.size, 2, none⟩ = some (.int .u64 x) := (Hb2.out.cell (p := ⟨w1.heap.size, 2, none⟩) (by simp)).trans (by simp); have hb2s := Hb2.out.size; have hb2t : bx < w2.heap.size ∧ g < w2.heap.size ∧ w1.heap.size < w2.heap.size := (by simp at hb2s; omega); obtain ⟨hb2t, hb2u, hb2v⟩ := hb2t; have Hown1 := Lib.hid (owns_below hown' (below_box w2 (.cells #[.int .u64 s.t, .int .u64 s.s, .int .u64 x] 60))); clear hown'; have Hsrc1 := Lib.hid (BK.src3 w2 (.int .u64 s.t) (.int .u64 s.s) (.int .u64 x)); have q1 : entOf R s + 1 ≤ maxLen := (by unfold maxLen; omega); have q2 : (entOf R s + 1) * 24 ≤ 140737488355328 := (by omega); have q3 : (w1.alloc (.cells #[.int .u64 s.t, .int .u64 s.s, .int .u64 x] 60)).heap.size ≤ (w2.alloc (.cells #[.int .u64 s.t, .int .u64 s.s, .int .u64 x] 60)).heap.size := (by simp at hb2s ⊢; omega); have Q1 := Lib.hid (BK.one3 s x)) | (refine wpList_append_own _ rfl _ _ 34 rfl (w1.alloc (.cells #[.int .u64 s.t, .int .u64 s.s, .int .u64 x] 60)).heap.size 60 i0 (.agg #[.int .u64 0, .int .u64 0, .int .u64 0]) 3 24 und_page hi hz0 hz1 hz2 rfl (by decide) _ _ _ rfl Hown1.out ⟨w2.heap.size, 0, none⟩ 1 1 [.int .u64 s.t, .int .u64 s.s, .int .u64 x] rfl rfl Hsrc1.out Q1.out q1 q2 q3 ?_; intro v' w3 hown' hgrow hnil; clear hnil; have Hb3 := Lib.hid ((Hb2.out.trans ((below_box w2 (.cells #[.int .u64 s.t, .int .u64 s.s, .int .u64 x] 60)).mono Hb2.out.size)).grown hgrow q3 (fun k hk => (Hown1.out.lt k hk).1)); clear hgrow q1 q2 q3 Hsrc1 Q1 Hown1; clear o0 o1 orp c0 c1 c2; obtain ⟨a3, cap4, rfl, hx3, hx4⟩ := owns_shape hown'; have o0 := (Hb3.out.cell (p := ⟨bx, 0, none⟩) (by simp; omega)).trans (below_cell (below_box w1 (.cells #[.int .u64 s.t, .int .u64 s.s, .int .u64 x] 60)) n0); have o1 := (Hb3.out.cell (p := ⟨bx, 1, none⟩) (by simp; omega)).trans (below_cell (below_box w1 (.cells #[.int .u64 s.t, .int .u64 s.s, .int .u64 x] 60)) n1); have orp := (Hb3.out.cell (p := ⟨g, pageOf R s, none⟩) (by simp; omega)).trans (below_cell (below_box w1 (.cells #[.int .u64 s.t, .int .u64 s.s, .int .u64 x] 60)) nrp); have Hown3 := Lib.hid hown'; clear hown'; have Hsrc3 := Lib.hid (fun j u hj => Hoff.out w3 (hB3.trans (Hb3.out.mono hB3.size)) j u hj); have Hone3 := Lib.hid (cellsOf_one (p := (pageAt R (pageOf R s)).drop (entOf R s)) fun e he => Hpi.out.one e (List.mem_of_mem_drop he)); have Hlen3 := Lib.hid (show (cellsOf ((pageAt R (pageOf R s)).drop (entOf R s))).length = ((pageAt R (pageOf R s)).length - entOf R s) * 3 by rw [length_cellsOf, List.length_drop]); have q1 : entOf R s + 1 + ((pageAt R (pageOf R s)).length - entOf R s) ≤ maxLen := (by unfold maxLen; omega); have q2 : (entOf R s + 1 + ((pageAt R (pageOf R s)).length - entOf R s)) * 24 ≤ 140737488355328 := (by omega); have q3 : (w1.alloc (.cells #[.int .u64 s.t, .int .u64 s.s, .int .u64 x] 60)).heap.size ≤ w3.heap.size := Hb3.out.size) | (go_loud (refine wpList_append_own _ rfl _ _ 34 rfl (w1.alloc (.cells #[.int .u64 s.t, .int .u64 s.s, .int .u64 x] 60)).heap.size 60 i0 (.agg #[.int .u64 0, .int .u64 0, .int .u64 0]) 3 24 und_page hi hz0 hz1 hz2 rfl (by decide) _ _ _ rfl Hown3.out ⟨g2, 0, none⟩ _ _ (cellsOf ((pageAt R (pageOf R s)).drop (entOf R s))) rfl Hlen3.out Hsrc3.out Hone3.out q1 q2 q3 ?_; intro v' w4 hown' hgrow hnil; clear hnil; have Hb4 := Lib.hid (Hb3.out.grown hgrow q3 (fun k hk => (Hown3.out.lt k hk).1)); clear hgrow q1 q2 q3 Hsrc3 Hone3 Hlen3 Hown3; clear o0 o1 orp; have o0 := (Hb4.out.cell (p := ⟨bx, 0, none⟩) (by simp; omega)).trans (below_cell (below_box w1 (.cells #[.int .u64 s.t, .int .u64 s.s, .int .u64 x] 60)) n0); have o1 := (Hb4.out.cell (p := ⟨bx, 1, none⟩) (by simp; omega)).trans (below_cell (below_box w1 (.cells #[.int .u64 s.t, .int .u64 s.s, .int .u64 x] 60)) n1); have orp := (Hb4.out.cell (p := ⟨g, pageOf R s, none⟩) (by simp; omega)).trans (below_cell (below_box w1 (.cells #[.int .u64 s.t, .int .u64 s.s, .int .u64 x] 60)) nrp); have hn4 : entOf R s + 1 + ((pageAt R (pageOf R s)).length - entOf R s) = (pageAt R (pageOf R s)).length + 1 := (by omega); rw [hn4] at hown'; obtain ⟨a4, cap5, rfl, hx5, hx6⟩ := owns_shape hown'; have Hown4 := Lib.hid hown'; clear hown' hn4; have hB5 := hB3.trans (Hb4.out.mono hB3.size); have hfr4 : w4.frozen? ⟨g, pageOf R s, none⟩ = false := (by rw [← hfr]; unfold World.frozen?; rw [hB5.block _ hg]))))
    go_ret
    have hlen := mid_len (pageAt R (pageOf R s)) ⟨s, .int .u64 x⟩ hel
    have hput : putR size R s (.int .u64 x) = R.set (pageOf R s) ((pageAt R (pageOf R s)).take (entOf R s) ++ (⟨s, .int .u64 x⟩ :: (pageAt R (pageOf R s)).drop (entOf R s))) := by
      unfold putR
      rw [if_neg (by omega), if_neg (by rw [ht]; decide)]
      simp only [hlen]
      rw [if_pos hfit]
    have hown := Hown4.out
    rw [mid_cells] at hown
    have hend := HM.out.1.swap_end hpl hB5 (u := .slice a4 ((pageAt R (pageOf R s)).length + 1) cap5) (l := (pageAt R (pageOf R s)).take (entOf R s) ++ (⟨s, .int .u64 x⟩ :: (pageAt R (pageOf R s)).drop (entOf R s)))
      ⟨by rw [hlen]; exact owns_base hown fun k _ => Nat.zero_le _, mid_one Hpi.out.one rfl⟩ (fun k hk => by have := (hown.lt k hk).1; simp at this; omega)
    rw [hput]
    exact ⟨rfl, _, _, hend.1, hend.2⟩
  · have Hoff := Lib.hid (fun W hW => src_drop (i := entOf R s) Hpi.out (w' := W) hW)
    go_wp2_with (at_builtin; first | (refine wpList_append_own _ rfl _ _ 34 rfl (w1.alloc (.cells #[.int .u64 s.t, .int .u64 s.s, .int .u64 x] 60)).heap.size 60 i0 (.agg #[.int .u64 0, .int .u64 0, .int .u64 0]) 3 24 und_page hi hz0 hz1 hz2 rfl (by decide) _ _ _ rfl Hown0.out ⟨g2, 0, none⟩ _ _ (cellsOf ((pageAt R (pageOf R s)).take (entOf R s))) rfl Hlen1.out Hsrc.out Hone1.out q1 q2 q3 ?_; intro v' w2 hown' hgrow hnil; clear hnil; rw [Nat.zero_add] at hown'; have Hb2 := Lib.hid ((Below.refl _ _).grown hgrow q3 (fun k hk => by cases hk)); clear hgrow q1 q2 q3 Hsrc Hone1 Hlen1 Hown0; obtain ⟨a2, cap3, rfl, hx1, hx2⟩ := owns_shape hown'; have o0 := (Hb2.out.cell (p := ⟨bx, 0, none⟩) (by simp; omega)).trans (below_cell (below_box w1 (.cells #[.int .u64 s.t, .int .u64 s.s, .int .u64 x] 60)) n0); have o1 := (Hb2.out.cell (p := ⟨bx, 1, none⟩) (by simp; omega)).trans (below_cell (below_box w1 (.cells #[.int .u64 s.t, .int .u64 s.s, .int .u64 x] 60)) n1); have orp := (Hb2.out.cell (p := ⟨g, pageOf R s, none⟩) (by simp; omega)).trans (below_cell (below_box w1 (.cells #[.int .u64 s.t, .int .u64 s.s, .int .u64 x] 60)) nrp); have c0 : w2.cell? ⟨w1.heap.size, 0, none⟩ = some (.int .u64 s.t) := (Hb2.out.cell (p := ⟨w1.heap.size, 0, none⟩) (by simp)).trans (by simp); have c1 : w2.cell? ⟨w1.heap.size, 1, none⟩ = some (.int .u64 s.s) := (Hb2.out.cell (p := ⟨w1.heap.size, 1, none⟩) (by simp)).trans (by simp); have c2 : w2.cell? ⟨w1.heap.size, 2, none⟩ = some (.int .u64 x) := (Hb2.out.cell (p := ⟨w1.heap.size, 2, none⟩) (by simp)).trans (by simp); have hb2s := Hb2.out.size; have hb2t : bx < w2.heap.size ∧ g < w2.heap.size ∧ w1.heap.size < w2.heap.size := (by simp at hb2s; omega); obtain ⟨hb2t, hb2u, hb2v⟩ := hb2t; have Hown1 := Lib.hid (owns_below hown' (below_box w2 (.cells #[.int .u64 s.t, .int .u64 s.s, .int .u64 x] 60))); clear hown'; have Hsrc1 := Lib.hid (BK.src3 w2 (.int .u64 s.t) (.int .u64 s.s) (.int .u64 x)); have q1 : entOf R s + 1 ≤ maxLen := (by unfold maxLen; omega); have q2 : (entOf R s + 1) * 24 ≤ 140737488355328 := (by omega); have q3 : (w1.alloc (.cells #[.int .u64 s.t, .int .u64 s.s, .int .u64 x] 60)).heap.size ≤ (w2.alloc (.cells #[.int .u64 s.t, .int .u64 s.s, .int .u64 x] 60)).heap.size := (by simp at hb2s ⊢; omega); have Q1 := Lib.hid (BK.one3 s x)) | (refine wpList_append_own _ rfl _ _ 34 rfl (w1.alloc (.cells #[.int .u64 s.t, .int .u64 s.s, .int .u64 x] 60)).heap.size 60 i0 (.agg #[.int .u64 0, .int .u64 0, .int .u64 0]) 3 24 und_page hi hz0 hz1 hz2 rfl (by decide) _ _ _ rfl Hown1.out ⟨w2.heap.size, 0, none⟩ 1 1 [.int .u64 s.t, .int .u64 s.s, .int .u64 x] rfl rfl Hsrc1.out Q1.out q1 q2 q3 ?_; intro v' w3 hown' hgrow hnil; clear hnil; have Hb3 := Lib.hid ((Hb2.out.trans ((below_box w2 (.cells #[.int .u64 s.t, .int .u64 s.s, .int .u64 x] 60)).mono Hb2.out.size)).grown hgrow q3 (fun k hk => (Hown1.out.lt k hk).1)); clear hgrow q1 q2 q3 Hsrc1 Q1 Hown1; clear o0 o1 orp c0 c1 c2; obtain ⟨a3, cap4, rfl, hx3, hx4⟩ := owns_shape hown'; have o0 := (Hb3.out.cell (p := ⟨bx, 0, none⟩) (by simp; omega)).trans (below_cell (below_box w1 (.cells #[.int .u64 s.t, .int .u64 s.s, .int .u64 x] 60)) n0); have o1 := (Hb3.out.cell (p := ⟨bx, 1, none⟩) (by simp; omega)).trans (below_cell (below_box w1 (.cells #[.int .u64 s.t, .int .u64 s.s, .int .u64 x] 60)) n1); have orp := (Hb3.out.cell (p := ⟨g, pageOf R s, none⟩) (by simp; omega)).trans (below_cell (below_box w1 (.cells #[.int .u64 s.t, .int .u64 s.s, .int .u64 x] 60)) nrp); have Hown3 := Lib.hid hown'; clear hown'; have Hsrc3 := Lib.hid (fun j u hj => Hoff.out w3 (hB3.trans (Hb3.out.mono hB3.size)) j u hj); have Hone3 := Lib.hid (cellsOf_one (p := (pageAt R (pageOf R s)).drop (entOf R s)) fun e he => Hpi.out.one e (List.mem_of_mem_drop he)); have Hlen3 := Lib.hid (show (cellsOf ((pageAt R (pageOf R s)).drop (entOf R s))).length = ((pageAt R (pageOf R s)).length - entOf R s) * 3 by rw [length_cellsOf, List.length_drop]); have q1 : entOf R s + 1 + ((pageAt R (pageOf R s)).length - entOf R s) ≤ maxLen := (by unfold maxLen; omega); have q2 : (entOf R s + 1 + ((pageAt R (pageOf R s)).length - entOf R s)) * 24 ≤ 140737488355328 := (by omega); have q3 : (w1.alloc (.cells #[.int .u64 s.t, .int .u64 s.s, .int .u64 x] 60)).heap.size ≤ w3.heap.size := Hb3.out.size) | (go_loud (refine wpList_append_own _ rfl _ _ 34 rfl (w1.alloc (.cells #[.int .u64 s.t, .int .u64 s.s, .int .u64 x] 60)).heap.size 60 i0 (.agg #[.int .u64 0, .int .u64 0, .int .u64 0]) 3 24 und_page hi hz0 hz1 hz2 rfl (by decide) _ _ _ rfl Hown3.out ⟨g2, entOf R s * 3, none⟩ _ _ (cellsOf ((pageAt R (pageOf R s)).drop (entOf R s))) rfl Hlen3.out Hsrc3.out Hone3.out q1 q2 q3 ?_; intro v' w4 hown' hgrow hnil; clear hnil; have Hb4 := Lib.hid (Hb3.out.grown hgrow q3 (fun k hk => (Hown3.out.lt k hk).1)); clear hgrow q1 q2 q3 Hsrc3 Hone3 Hlen3 Hown3; clear o0 o1 orp; have o0 := (Hb4.out.cell (p := ⟨bx, 0, none⟩) (by simp; omega)).trans (below_cell (below_box w1 (.cells #[.int .u64 s.t, .int .u64 s.s, .int .u64 x] 60)) n0); have o1 := (Hb4.out.cell (p := ⟨bx, 1, none⟩) (by simp; omega)).trans (below_cell (below_box w1 (.cells #[.int .u64 s.t, .int .u64 s.s, .int .u64 x] 60)) n1); have orp := (Hb4.out.cell (p := ⟨g, pageOf R s, none⟩) (by simp; omega)).trans (below_cell (below_box w1 (.cells #[.int .u64 s.t, .int .u64 s.s, .int .u64 x] 60)) nrp); have hn4 : entOf R s + 1 + ((pageAt R (pageOf R s)).length - entOf R s) = (pageAt R (pageOf R s)).length + 1 := (by omega); rw [hn4] at hown'; obtain ⟨a4, cap5, rfl, hx5, hx6⟩ := owns_shape hown'; have Hown4 := Lib.hid hown'; clear hown' hn4; have hB5 := hB3.trans (Hb4.out.mono hB3.size); have hfr4 : w4.frozen? ⟨g, pageOf R s, none⟩ = false := (by rw [← hfr]; unfold World.frozen?; rw [hB5.block _ hg]))))
    go_ret
    have hlen := mid_len (pageAt R (pageOf R s)) ⟨s, .int .u64 x⟩ hel
    have hput : putR size R s (.int .u64 x) = R.set (pageOf R s) ((pageAt R (pageOf R s)).take (entOf R s) ++ (⟨s, .int .u64 x⟩ :: (pageAt R (pageOf R s)).drop (entOf R s))) := by
      unfold putR
      rw [if_neg (by omega), if_neg (by rw [ht]; decide)]
      simp only [hlen]
      rw [if_pos hfit]
    have hown := Hown4.out
    rw [mid_cells] at hown
    have hend := HM.out.1.swap_end hpl hB5 (u := .slice a4 ((pageAt R (pageOf R s)).length + 1) cap5) (l := (pageAt R (pageOf R s)).take (entOf R s) ++ (⟨s, .int .u64 x⟩ :: (pageAt R (pageOf R s)).drop (entOf R s)))
      ⟨by rw [hlen]; exact owns_base hown fun k _ => Nat.zero_le _, mid_one Hpi.out.one rfl⟩ (fun k hk => by have := (hown.lt k hk).1; simp at this; omega)
    rw [hput]
    exact ⟨rfl, _, _, hend.1, hend.2⟩
end Go.Proofs.Ytagcohpghgnalaa.RF
