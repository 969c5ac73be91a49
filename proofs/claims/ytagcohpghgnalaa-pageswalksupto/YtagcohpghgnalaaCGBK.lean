/-
  Equality of stamps.
-/
import Derived.Laws.StructEq
import Derived.Test.YtagcohpghgnalaaCSM
import Derived.Test.YtagcohpghgnalaaCGB
set_option linter.unusedSimpArgs false
set_option linter.unusedVariables false
namespace Go.Proofs.Ytagcohpghgnalaa.U
open Go.RowKit Go.RG Go.Hp Go.Pg Go.Proofs.Ytagcohpghgnalaa
theorem stamp_fields : Try.prog.fieldsOf 38 = #[Field.mk "Time" 32 0 false "" "" 0, Field.mk "Seq" 32 1 false "" "" 8] := by kernel_rfl
theorem stamp_und : Try.prog.underlying 38 = some (.struct (Try.prog.fieldsOf 38)) := by kernel_rfl
theorem stamp_held : Try.prog.stoodInHeld 38 = false := by kernel_rfl
theorem stamp_guard : Try.prog.eqGuardType Try.prog.depth 38 = false := by kernel_rfl
theorem u64_und : Try.prog.underlying 32 = some (.int .u64) := by kernel_rfl
theorem u64_size : Try.prog.cellsOf 32 = 1 := by kernel_rfl
/-- the comparison of stamps -/
def sEq (a b c d : Int) : Bool := a == c && b == d
theorem equalIn_stamp (a b c d : Int) (w : World) : (Op.equalIn 10000 38 (.agg #[.int .u64 a, .int .u64 b]) (.agg #[.int .u64 c, .int .u64 d])).run Try.prog w = .ok (a == c && b == d) w := by
  rw [show (10000 : Nat) = 9999 + 1 from rfl, run_equalIn_agg w 9999 38 _ _ stamp_und stamp_held, stamp_fields]
  have hz : ∀ w, (sizeOf 32).run Try.prog w = .ok 1 w := fun w => by kernel_rfl
  have he : ∀ (x y : Int) (w : World), (Op.equalIn 9999 32 (.int .u64 x) (.int .u64 y)).run Try.prog w = .ok (x == y) w := fun x y w => run_equalIn_int w 9998 32 .u64 .u64 x y u64_und
  cases h1 : (a == c) <;> by_cases h2 : b = d <;> simp [Op.eqFields, go_sem, hz, he, h1, h2]
theorem eql_stamp (a b c d : Int) (w : World) : (binOp .eql 38 (.agg #[.int .u64 a, .int .u64 b]) (.agg #[.int .u64 c, .int .u64 d])).run Try.prog w = .ok (.bool (sEq a b c d)) w := by
  rw [run_eql_struct, equalIn_stamp]; rfl
theorem neq_stamp (a b c d : Int) (w : World) : (binOp .neq 38 (.agg #[.int .u64 a, .int .u64 b]) (.agg #[.int .u64 c, .int .u64 d])).run Try.prog w = .ok (.bool (!(sEq a b c d))) w := by
  rw [run_neq_struct, equalIn_stamp]; rfl
theorem guard_stamp (op : BinOp) (x y : Operand) (xs ys : Array Value) (w : World) : (eqGuard op 38 x y (.agg xs) (.agg ys)).run Try.prog w = .ok () w := run_eqGuard_agg w op 38 x y xs ys stamp_guard
/-- the comparison, as a word on stamps -/
theorem stamp_beq (a b : St) : sEq a.t a.s b.t b.s = decide (a = b) := by
  unfold sEq
  by_cases h : a = b
  · subst h; simp
  · rw [decide_eq_false h]
    cases h1 : (a.t == b.t) <;> cases h2 : (a.s == b.s) <;> simp
    simp at h1 h2
    exact h (by cases a; cases b; simp_all)
end Go.Proofs.Ytagcohpghgnalaa.U
namespace Go.Proofs.Ytagcohpghgnalaa.BK
open Go.RowKit Go.RG Go.Hp Go.Pg Go.Proofs.Ytagcohpghgnalaa


/-- book.put, by its text: what is still to come, and whether the entry has been laid -/
def putGo (s : St) (x : Value) : List Ent → Bool → List Ent
  | [], true => []
  | [], false => [⟨s, x⟩]
  | e :: r, d => if e.k = s then ⟨s, x⟩ :: putGo s x r true else if d = false ∧ s.lt e.k = true then ⟨s, x⟩ :: e :: putGo s x r true else e :: putGo s x r d
/-- book.remove -/
def remGo (s : St) (p : List Ent) : List Ent := p.filter fun e => !decide (e.k = s)

theorem und_book : Try.prog.underlying 35 = some (.slice 60) := by kernel_rfl
theorem info_Entry : (Try.prog.info? 60).map (fun i => (i.zero, i.size, i.bytes)) = some (some (.agg #[.int .u64 0, .int .u64 0, .int .u64 0]), 3, 24) := by kernel_rfl

theorem drop_cons {p : List Ent} {i : Nat} (h : i < p.length) : p.drop i = ent p i :: p.drop (i + 1) := by
  rw [List.drop_eq_getElem_cons h]
  simp [ent, h]

/-- an entry of a book: its three cells, where the book lies -/
theorem book_cells {w : World} {B n g cap : Nat} {p : List Ent} (h : w.ownsRow B 60 3 (.slice (some ⟨g, 0, none⟩) n cap) n (cellsOf p)) {i : Nat} (hi : i < p.length) :
    w.cell? ⟨g, i * 3, none⟩ = some (.int .u64 (ent p i).k.t) ∧ w.cell? ⟨g, i * 3 + 1, none⟩ = some (.int .u64 (ent p i).k.s) ∧ w.cell? ⟨g, i * 3 + 2, none⟩ = some (ent p i).v := by
  have hl := owns_length h
  rw [length_cellsOf] at hl
  obtain ⟨h1, h2, h3⟩ := cellsOf_get p i hi
  refine ⟨?_, ?_, ?_⟩
  · rw [h.cellAt _ (by omega), h1]
  · rw [h.cellAt _ (by omega), h2]
  · rw [h.cellAt _ (by omega), h3]

theorem src3 (W : World) (a b c : Value) : ∀ (j : Nat) (u : Value), ([a, b, c] : List Value)[j]? = some u → (W.alloc (.cells #[a, b, c] 60)).cell? ((⟨W.heap.size, 0, none⟩ : Addr).add j) = some u := fun j u h => by
  have hr : Row (W.alloc (.cells #[a, b, c] 60)) W.heap.size 60 [a, b, c] := row_new W [a, b, c] 60
  rw [Addr.add_lit, Nat.zero_add, hr.cell]
  exact h

theorem one3 (s : St) (x : Int) : ∀ u ∈ ([.int .u64 s.t, .int .u64 s.s, .int .u64 x] : List Value), u.oneCell' = true := fun u hu => by
  simp only [List.mem_cons, List.not_mem_nil, or_false] at hu
  rcases hu with rfl | rfl | rfl <;> rfl
theorem cells_snoc (p : List Ent) (s : St) (v : Value) : cellsOf p ++ [.int .u64 s.t, .int .u64 s.s, v] = cellsOf (p ++ [⟨s, v⟩]) := by simp [cellsOf, Ent.cells]

set_option maxHeartbeats 2000000 in
set_option maxRecDepth 100000 in
theorem put_book (s : St) (x : Int) (B : Nat) (p : List Ent) (hn : p.length ≤ 274877906944) (hN : ∀ e ∈ p, U.NumV e.v) (bv : Value) (w : World) (hb : w.ownsRow B 60 3 bv p.length (cellsOf p)) :
    Calls Try.prog 40 #[bv, s.v, .int .u64 x] w fun e w' => ∃ v, e = .returned v ∧ w'.ownsRow w.heap.size 60 3 v (putGo s (.int .u64 x) p false).length (cellsOf (putGo s (.int .u64 x) p false)) ∧ Below w.heap.size w w' := by
  obtain ⟨ab, cb, rfl, hcb, hcm⟩ := owns_shape hb
  have Hb := Lib.hid hb; clear hb
  have hB0 := below_box w (.cells #[.int .u64 s.t, .int .u64 s.s] 38)
  have s0 : (w.alloc (.cells #[.int .u64 s.t, .int .u64 s.s] 38)).cell? ⟨w.heap.size, 0, none⟩ = some (.int .u64 s.t) := by simp
  have s1 : (w.alloc (.cells #[.int .u64 s.t, .int .u64 s.s] 38)).cell? ⟨w.heap.size, 1, none⟩ = some (.int .u64 s.s) := by simp
  have hw0 : (w.alloc (.cells #[.int .u64 s.t, .int .u64 s.s] 38)).heap.size = w.heap.size + 1 := by simp
  have hE1 := U.eql_stamp
  have hE2 := U.guard_stamp
  unfold St.v
  obtain ⟨i0, hi, hz0, hz1, hz2⟩ := info_parts info_Entry
  go_enter Try.func40, Try.ntmps40
  go_wp2_with fail
  generalize w.alloc (.cells #[.int .u64 s.t, .int .u64 s.s] 38) = w0 at hB0 s0 s1 hw0 ⊢
  go_loopw [7, 8, 9] (fun vl vd vi wr => ∃ (i : Nat) (acc : List Ent) (dn : Bool) (a : Option Addr) (c : Nat), vi = .int .i64 i ∧ vd = .bool dn ∧ vl = .slice a acc.length c ∧ i ≤ p.length ∧ (acc.length ≤ i + 1 ∧ (dn = false → acc.length ≤ i)) ∧
      acc ++ putGo s (.int .u64 x) (p.drop i) dn = putGo s (.int .u64 x) p false ∧ wr.ownsRow w0.heap.size 60 3 vl acc.length (cellsOf acc) ∧ Below w0.heap.size w0 wr)
    (fun _ _ vi _ => p.length - (intOf vi).toNat)
  case atStart => exact ⟨0, [], false, none, 0, rfl, rfl, rfl, by omega, ⟨by simp, fun _ => by simp⟩, by simp, World.ownsRow_nil _ _ 60 3, Below.refl _ _⟩
  case round =>
    obtain ⟨i, acc, dn, a, c, rfl, rfl, rfl, hin, ⟨hal, hal2⟩, hgo, hown, hB⟩ := hrel
    have Hown := Lib.hid hown; clear hown
    have Hgo := Lib.hid hgo; clear hgo
    by_cases hlt : i < p.length
    · have hii : (i : Int) < (p.length : Int) := by omega
      obtain ⟨g, cap, e1, -, hgl, -⟩ := owns_parts Hb.out (by omega)
      injection e1 with e1 _ f1
      subst e1 f1
      obtain ⟨z0, z1, z2⟩ := book_cells Hb.out hlt
      obtain ⟨num, hnum⟩ := hN (ent p i) (by have : ent p i = p[i] := by simp [ent, hlt]
                                             rw [this]; exact List.getElem_mem _)
      rw [hnum] at z2
      have z0 := (hB.cell (p := ⟨g, i * 3, none⟩) (show g < w0.heap.size by omega)).trans (below_cell hB0 z0)
      have z1 := (hB.cell (p := ⟨g, i * 3 + 1, none⟩) (show g < w0.heap.size by omega)).trans (below_cell hB0 z1)
      have z2 := (hB.cell (p := ⟨g, i * 3 + 2, none⟩) (show g < w0.heap.size by omega)).trans (below_cell hB0 z2)
      have t0 := (hB.cell (p := ⟨w.heap.size, 0, none⟩) (show w.heap.size < w0.heap.size by omega)).trans s0
      have t1 := (hB.cell (p := ⟨w.heap.size, 1, none⟩) (show w.heap.size < w0.heap.size by omega)).trans s1
      have Hdc := Lib.hid (drop_cons hlt)
      go_wp2_with fail
      refine wp_region_rg (fun _ => none) fol (by kernel_rfl) (fun W hW hh => ?_)
      clear hh
      have q0 : ∀ w1, Below W.heap.size W w1 → w1.cell? ⟨g, i * 3, none⟩ = some (.int .u64 (ent p i).k.t) := fun w1 h => below_cell (below_trans hW h) z0
      have q1 : ∀ w1, Below W.heap.size W w1 → w1.cell? ⟨g, i * 3 + 1, none⟩ = some (.int .u64 (ent p i).k.s) := fun w1 h => below_cell (below_trans hW h) z1
      have q2 : ∀ w1, Below W.heap.size W w1 → w1.cell? ⟨w.heap.size, 0, none⟩ = some (.int .u64 s.t) := fun w1 h => below_cell (below_trans hW h) t0
      have q3 : ∀ w1, Below W.heap.size W w1 → w1.cell? ⟨w.heap.size, 1, none⟩ = some (.int .u64 s.s) := fun w1 h => below_cell (below_trans hW h) t1
      repeat (first
        | (refine lex_move _ (by first | exact Or.inl rfl | exact Or.inr rfl) rfl rfl ?_
           simp only [Act.put, Act.eval, Array.getD_eq_getD_getElem?, List.getElem?_toArray, List.getElem?_cons_zero, List.getElem?_cons_succ, Option.getD_some, List.setIfInBounds_toArray, List.set_cons_succ, List.set_cons_zero]
          )
        | (refine lex_float ?_ rfl rfl (fun w1 hb1 hf1 => ?_) ?_
           rotate_left
           (go_simp; (try simp (disch := omega) only [IntWalk.i64_quo, IntWalk.rem_in, IntWalk.i64_in, IntWalk.u64_in, IntWalk.u32_in, IntWalk.u8_in, IntWalk.toNatUp, IntWalk.iteOmega]); (try go_simp); rfl)
           simp only [Act.put, Act.eval, Array.getD_eq_getD_getElem?, List.getElem?_toArray, List.getElem?_cons_zero, List.getElem?_cons_succ, Option.getD_some, List.setIfInBounds_toArray, List.set_cons_succ, List.set_cons_zero]
          )
        | (refine lex_skip rfl ?_
           simp only [Act.put, Act.eval, Array.getD_eq_getD_getElem?, List.getElem?_toArray, List.getElem?_cons_zero, List.getElem?_cons_succ, Option.getD_some, List.setIfInBounds_toArray, List.set_cons_succ, List.set_cons_zero]
          ))
      clear q0 q1 q2 q3
      refine lex_nil ?_
      have z0 := below_cell hW z0
      have z1 := below_cell hW z1
      have z2 := below_cell hW z2
      have t0 := below_cell hW t0
      have t1 := below_cell hW t1
      have Hown := Lib.hid (owns_below Hown.out hW)
      have hB := hB.trans (hW.mono hB.size)
      clear hW
      rw [U.stamp_beq]
      by_cases hs : (ent p i).k = s
      · rw [decide_eq_true hs]
        have Hown1 := Lib.hid (owns_below Hown.out (below_box (W) (.cells #[.int .u64 s.t, .int .u64 s.s, .int .u64 x] 60)))
        have Hsrc1 := Lib.hid (src3 (W) (.int .u64 s.t) (.int .u64 s.s) (.int .u64 x))
        have q1 : acc.length + 1 ≤ maxLen := by unfold maxLen; omega
        have q2 : (acc.length + 1) * 24 ≤ 140737488355328 := by omega
        have q3 : w0.heap.size ≤ ((W).alloc (.cells #[.int .u64 s.t, .int .u64 s.s, .int .u64 x] 60)).heap.size := by have := (hB).size; simp; omega
        have q4 : ∀ u ∈ ([.int .u64 s.t, .int .u64 s.s, .int .u64 x] : List Value), u.oneCell' = true := fun u hu => by
          simp only [List.mem_cons, List.not_mem_nil, or_false] at hu
          rcases hu with rfl | rfl | rfl <;> rfl
        have Q1 := Lib.hid q4; clear q4
        go_wp2_with (at_builtin; go_loud (refine wpList_append_own _ rfl _ _ 35 rfl w0.heap.size 60 i0 (.agg #[.int .u64 0, .int .u64 0, .int .u64 0]) 3 24 und_book hi hz0 hz1 hz2 rfl (by decide) _ _ _ rfl Hown1.out ⟨(W).heap.size, 0, none⟩ 1 1 [.int .u64 s.t, .int .u64 s.s, .int .u64 x] rfl rfl Hsrc1.out Q1.out q1 q2 q3 ?_; intro v' w1 hown' hgrow hnil; clear hnil; have hg1 := (below_box (W) (.cells #[.int .u64 s.t, .int .u64 s.s, .int .u64 x] 60)).mono (hB).size; have Hbg := Lib.hid (hg1.grown hgrow q3 (fun k hk => (Hown1.out.lt k hk).1)); clear hg1 hgrow q1 q2 q3 Hown1 Hsrc1 Q1; obtain ⟨a2, cap3, rfl, hx1, hx2⟩ := owns_shape hown'; have Hown' := Lib.hid hown'; clear hown'))
        refine ⟨⟨i + 1, acc ++ [⟨s, .int .u64 x⟩], true, a2, cap3, rfl, rfl, by simp, by omega, ⟨by simp; omega, fun h => by cases h⟩, ?_, by rw [← cells_snoc, List.length_append]; exact Hown'.out, hB.trans Hbg.out⟩, ?_⟩
        · rw [← Hgo.out, Hdc.out]; simp [putGo, hs]
        · show p.length - (((i : Int) + 1).toNat) < p.length - ((i : Int).toNat)
          omega
      · rw [decide_eq_false hs]
        cases dn
        · go_wp2_with fail
          refine wp_region_rg (fun j => if j = 9 then some (fun v _ => v = .bool (s.lt (ent p i).k)) else none) fol (by kernel_rfl) (fun W2 hW hh => ?_)
          clear hh
          have q0 : ∀ w1, Below W2.heap.size W2 w1 → w1.cell? ⟨g, i * 3, none⟩ = some (.int .u64 (ent p i).k.t) := fun w1 h => below_cell (below_trans hW h) z0
          have q1 : ∀ w1, Below W2.heap.size W2 w1 → w1.cell? ⟨g, i * 3 + 1, none⟩ = some (.int .u64 (ent p i).k.s) := fun w1 h => below_cell (below_trans hW h) z1
          have q2 : ∀ w1, Below W2.heap.size W2 w1 → w1.cell? ⟨w.heap.size, 0, none⟩ = some (.int .u64 s.t) := fun w1 h => below_cell (below_trans hW h) t0
          have q3 : ∀ w1, Below W2.heap.size W2 w1 → w1.cell? ⟨w.heap.size, 1, none⟩ = some (.int .u64 s.s) := fun w1 h => below_cell (below_trans hW h) t1
          repeat (first
            | (refine lex_move _ (by first | exact Or.inl rfl | exact Or.inr rfl) rfl rfl ?_
               simp only [Act.put, Act.eval, Array.getD_eq_getD_getElem?, List.getElem?_toArray, List.getElem?_cons_zero, List.getElem?_cons_succ, Option.getD_some, List.setIfInBounds_toArray, List.set_cons_succ, List.set_cons_zero]
              )
            | (refine lex_float ?_ rfl rfl (fun w1 hb1 hf1 => ?_) ?_
               rotate_left
               (go_simp; (try simp (disch := omega) only [IntWalk.i64_quo, IntWalk.rem_in, IntWalk.i64_in, IntWalk.u64_in, IntWalk.u32_in, IntWalk.u8_in, IntWalk.toNatUp, IntWalk.iteOmega]); (try go_simp); rfl)
               simp only [Act.put, Act.eval, Array.getD_eq_getD_getElem?, List.getElem?_toArray, List.getElem?_cons_zero, List.getElem?_cons_succ, Option.getD_some, List.setIfInBounds_toArray, List.set_cons_succ, List.set_cons_zero]
              )
            | (refine lex_skip rfl ?_
               simp only [Act.put, Act.eval, Array.getD_eq_getD_getElem?, List.getElem?_toArray, List.getElem?_cons_zero, List.getElem?_cons_succ, Option.getD_some, List.setIfInBounds_toArray, List.set_cons_succ, List.set_cons_zero]
              ))
          refine lex_make _ rfl (by exact fun _ _ _ h _ => h) rfl (fun w1 hb1 hf1 => ?_) ?_
          · (unfold makes; go_simp; simp only [makesUpon])
            have hL := less_any s (ent p i).k w1
            unfold St.v at hL
            refine hL.mono ?_
            rintro e w' ⟨rfl, hb⟩
            exact ⟨_, rfl, hb, rfl⟩
          rintro v W3 hW3 rfl
          simp only [Act.put, Act.eval, Array.getD_eq_getD_getElem?, List.getElem?_toArray, List.getElem?_cons_zero, List.getElem?_cons_succ, Option.getD_some, List.setIfInBounds_toArray, List.set_cons_succ, List.set_cons_zero]
          clear q0 q1 q2 q3
          repeat (first
            | (refine lex_move _ (by first | exact Or.inl rfl | exact Or.inr rfl) rfl rfl ?_
               simp only [Act.put, Act.eval, Array.getD_eq_getD_getElem?, List.getElem?_toArray, List.getElem?_cons_zero, List.getElem?_cons_succ, Option.getD_some, List.setIfInBounds_toArray, List.set_cons_succ, List.set_cons_zero]
              )
            | (refine lex_float ?_ rfl rfl (fun w1 hb1 hf1 => ?_) ?_
               rotate_left
               (go_simp; (try simp (disch := omega) only [IntWalk.i64_quo, IntWalk.rem_in, IntWalk.i64_in, IntWalk.u64_in, IntWalk.u32_in, IntWalk.u8_in, IntWalk.toNatUp, IntWalk.iteOmega]); (try go_simp); rfl)
               simp only [Act.put, Act.eval, Array.getD_eq_getD_getElem?, List.getElem?_toArray, List.getElem?_cons_zero, List.getElem?_cons_succ, Option.getD_some, List.setIfInBounds_toArray, List.set_cons_succ, List.set_cons_zero]
              )
            | (refine lex_skip rfl ?_
               simp only [Act.put, Act.eval, Array.getD_eq_getD_getElem?, List.getElem?_toArray, List.getElem?_cons_zero, List.getElem?_cons_succ, Option.getD_some, List.setIfInBounds_toArray, List.set_cons_succ, List.set_cons_zero]
              ))
          refine lex_nil ?_
          have hW4 := below_trans hW hW3
          have z0 := below_cell hW4 z0
          have z1 := below_cell hW4 z1
          have z2 := below_cell hW4 z2
          have t0 := below_cell hW4 t0
          have t1 := below_cell hW4 t1
          have Hown := Lib.hid (owns_below Hown.out hW4)
          have hB := hB.trans (hW4.mono hB.size)
          clear hW hW3 hW4
          cases hl : s.lt (ent p i).k
          · have Hown1 := Lib.hid (owns_below Hown.out (below_box (W3) (.cells #[.int .u64 (ent p i).k.t, .int .u64 (ent p i).k.s, .int .u64 num] 60)))
            have Hsrc1 := Lib.hid (src3 (W3) (.int .u64 (ent p i).k.t) (.int .u64 (ent p i).k.s) (.int .u64 num))
            have q1 : acc.length + 1 ≤ maxLen := by unfold maxLen; omega
            have q2 : (acc.length + 1) * 24 ≤ 140737488355328 := by omega
            have q3 : w0.heap.size ≤ ((W3).alloc (.cells #[.int .u64 (ent p i).k.t, .int .u64 (ent p i).k.s, .int .u64 num] 60)).heap.size := by have := (hB).size; simp; omega
            have q4 : ∀ u ∈ ([.int .u64 (ent p i).k.t, .int .u64 (ent p i).k.s, .int .u64 num] : List Value), u.oneCell' = true := fun u hu => by
              simp only [List.mem_cons, List.not_mem_nil, or_false] at hu
              rcases hu with rfl | rfl | rfl <;> rfl
            have Q1 := Lib.hid q4; clear q4
            go_wp2_with (at_builtin; go_loud (refine wpList_append_own _ rfl _ _ 35 rfl w0.heap.size 60 i0 (.agg #[.int .u64 0, .int .u64 0, .int .u64 0]) 3 24 und_book hi hz0 hz1 hz2 rfl (by decide) _ _ _ rfl Hown1.out ⟨(W3).heap.size, 0, none⟩ 1 1 [.int .u64 (ent p i).k.t, .int .u64 (ent p i).k.s, .int .u64 num] rfl rfl Hsrc1.out Q1.out q1 q2 q3 ?_; intro v' w1 hown' hgrow hnil; clear hnil; have hg1 := (below_box (W3) (.cells #[.int .u64 (ent p i).k.t, .int .u64 (ent p i).k.s, .int .u64 num] 60)).mono (hB).size; have Hbg := Lib.hid (hg1.grown hgrow q3 (fun k hk => (Hown1.out.lt k hk).1)); clear hg1 hgrow q1 q2 q3 Hown1 Hsrc1 Q1; obtain ⟨a2, cap3, rfl, hx1, hx2⟩ := owns_shape hown'; have Hown' := Lib.hid hown'; clear hown'))
            refine ⟨⟨i + 1, acc ++ [ent p i], false, a2, cap3, rfl, rfl, by simp, by omega, ⟨by simp; omega, fun _ => by have := hal2 (by trivial); simp; omega⟩, ?_, ?_, hB.trans Hbg.out⟩, ?_⟩
            · rw [← Hgo.out, Hdc.out]; simp [putGo, hs, hl]
            · have := Hown'.out
              rw [← hnum, cells_snoc] at this
              rw [List.length_append]; exact this
            · show p.length - (((i : Int) + 1).toNat) < p.length - ((i : Int).toNat)
              omega
          · have Hown1 := Lib.hid (owns_below Hown.out (below_box (W3) (.cells #[.int .u64 s.t, .int .u64 s.s, .int .u64 x] 60)))
            have Hsrc1 := Lib.hid (src3 (W3) (.int .u64 s.t) (.int .u64 s.s) (.int .u64 x))
            have q1 : acc.length + 1 ≤ maxLen := by unfold maxLen; omega
            have q2 : (acc.length + 1) * 24 ≤ 140737488355328 := by omega
            have q3 : w0.heap.size ≤ ((W3).alloc (.cells #[.int .u64 s.t, .int .u64 s.s, .int .u64 x] 60)).heap.size := by have := (hB).size; simp; omega
            have q4 : ∀ u ∈ ([.int .u64 s.t, .int .u64 s.s, .int .u64 x] : List Value), u.oneCell' = true := fun u hu => by
              simp only [List.mem_cons, List.not_mem_nil, or_false] at hu
              rcases hu with rfl | rfl | rfl <;> rfl
            have Q1 := Lib.hid q4; clear q4
            go_wp2_with (at_builtin; first | (refine wpList_append_own _ rfl _ _ 35 rfl w0.heap.size 60 i0 (.agg #[.int .u64 0, .int .u64 0, .int .u64 0]) 3 24 und_book hi hz0 hz1 hz2 rfl (by decide) _ _ _ rfl Hown1.out ⟨(W3).heap.size, 0, none⟩ 1 1 [.int .u64 s.t, .int .u64 s.s, .int .u64 x] rfl rfl Hsrc1.out Q1.out q1 q2 q3 ?_; intro v' w1 hown' hgrow hnil; clear hnil; have hg1 := (below_box (W3) (.cells #[.int .u64 s.t, .int .u64 s.s, .int .u64 x] 60)).mono (hB).size; have Hbg := Lib.hid (hg1.grown hgrow q3 (fun k hk => (Hown1.out.lt k hk).1)); clear hg1 hgrow q1 q2 q3 Hown1 Hsrc1 Q1; obtain ⟨a2, cap3, rfl, hx1, hx2⟩ := owns_shape hown'; have Hown' := Lib.hid hown'; clear hown'; have z0 := (Hbg.out.cell (p := ⟨g, i * 3, none⟩) (show g < w0.heap.size by omega)).trans z0; have z1 := (Hbg.out.cell (p := ⟨g, i * 3 + 1, none⟩) (show g < w0.heap.size by omega)).trans z1; have z2 := (Hbg.out.cell (p := ⟨g, i * 3 + 2, none⟩) (show g < w0.heap.size by omega)).trans z2; have Hown2 := Lib.hid (owns_below Hown'.out (below_box w1 (.cells #[.int .u64 (ent p i).k.t, .int .u64 (ent p i).k.s, .int .u64 num] 60))); have Hsrc2 := Lib.hid (src3 w1 (.int .u64 (ent p i).k.t) (.int .u64 (ent p i).k.s) (.int .u64 num)); have q5 : acc.length + 1 + 1 ≤ maxLen := (by unfold maxLen; omega); have q6 : (acc.length + 1 + 1) * 24 ≤ 140737488355328 := (by omega); have q7 : w0.heap.size ≤ (w1.alloc (.cells #[.int .u64 (ent p i).k.t, .int .u64 (ent p i).k.s, .int .u64 num] 60)).heap.size := (by have := Hbg.out.size; have := (hB).size; simp; omega); have Q2 := Lib.hid (one3 (ent p i).k num)) | (go_loud (refine wpList_append_own _ rfl _ _ 35 rfl w0.heap.size 60 i0 (.agg #[.int .u64 0, .int .u64 0, .int .u64 0]) 3 24 und_book hi hz0 hz1 hz2 rfl (by decide) _ _ _ rfl Hown2.out ⟨w1.heap.size, 0, none⟩ 1 1 [.int .u64 (ent p i).k.t, .int .u64 (ent p i).k.s, .int .u64 num] rfl rfl Hsrc2.out Q2.out q5 q6 q7 ?_; intro v2 w2 hown2' hgrow2 hnil2; clear hnil2; have hg2 := (below_box w1 (.cells #[.int .u64 (ent p i).k.t, .int .u64 (ent p i).k.s, .int .u64 num] 60)).mono (Nat.le_trans (hB).size Hbg.out.size); have Hbg2 := Lib.hid (hg2.grown hgrow2 q7 (fun k hk => (Hown2.out.lt k hk).1)); clear hg2 hgrow2 q5 q6 q7 Hown2 Hsrc2 Q2; obtain ⟨a3, cap4, rfl, hx3, hx4⟩ := owns_shape hown2'; have Hown2' := Lib.hid hown2'; clear hown2')))
            refine ⟨⟨i + 1, acc ++ [⟨s, .int .u64 x⟩] ++ [ent p i], true, a3, cap4, rfl, rfl, by simp, by omega, ⟨by have := hal2 (by trivial); simp; omega, fun h => by cases h⟩, ?_, ?_, (hB.trans Hbg.out).trans Hbg2.out⟩, ?_⟩
            · rw [← Hgo.out, Hdc.out]; simp [putGo, hs, hl]
            · have := Hown2'.out
              rw [← hnum, cells_snoc, cells_snoc] at this
              rw [List.length_append, List.length_append]; exact this
            · show p.length - (((i : Int) + 1).toNat) < p.length - ((i : Int).toNat)
              omega
        · go_wp2_with fail
          refine wp_region_rg (fun i => if i = 9 then some (fun v _ => True) else none) fol (by kernel_rfl) (fun W3 hW hh => ?_)
          clear hh
          repeat (first
            | (refine lex_move _ (by first | exact Or.inl rfl | exact Or.inr rfl) rfl rfl ?_
               simp only [Act.put, Act.eval, Array.getD_eq_getD_getElem?, List.getElem?_toArray, List.getElem?_cons_zero, List.getElem?_cons_succ, Option.getD_some, List.setIfInBounds_toArray, List.set_cons_succ, List.set_cons_zero]
              )
            | (refine lex_float ?_ rfl rfl (fun w1 hb1 hf1 => ?_) ?_
               rotate_left
               (go_simp; (try simp (disch := omega) only [IntWalk.i64_quo, IntWalk.rem_in, IntWalk.i64_in, IntWalk.u64_in, IntWalk.u32_in, IntWalk.u8_in, IntWalk.toNatUp, IntWalk.iteOmega]); (try go_simp); rfl)
               simp only [Act.put, Act.eval, Array.getD_eq_getD_getElem?, List.getElem?_toArray, List.getElem?_cons_zero, List.getElem?_cons_succ, Option.getD_some, List.setIfInBounds_toArray, List.set_cons_succ, List.set_cons_zero]
              )
            | (refine lex_skip rfl ?_
               simp only [Act.put, Act.eval, Array.getD_eq_getD_getElem?, List.getElem?_toArray, List.getElem?_cons_zero, List.getElem?_cons_succ, Option.getD_some, List.setIfInBounds_toArray, List.set_cons_succ, List.set_cons_zero]
              ))
          refine lex_nil ?_
          have z0 := below_cell hW z0
          have z1 := below_cell hW z1
          have z2 := below_cell hW z2
          have t0 := below_cell hW t0
          have t1 := below_cell hW t1
          have Hown := Lib.hid (owns_below Hown.out hW)
          have hB := hB.trans (hW.mono hB.size)
          clear hW
          have Hown1 := Lib.hid (owns_below Hown.out (below_box (W3) (.cells #[.int .u64 (ent p i).k.t, .int .u64 (ent p i).k.s, .int .u64 num] 60)))
          have Hsrc1 := Lib.hid (src3 (W3) (.int .u64 (ent p i).k.t) (.int .u64 (ent p i).k.s) (.int .u64 num))
          have q1 : acc.length + 1 ≤ maxLen := by unfold maxLen; omega
          have q2 : (acc.length + 1) * 24 ≤ 140737488355328 := by omega
          have q3 : w0.heap.size ≤ ((W3).alloc (.cells #[.int .u64 (ent p i).k.t, .int .u64 (ent p i).k.s, .int .u64 num] 60)).heap.size := by have := (hB).size; simp; omega
          have q4 : ∀ u ∈ ([.int .u64 (ent p i).k.t, .int .u64 (ent p i).k.s, .int .u64 num] : List Value), u.oneCell' = true := fun u hu => by
            simp only [List.mem_cons, List.not_mem_nil, or_false] at hu
            rcases hu with rfl | rfl | rfl <;> rfl
          have Q1 := Lib.hid q4; clear q4
          go_wp2_with (at_builtin; go_loud (refine wpList_append_own _ rfl _ _ 35 rfl w0.heap.size 60 i0 (.agg #[.int .u64 0, .int .u64 0, .int .u64 0]) 3 24 und_book hi hz0 hz1 hz2 rfl (by decide) _ _ _ rfl Hown1.out ⟨(W3).heap.size, 0, none⟩ 1 1 [.int .u64 (ent p i).k.t, .int .u64 (ent p i).k.s, .int .u64 num] rfl rfl Hsrc1.out Q1.out q1 q2 q3 ?_; intro v' w1 hown' hgrow hnil; clear hnil; have hg1 := (below_box (W3) (.cells #[.int .u64 (ent p i).k.t, .int .u64 (ent p i).k.s, .int .u64 num] 60)).mono (hB).size; have Hbg := Lib.hid (hg1.grown hgrow q3 (fun k hk => (Hown1.out.lt k hk).1)); clear hg1 hgrow q1 q2 q3 Hown1 Hsrc1 Q1; obtain ⟨a2, cap3, rfl, hx1, hx2⟩ := owns_shape hown'; have Hown' := Lib.hid hown'; clear hown'))
          refine ⟨⟨i + 1, acc ++ [ent p i], true, a2, cap3, rfl, rfl, by simp, by omega, ⟨by simp; omega, fun h => by cases h⟩, ?_, ?_, hB.trans Hbg.out⟩, ?_⟩
          · rw [← Hgo.out, Hdc.out]; simp [putGo, hs]
          · have := Hown'.out
            rw [← hnum, cells_snoc] at this
            rw [List.length_append]; exact this
          · show p.length - (((i : Int) + 1).toNat) < p.length - ((i : Int).toNat)
            omega
    · obtain rfl : i = p.length := by omega
      have hgo := Hgo.out
      rw [List.drop_length] at hgo
      cases dn
      · have t0 := (hB.cell (p := ⟨w.heap.size, 0, none⟩) (show w.heap.size < w0.heap.size by omega)).trans s0
        have t1 := (hB.cell (p := ⟨w.heap.size, 1, none⟩) (show w.heap.size < w0.heap.size by omega)).trans s1
        have Hown1 := Lib.hid (owns_below Hown.out (below_box (wr) (.cells #[.int .u64 s.t, .int .u64 s.s, .int .u64 x] 60)))
        have Hsrc1 := Lib.hid (src3 (wr) (.int .u64 s.t) (.int .u64 s.s) (.int .u64 x))
        have q1 : acc.length + 1 ≤ maxLen := by unfold maxLen; omega
        have q2 : (acc.length + 1) * 24 ≤ 140737488355328 := by omega
        have q3 : w0.heap.size ≤ ((wr).alloc (.cells #[.int .u64 s.t, .int .u64 s.s, .int .u64 x] 60)).heap.size := by have := (hB).size; simp; omega
        have q4 : ∀ u ∈ ([.int .u64 s.t, .int .u64 s.s, .int .u64 x] : List Value), u.oneCell' = true := fun u hu => by
          simp only [List.mem_cons, List.not_mem_nil, or_false] at hu
          rcases hu with rfl | rfl | rfl <;> rfl
        have Q1 := Lib.hid q4; clear q4
        go_wp2_with (at_builtin; go_loud (refine wpList_append_own _ rfl _ _ 35 rfl w0.heap.size 60 i0 (.agg #[.int .u64 0, .int .u64 0, .int .u64 0]) 3 24 und_book hi hz0 hz1 hz2 rfl (by decide) _ _ _ rfl Hown1.out ⟨(wr).heap.size, 0, none⟩ 1 1 [.int .u64 s.t, .int .u64 s.s, .int .u64 x] rfl rfl Hsrc1.out Q1.out q1 q2 q3 ?_; intro v' w1 hown' hgrow hnil; clear hnil; have hg1 := (below_box (wr) (.cells #[.int .u64 s.t, .int .u64 s.s, .int .u64 x] 60)).mono (hB).size; have Hbg := Lib.hid (hg1.grown hgrow q3 (fun k hk => (Hown1.out.lt k hk).1)); clear hg1 hgrow q1 q2 q3 Hown1 Hsrc1 Q1; obtain ⟨a2, cap3, rfl, hx1, hx2⟩ := owns_shape hown'; have Hown' := Lib.hid hown'; clear hown'))
        go_ret
        refine ⟨_, rfl, ?_, hB0.trans ((hB.trans Hbg.out).mono hB0.size)⟩
        have h9 := owns_base Hown'.out (base' := w.heap.size) fun k hk => Nat.le_trans hB0.size (Hown'.out.lt k hk).1
        rw [cells_snoc] at h9
        have e9 : putGo s (.int .u64 x) p false = acc ++ [⟨s, .int .u64 x⟩] := by rw [← hgo]; simp [putGo]
        rw [e9, List.length_append]
        exact h9
      · go_wp2_with fail
        go_ret
        refine ⟨_, rfl, ?_, hB0.trans (hB.mono hB0.size)⟩
        have h9 := owns_base Hown.out (base' := w.heap.size) fun k hk => Nat.le_trans hB0.size (Hown.out.lt k hk).1
        have e9 : putGo s (.int .u64 x) p false = acc := by rw [← hgo]; simp [putGo]
        rw [e9]
        exact h9

theorem remGo_cons (s : St) (e : Ent) (r : List Ent) : remGo s (e :: r) = if e.k = s then remGo s r else e :: remGo s r := by
  by_cases h : e.k = s <;> simp [remGo, h]

set_option maxHeartbeats 2000000 in
set_option maxRecDepth 100000 in
theorem remove_book (s : St) (B : Nat) (p : List Ent) (hn : p.length ≤ 274877906944) (hN : ∀ e ∈ p, U.NumV e.v) (bv : Value) (w : World) (hb : w.ownsRow B 60 3 bv p.length (cellsOf p)) :
    Calls Try.prog 39 #[bv, s.v] w fun e w' => ∃ v, e = .returned v ∧ w'.ownsRow w.heap.size 60 3 v (remGo s p).length (cellsOf (remGo s p)) ∧ Below w.heap.size w w' := by
  obtain ⟨ab, cb, rfl, hcb, hcm⟩ := owns_shape hb
  have Hb := Lib.hid hb; clear hb
  have hB0 := below_box w (.cells #[.int .u64 s.t, .int .u64 s.s] 38)
  have s0 : (w.alloc (.cells #[.int .u64 s.t, .int .u64 s.s] 38)).cell? ⟨w.heap.size, 0, none⟩ = some (.int .u64 s.t) := by simp
  have s1 : (w.alloc (.cells #[.int .u64 s.t, .int .u64 s.s] 38)).cell? ⟨w.heap.size, 1, none⟩ = some (.int .u64 s.s) := by simp
  have hw0 : (w.alloc (.cells #[.int .u64 s.t, .int .u64 s.s] 38)).heap.size = w.heap.size + 1 := by simp
  have hE1 := U.neq_stamp
  have hE2 := U.guard_stamp
  unfold St.v
  obtain ⟨i0, hi, hz0, hz1, hz2⟩ := info_parts info_Entry
  go_enter Try.func39, Try.ntmps39
  go_wp2_with fail
  generalize w.alloc (.cells #[.int .u64 s.t, .int .u64 s.s] 38) = w0 at hB0 s0 s1 hw0 ⊢
  go_loopw [5, 6] (fun vl vi wr => ∃ (i : Nat) (acc : List Ent) (a : Option Addr) (c : Nat), vi = .int .i64 i ∧ vl = .slice a acc.length c ∧ i ≤ p.length ∧ acc.length ≤ i ∧
      acc ++ remGo s (p.drop i) = remGo s p ∧ wr.ownsRow w0.heap.size 60 3 vl acc.length (cellsOf acc) ∧ Below w0.heap.size w0 wr)
    (fun _ vi _ => p.length - (intOf vi).toNat)
  case atStart => exact ⟨0, [], none, 0, rfl, rfl, by omega, by simp, by simp, World.ownsRow_nil _ _ 60 3, Below.refl _ _⟩
  case round =>
    obtain ⟨i, acc, a, c, rfl, rfl, hin, hal, hgo, hown, hB⟩ := hrel
    have Hown := Lib.hid hown; clear hown
    have Hgo := Lib.hid hgo; clear hgo
    by_cases hlt : i < p.length
    · have hii : (i : Int) < (p.length : Int) := by omega
      obtain ⟨g, cap, e1, -, hgl, -⟩ := owns_parts Hb.out (by omega)
      injection e1 with e1 _ f1
      subst e1 f1
      obtain ⟨z0, z1, z2⟩ := book_cells Hb.out hlt
      obtain ⟨num, hnum⟩ := hN (ent p i) (by have : ent p i = p[i] := by simp [ent, hlt]
                                             rw [this]; exact List.getElem_mem _)
      rw [hnum] at z2
      have z0 := (hB.cell (p := ⟨g, i * 3, none⟩) (show g < w0.heap.size by omega)).trans (below_cell hB0 z0)
      have z1 := (hB.cell (p := ⟨g, i * 3 + 1, none⟩) (show g < w0.heap.size by omega)).trans (below_cell hB0 z1)
      have z2 := (hB.cell (p := ⟨g, i * 3 + 2, none⟩) (show g < w0.heap.size by omega)).trans (below_cell hB0 z2)
      have t0 := (hB.cell (p := ⟨w.heap.size, 0, none⟩) (show w.heap.size < w0.heap.size by omega)).trans s0
      have t1 := (hB.cell (p := ⟨w.heap.size, 1, none⟩) (show w.heap.size < w0.heap.size by omega)).trans s1
      have Hdc := Lib.hid (drop_cons hlt)
      go_wp2_with fail
      refine wp_region_rg (fun _ => none) fol (by kernel_rfl) (fun W hW hh => ?_)
      clear hh
      have q0 : ∀ w1, Below W.heap.size W w1 → w1.cell? ⟨g, i * 3, none⟩ = some (.int .u64 (ent p i).k.t) := fun w1 h => below_cell (below_trans hW h) z0
      have q1 : ∀ w1, Below W.heap.size W w1 → w1.cell? ⟨g, i * 3 + 1, none⟩ = some (.int .u64 (ent p i).k.s) := fun w1 h => below_cell (below_trans hW h) z1
      have q2 : ∀ w1, Below W.heap.size W w1 → w1.cell? ⟨w.heap.size, 0, none⟩ = some (.int .u64 s.t) := fun w1 h => below_cell (below_trans hW h) t0
      have q3 : ∀ w1, Below W.heap.size W w1 → w1.cell? ⟨w.heap.size, 1, none⟩ = some (.int .u64 s.s) := fun w1 h => below_cell (below_trans hW h) t1
      repeat (first
        | (refine lex_move _ (by first | exact Or.inl rfl | exact Or.inr rfl) rfl rfl ?_
           simp only [Act.put, Act.eval, Array.getD_eq_getD_getElem?, List.getElem?_toArray, List.getElem?_cons_zero, List.getElem?_cons_succ, Option.getD_some, List.setIfInBounds_toArray, List.set_cons_succ, List.set_cons_zero]
          )
        | (refine lex_float ?_ rfl rfl (fun w1 hb1 hf1 => ?_) ?_
           rotate_left
           (go_simp; (try simp (disch := omega) only [IntWalk.i64_quo, IntWalk.rem_in, IntWalk.i64_in, IntWalk.u64_in, IntWalk.u32_in, IntWalk.u8_in, IntWalk.toNatUp, IntWalk.iteOmega]); (try go_simp); rfl)
           simp only [Act.put, Act.eval, Array.getD_eq_getD_getElem?, List.getElem?_toArray, List.getElem?_cons_zero, List.getElem?_cons_succ, Option.getD_some, List.setIfInBounds_toArray, List.set_cons_succ, List.set_cons_zero]
          )
        | (refine lex_skip rfl ?_
           simp only [Act.put, Act.eval, Array.getD_eq_getD_getElem?, List.getElem?_toArray, List.getElem?_cons_zero, List.getElem?_cons_succ, Option.getD_some, List.setIfInBounds_toArray, List.set_cons_succ, List.set_cons_zero]
          ))
      clear q0 q1 q2 q3
      refine lex_nil ?_
      have z0 := below_cell hW z0
      have z1 := below_cell hW z1
      have z2 := below_cell hW z2
      have t0 := below_cell hW t0
      have t1 := below_cell hW t1
      have Hown := Lib.hid (owns_below Hown.out hW)
      have hB := hB.trans (hW.mono hB.size)
      clear hW
      rw [U.stamp_beq]
      by_cases hs : (ent p i).k = s
      · rw [decide_eq_true hs]
        go_wp2_with fail
        refine ⟨⟨i + 1, acc, a, c, rfl, rfl, by omega, by omega, ?_, Hown.out, hB⟩, ?_⟩
        · rw [← Hgo.out, Hdc.out, remGo_cons, if_pos hs]
        · show p.length - (((i : Int) + 1).toNat) < p.length - ((i : Int).toNat)
          omega
      · rw [decide_eq_false hs]
        have Hown1 := Lib.hid (owns_below Hown.out (below_box (W) (.cells #[.int .u64 (ent p i).k.t, .int .u64 (ent p i).k.s, .int .u64 num] 60)))
        have Hsrc1 := Lib.hid (src3 (W) (.int .u64 (ent p i).k.t) (.int .u64 (ent p i).k.s) (.int .u64 num))
        have q1 : acc.length + 1 ≤ maxLen := by unfold maxLen; omega
        have q2 : (acc.length + 1) * 24 ≤ 140737488355328 := by omega
        have q3 : w0.heap.size ≤ ((W).alloc (.cells #[.int .u64 (ent p i).k.t, .int .u64 (ent p i).k.s, .int .u64 num] 60)).heap.size := by have := (hB).size; simp; omega
        have q4 : ∀ u ∈ ([.int .u64 (ent p i).k.t, .int .u64 (ent p i).k.s, .int .u64 num] : List Value), u.oneCell' = true := fun u hu => by
          simp only [List.mem_cons, List.not_mem_nil, or_false] at hu
          rcases hu with rfl | rfl | rfl <;> rfl
        have Q1 := Lib.hid q4; clear q4
        go_wp2_with (at_builtin; go_loud (refine wpList_append_own _ rfl _ _ 35 rfl w0.heap.size 60 i0 (.agg #[.int .u64 0, .int .u64 0, .int .u64 0]) 3 24 und_book hi hz0 hz1 hz2 rfl (by decide) _ _ _ rfl Hown1.out ⟨(W).heap.size, 0, none⟩ 1 1 [.int .u64 (ent p i).k.t, .int .u64 (ent p i).k.s, .int .u64 num] rfl rfl Hsrc1.out Q1.out q1 q2 q3 ?_; intro v' w1 hown' hgrow hnil; clear hnil; have hg1 := (below_box (W) (.cells #[.int .u64 (ent p i).k.t, .int .u64 (ent p i).k.s, .int .u64 num] 60)).mono (hB).size; have Hbg := Lib.hid (hg1.grown hgrow q3 (fun k hk => (Hown1.out.lt k hk).1)); clear hg1 hgrow q1 q2 q3 Hown1 Hsrc1 Q1; obtain ⟨a2, cap3, rfl, hx1, hx2⟩ := owns_shape hown'; have Hown' := Lib.hid hown'; clear hown'))
        refine ⟨⟨i + 1, acc ++ [ent p i], a2, cap3, rfl, by simp, by omega, by simp; omega, ?_, ?_, hB.trans Hbg.out⟩, ?_⟩
        · rw [← Hgo.out, Hdc.out, remGo_cons, if_neg hs]; simp
        · have := Hown'.out
          rw [← hnum, cells_snoc] at this
          rw [List.length_append]; exact this
        · show p.length - (((i : Int) + 1).toNat) < p.length - ((i : Int).toNat)
          omega
    · obtain rfl : i = p.length := by omega
      have hgo := Hgo.out
      rw [List.drop_length] at hgo
      go_wp2_with fail
      go_ret
      refine ⟨_, rfl, ?_, hB0.trans (hB.mono hB0.size)⟩
      have h9 := owns_base Hown.out (base' := w.heap.size) fun k hk => Nat.le_trans hB0.size (Hown.out.lt k hk).1
      have e9 : remGo s p = acc := by rw [← hgo]; simp [remGo]
      rw [e9]
      exact h9
end Go.Proofs.Ytagcohpghgnalaa.BK
namespace Go.Proofs.Ytagcohpghgnalaa.BK
open Go.RowKit Go.RG Go.Hp Go.Pg Go.Proofs.Ytagcohpghgnalaa

theorem putGo_true {s : St} {x : Value} : ∀ {C : List Ent}, (∀ e ∈ C, e.k ≠ s) → putGo s x C true = C
  | [], _ => rfl
  | e :: r, h => by
    have h1 : e.k ≠ s := h e (by simp)
    have h2 : putGo s x r true = r := putGo_true fun e' he => h e' (List.mem_cons_of_mem _ he)
    simp [putGo, h1, h2]
theorem lt_ne {a b : St} (h : a.lt b = true) : a ≠ b := by rintro rfl; rw [St.lt_irrefl] at h; cases h
theorem putGo_ahead {s : St} {x : Value} (C : List Ent) : ∀ {A : List Ent}, (∀ e ∈ A, e.k.lt s = true) → putGo s x (A ++ C) false = A ++ putGo s x C false
  | [], _ => rfl
  | e :: r, h => by
    have h1 := h e (by simp)
    have h2 := lt_ne h1
    have h3 := St.lt_asymm h1
    have h4 : putGo s x (r ++ C) false = r ++ putGo s x C false := putGo_ahead C fun e' he => h e' (List.mem_cons_of_mem _ he)
    simp [putGo, h2, h3, h4]
theorem putGo_behind {s : St} {x : Value} {C : List Ent} (h : ∀ e ∈ C, s.lt e.k = true) : putGo s x C false = ⟨s, x⟩ :: C := by
  cases C with
  | nil => rfl
  | cons e r =>
    have h1 := h e (by simp)
    have h2 := (lt_ne h1).symm
    have h3 := putGo_true (x := x) (fun e' he => (lt_ne (h e' (by simp [he]))).symm : ∀ e' ∈ r, e'.k ≠ s)
    simp [putGo, h1, h2, h3]
theorem put_flat {size : Nat} {R : List (List Ent)} (hG : Pg.Good size R) (s : St) (x : Value) : putGo s x R.flatten false = (putR size R s x).flatten := by
  rcases Nat.eq_zero_or_pos R.length with h0 | hR
  · obtain rfl := List.eq_nil_of_length_eq_zero h0
    rfl
  · cases ht : there R s
    · rw [flat_put_new s x hR ht, flat_parts s hR, putGo_ahead _ (ahead_lt hG hR s), putGo_behind (behind_gt hG hR s ht)]
    · obtain ⟨e, he, -, hb⟩ := behind_rest ht
      have hr := hG.rise
      rw [flat_parts s hR, hb] at hr
      have hgt : ∀ e' ∈ rest' R s, e'.k ≠ s := fun e' h' => by
        have := (rising_part hr).2.2 e' h'
        rw [he] at this
        exact (lt_ne this).symm
      rw [flat_put_there s x hR ht, flat_parts s hR, hb, putGo_ahead _ (ahead_lt hG hR s)]
      simp [putGo, he, putGo_true hgt]
theorem remGo_keep {s : St} {C : List Ent} (h : ∀ e ∈ C, e.k ≠ s) : remGo s C = C := by
  unfold remGo
  rw [List.filter_eq_self]
  intro e he
  simp [h e he]
theorem remGo_append (s : St) (A C : List Ent) : remGo s (A ++ C) = remGo s A ++ remGo s C := by simp [remGo]
theorem rem_flat {size : Nat} {R : List (List Ent)} (hG : Pg.Good size R) (s : St) : remGo s R.flatten = (removeR size R s).flatten := by
  rcases Nat.eq_zero_or_pos R.length with h0 | hR
  · obtain rfl := List.eq_nil_of_length_eq_zero h0
    rfl
  · have hA : ∀ e ∈ ahead' R s, e.k ≠ s := fun e he => lt_ne (ahead_lt hG hR s e he)
    cases ht : there R s
    · have e : removeR size R s = R := by unfold removeR; rw [if_neg (by rw [ht]; decide)]
      rw [e, flat_parts s hR, remGo_append, remGo_keep hA, remGo_keep (fun e he => (lt_ne (behind_gt hG hR s ht e he)).symm)]
    · obtain ⟨e, he, -, hb⟩ := behind_rest ht
      have hr := hG.rise
      rw [flat_parts s hR, hb] at hr
      have hgt : ∀ e' ∈ rest' R s, e'.k ≠ s := fun e' h' => by
        have := (rising_part hr).2.2 e' h'
        rw [he] at this
        exact (lt_ne this).symm
      rw [flat_remove s hR ht, flat_parts s hR, hb, remGo_append, remGo_keep hA, remGo_cons, if_pos he, remGo_keep hgt]
theorem putGo_length (s : St) (x : Value) : ∀ (p : List Ent) (d : Bool), (putGo s x p d).length ≤ p.length + (if d then 0 else 1)
  | [], true => by simp [putGo]
  | [], false => by simp [putGo]
  | e :: r, d => by
    have h1 := putGo_length s x r true
    have h2 := putGo_length s x r d
    simp only [if_true] at h1
    unfold putGo
    split
    · simp only [List.length_cons]; omega
    · split
      · rename_i h
        simp only [List.length_cons, h.1, Bool.false_eq_true, if_false]; omega
      · simp only [List.length_cons]; omega
theorem remGo_length (s : St) (p : List Ent) : (remGo s p).length ≤ p.length := List.length_filter_le _ _
theorem putGo_num {s : St} {x : Int} : ∀ {p : List Ent} {d : Bool}, (∀ e ∈ p, U.NumV e.v) → ∀ e ∈ putGo s (.int .u64 x) p d, U.NumV e.v
  | [], true, _, e, h => by simp [putGo] at h
  | [], false, _, e, h => by
    simp [putGo] at h
    exact ⟨x, by rw [h]⟩
  | e0 :: r, d, hp, e, h => by
    have hr := fun e he => hp e (List.mem_cons_of_mem e0 he)
    have h0 := hp e0 (List.mem_cons_self ..)
    unfold putGo at h
    split at h
    · rcases List.mem_cons.1 h with rfl | h
      · exact ⟨x, rfl⟩
      · exact putGo_num hr e h
    · split at h
      · rcases List.mem_cons.1 h with rfl | h
        · exact ⟨x, rfl⟩
        · rcases List.mem_cons.1 h with rfl | h
          · exact h0
          · exact putGo_num hr e h
      · rcases List.mem_cons.1 h with rfl | h
        · exact h0
        · exact putGo_num hr e h
theorem remGo_num {s : St} {p : List Ent} (hp : ∀ e ∈ p, U.NumV e.v) : ∀ e ∈ remGo s p, U.NumV e.v := fun e h => hp e (List.mem_filter.1 h).1
end Go.Proofs.Ytagcohpghgnalaa.BK
namespace Go.Proofs.Ytagcohpghgnalaa.LB
open Go.RowKit Go.RG Go.Hp Go.Pg
/-- a call of a script -/
structure Opd where
  kind : Int
  s : St
  v : Int
def OpsAt (w : World) (a : Option Addr) (n : Nat) (ops : Nat → Opd) : Prop := ∀ i, i < n → ∃ pb po, a = some ⟨pb, po, none⟩ ∧
  w.cell? ⟨pb, po + i * 4, none⟩ = some (.int .i64 (ops i).kind) ∧ w.cell? ⟨pb, po + i * 4 + 1, none⟩ = some (.int .u64 (ops i).s.t) ∧ w.cell? ⟨pb, po + i * 4 + 2, none⟩ = some (.int .u64 (ops i).s.s) ∧ w.cell? ⟨pb, po + i * 4 + 3, none⟩ = some (.int .u64 (ops i).v)

theorem put_mem {size : Nat} {R : List (List Ent)} (s : St) (v : Value) {e : Ent} (he : e ∈ (putR size R s v).flatten) : e ∈ R.flatten ∨ e.v = v := by
  rcases Nat.eq_zero_or_pos R.length with h0 | hR
  · have e0 : putR size R s v = [[⟨s, v⟩]] := by unfold putR; rw [if_pos h0]
    rw [e0] at he
    simp at he
    exact Or.inr (by rw [he])
  · cases ht : there R s
    · rw [flat_put_new s v hR ht] at he
      rw [flat_parts s hR]
      simp only [List.mem_append, List.mem_cons] at he ⊢
      rcases he with h | rfl | h
      · exact Or.inl (Or.inl h)
      · exact Or.inr rfl
      · exact Or.inl (Or.inr h)
    · obtain ⟨e1, _, _, hb⟩ := behind_rest ht
      rw [flat_put_there s v hR ht] at he
      rw [flat_parts s hR, hb]
      simp only [List.mem_append, List.mem_cons] at he ⊢
      rcases he with h | rfl | h
      · exact Or.inl (Or.inl h)
      · exact Or.inr rfl
      · exact Or.inl (Or.inr (Or.inr h))
theorem remove_mem {size : Nat} {R : List (List Ent)} (s : St) (hR : 0 < R.length) (ht : there R s = true) {e : Ent} (he : e ∈ (removeR size R s).flatten) : e ∈ R.flatten := by
  obtain ⟨e1, _, _, hb⟩ := behind_rest ht
  rw [flat_remove s hR ht] at he
  rw [flat_parts s hR, hb]
  simp only [List.mem_append, List.mem_cons] at he ⊢
  rcases he with h | h
  · exact Or.inl h
  · exact Or.inr (Or.inr h)
theorem total_put_le {size : Nat} (R : List (List Ent)) (s : St) (v : Value) : total (putR size R s v) ≤ total R + 1 := by
  rcases Nat.eq_zero_or_pos R.length with h0 | hR
  · have e0 : putR size R s v = [[⟨s, v⟩]] := by unfold putR; rw [if_pos h0]
    rw [e0, total_cons, total_nil]
    simp
  · rw [total_put s v hR]; split <;> omega

end Go.Proofs.Ytagcohpghgnalaa.LB
namespace Go.Proofs.Ytagcohpghgnalaa.BK
open Go.RowKit Go.RG Go.Hp Go.Pg Go.Proofs.Ytagcohpghgnalaa Go.Proofs.Ytagcohpghgnalaa.LB


theorem sized_any (n : Int) (w : World) : Calls Try.prog 21 #[.int .i64 n] w fun e w' => ∃ k : Nat, 4 ≤ k ∧ k ≤ 64 ∧ e = .returned (.int .i64 k) ∧ w = w' := by
  have h1 := Int.tmod_lt_of_pos n (show (0 : Int) < 61 by decide)
  have h2 := Int.lt_tmod_of_pos n (show (0 : Int) < 61 by decide)
  have h3 := Int.tmod_lt_of_pos (n.tmod 61 + 61) (show (0 : Int) < 61 by decide)
  have h4 := Int.tmod_nonneg 61 (show (0 : Int) ≤ n.tmod 61 + 61 by omega)
  go_enter Try.func21, Try.ntmps21
  go_wp2_with fail
  go_ret
  refine ⟨(4 + n.tmod 61 % 61).toNat, by omega, by omega, ?_, rfl⟩
  rw [Int.toNat_of_nonneg (by omega)]
  rfl

theorem remove_all (s : St) (bx size : Nat) (R : List (List Ent)) (hF : U.Fits size R) (hG : Pg.Good size R) (Z : Nat → Prop) (vr : Value) (pvs : List Value) (w : World) (hM : U.MemV w bx size R Z vr pvs) :
    Calls Try.prog 26 #[.pointer (some ⟨bx, 0, none⟩), s.v] w fun e w' => (∃ a b, e = .returned (.tuple #[a, .bool b])) ∧ (∃ vr' pvs', U.MemV w' bx size (removeR size R s) (fun k => Z k ∨ w.heap.size ≤ k) vr' pvs') ∧ Ext Z w w' := by
  cases hth : (decide (0 < R.length) && there R s)
  · have e0 : removeR size R s = R := by
      unfold removeR
      rw [if_neg]
      intro h
      rw [h, Bool.and_true, decide_eq_false_iff_not] at hth
      obtain rfl : R = [] := List.eq_nil_of_length_eq_zero (by omega)
      cases h
    refine (U.remove_not s bx size R hF hG.ordered hth Z vr pvs w hM).mono ?_
    rintro e w' ⟨rfl, hb⟩
    rw [e0]
    exact ⟨⟨_, _, rfl⟩, ⟨vr, pvs, (hM.below hb).mono fun k h => Or.inl h⟩, Ext.of_below hb⟩
  · obtain ⟨hR, hth⟩ := Bool.and_eq_true_iff.1 hth
    refine (U.remove_any s bx size R (of_decide_eq_true hR) hF hG.ordered hth Z vr pvs w hM).mono ?_
    rintro e w' ⟨rfl, vr', pvs', hM', hX⟩
    exact ⟨⟨_, _, rfl⟩, ⟨vr', pvs', hM'⟩, hX⟩
theorem good_remove {size : Nat} {R : List (List Ent)} (hG : Pg.Good size R) (s : St) : Pg.Good size (removeR size R s) := by
  rcases Nat.eq_zero_or_pos R.length with h0 | hR
  · obtain rfl := List.eq_nil_of_length_eq_zero h0
    exact hG
  · exact hG.remove s hR
theorem remove_mem' {size : Nat} {R : List (List Ent)} (s : St) {e : Ent} (he : e ∈ (removeR size R s).flatten) : e ∈ R.flatten := by
  rcases Nat.eq_zero_or_pos R.length with h0 | hR
  · obtain rfl := List.eq_nil_of_length_eq_zero h0
    exact he
  · cases ht : there R s
    · have e0 : removeR size R s = R := by unfold removeR; rw [if_neg (by rw [ht]; decide)]
      rwa [e0] at he
    · exact remove_mem s hR ht he

def stepR (size : Nat) (R : List (List Ent)) (o : Opd) : List (List Ent) :=
  if o.kind = 1 then putR size R o.s (.int .u64 o.v) else if o.kind = 2 then removeR size R o.s else R
def stepB (p : List Ent) (o : Opd) : List Ent :=
  if o.kind = 1 then putGo o.s (.int .u64 o.v) p false else if o.kind = 2 then remGo o.s p else p

/-- an index and a book beside it -/
structure Two (B bx size : Nat) (R : List (List Ent)) (bv : Value) (p : List Ent) (Z : Nat → Prop) (w : World) : Prop where
  mem : ∃ vr pvs, U.MemV w bx size R Z vr pvs
  lim : ∀ k, Z k → B ≤ k ∧ k < w.heap.size
  good : Pg.Good size R
  num : ∀ e ∈ R.flatten, U.NumV e.v
  row : w.ownsRow B 60 3 bv p.length (cellsOf p)
  off : ∀ k, bv.ownBlock = some k → ¬ Z k
  pnum : ∀ e ∈ p, U.NumV e.v
theorem Two.below {B bx size : Nat} {R : List (List Ent)} {bv : Value} {p : List Ent} {Z : Nat → Prop} {w w' : World} (h : Two B bx size R bv p Z w) (hb : Below w.heap.size w w') : Two B bx size R bv p Z w' where
  mem := by obtain ⟨vr, pvs, hM⟩ := h.mem; exact ⟨vr, pvs, hM.below hb⟩
  lim := fun k hk => ⟨(h.lim k hk).1, Nat.lt_of_lt_of_le (h.lim k hk).2 hb.size⟩
  good := h.good
  num := h.num
  row := owns_below h.row hb
  off := h.off
  pnum := h.pnum
theorem Two.bx_lt {B bx size : Nat} {R : List (List Ent)} {bv : Value} {p : List Ent} {Z : Nat → Prop} {w : World} (h : Two B bx size R bv p Z w) : B ≤ w.heap.size := by
  obtain ⟨vr, pvs, hM⟩ := h.mem
  have := h.lim bx hM.sx
  omega

/-- what a call leaves -/
def TurnPost (B bx size : Nat) (R : List (List Ent)) (p : List Ent) (bv : Value) (o : Opd) (Z : Nat → Prop) (w : World) (e : Ending) (w' : World) : Prop :=
  ∃ bv' Z', e = .returned bv' ∧ Two B bx size (stepR size R o) bv' (stepB p o) Z' w' ∧ Ext Z w w' ∧ (∀ k, Z' k → Z k ∨ w.heap.size ≤ k) ∧ ∀ k, bv'.ownBlock = some k → bv.ownBlock = some k ∨ w.heap.size ≤ k

set_option maxHeartbeats 1000000 in
theorem turns_any (B bx size i : Nat) (h4 : 4 ≤ size) (h64 : size ≤ 64) (R : List (List Ent)) (bv : Value) (p : List Ent) (o : Opd) (Z : Nat → Prop) (w : World) (hT : Two B bx size R bv p Z w) (ht : total R ≤ i) (hp : p.length ≤ i) (hi : i ≤ 1099511) :
    Calls Try.prog 22 #[.pointer (some ⟨bx, 0, none⟩), bv, .agg #[.int .i64 o.kind, .int .u64 o.s.t, .int .u64 o.s.s, .int .u64 o.v]] w (TurnPost B bx size R p bv o Z w) := by
  have hB0 := below_box w (.cells #[.int .i64 o.kind, .int .u64 o.s.t, .int .u64 o.s.s, .int .u64 o.v] 40)
  have hF := U.fits_u h4 h64 hT.good ht (by omega)
  have h0 := hT.bx_lt
  obtain ⟨ab, cb, rfl, -⟩ := owns_shape hT.row
  have HT := Lib.hid hT; clear hT
  have y1 : (w.alloc (.cells #[.int .i64 o.kind, .int .u64 o.s.t, .int .u64 o.s.s, .int .u64 o.v] 40)).cell? ⟨w.heap.size, 1, none⟩ = some (.int .u64 o.s.t) := by simp
  have y2 : (w.alloc (.cells #[.int .i64 o.kind, .int .u64 o.s.t, .int .u64 o.s.s, .int .u64 o.v] 40)).cell? ⟨w.heap.size, 2, none⟩ = some (.int .u64 o.s.s) := by simp
  have y3 : (w.alloc (.cells #[.int .i64 o.kind, .int .u64 o.s.t, .int .u64 o.s.s, .int .u64 o.v] 40)).cell? ⟨w.heap.size, 3, none⟩ = some (.int .u64 o.v) := by simp
  by_cases k1 : o.kind = 1
  · obtain ⟨vr, pvs, hM⟩ := HT.out.mem
    have hPu := U.put_any o.s (.int .u64 o.v) rfl bx size R hF HT.out.good.ordered Z vr pvs _ (hM.below hB0)
    unfold St.v at hPu
    have HPu := Lib.hid hPu; clear hPu
    rw [k1] at hB0 y1 y2 y3 HPu ⊢
    go_enter Try.func22, Try.ntmps22
    go_wp2_with fail
    generalize w.alloc (.cells #[.int .i64 1, .int .u64 o.s.t, .int .u64 o.s.s, .int .u64 o.v] 40) = w0 at hB0 y1 y2 y3 HPu ⊢
    refine HPu.out.mono ?_
    rintro e w1 ⟨rfl, vr1, pvs1, hM1, hX1⟩
    have hz0 := hB0.size
    have hbz : ¬ Z w.heap.size := fun h => by have := (HT.out.lim _ h).2; omega
    have y1 := hX1.cell_some y1 hbz
    have y2 := hX1.cell_some y2 hbz
    have y3 := hX1.cell_some y3 hbz
    have hz1 := hX1.size
    have hrow1 := owns_ext (owns_below HT.out.row hB0) hX1 HT.out.off
    have hPb := put_book o.s o.v B p (by omega) HT.out.pnum _ w1 hrow1
    unfold St.v at hPb
    have HPb := Lib.hid hPb; clear hPb hrow1
    go_wp2_with fail
    refine HPb.out.mono ?_
    rintro e w2 ⟨v2, rfl, hrow2, hB2⟩
    go_wp2_with fail
    go_ret
    have hz2 := hB2.size
    have hM2 := hM1.cut.below hB2
    refine ⟨v2, _, rfl, ⟨⟨vr1, pvs1, by unfold stepR; rw [if_pos k1]; exact hM2⟩, ?_, by unfold stepR; rw [if_pos k1]; exact HT.out.good.put h4 _ _, ?_, ?_, ?_, ?_⟩, ((Ext.of_below hB0).trans hX1 fun _ _ h => h).trans (Ext.of_below (S := Z) hB2) fun _ _ h => h, ?_, ?_⟩
    · rintro k ⟨h | h, h'⟩
      · exact ⟨(HT.out.lim k h).1, by omega⟩
      · exact ⟨by omega, by omega⟩
    · intro e he
      unfold stepR at he
      rw [if_pos k1] at he
      rcases put_mem _ _ he with h | h
      · exact HT.out.num e h
      · exact ⟨_, h⟩
    · unfold stepB; rw [if_pos k1]
      exact owns_base hrow2 fun k hk => by have := (hrow2.lt k hk).1; omega
    · rintro k hk ⟨-, h'⟩
      have := (hrow2.lt k hk).1
      omega
    · unfold stepB; rw [if_pos k1]; exact putGo_num HT.out.pnum
    · rintro k ⟨h | h, -⟩
      · exact Or.inl h
      · exact Or.inr (by omega)
    · intro k hk
      exact Or.inr (by have := (hrow2.lt k hk).1; omega)
  · have k1' : (o.kind == 1) = false := by simpa using k1
    by_cases k2 : o.kind = 2
    · obtain ⟨vr, pvs, hM⟩ := HT.out.mem
      have hPu := remove_all o.s bx size R hF HT.out.good Z vr pvs _ (hM.below hB0)
      unfold St.v at hPu
      have HPu := Lib.hid hPu; clear hPu k1'
      rw [k2] at hB0 y1 y2 y3 HPu ⊢
      go_enter Try.func22, Try.ntmps22
      go_wp2_with fail
      generalize w.alloc (.cells #[.int .i64 2, .int .u64 o.s.t, .int .u64 o.s.s, .int .u64 o.v] 40) = w0 at hB0 y1 y2 y3 HPu ⊢
      refine HPu.out.mono ?_
      rintro e w1 ⟨⟨ra, rb, rfl⟩, ⟨vr1, pvs1, hM1⟩, hX1⟩
      have hz0 := hB0.size
      have hbz : ¬ Z w.heap.size := fun h => by have := (HT.out.lim _ h).2; omega
      have y1 := hX1.cell_some y1 hbz
      have y2 := hX1.cell_some y2 hbz
      have hz1 := hX1.size
      have hrow1 := owns_ext (owns_below HT.out.row hB0) hX1 HT.out.off
      have hPb := remove_book o.s B p (by omega) HT.out.pnum _ w1 hrow1
      unfold St.v at hPb
      have HPb := Lib.hid hPb; clear hPb hrow1
      go_wp2_with fail
      refine HPb.out.mono ?_
      rintro e w2 ⟨v2, rfl, hrow2, hB2⟩
      go_wp2_with fail
      go_ret
      have hz2 := hB2.size
      have hM2 := hM1.cut.below hB2
      have e1 : stepR size R o = removeR size R o.s := by unfold stepR; rw [if_neg k1, if_pos k2]
      have e2 : stepB p o = remGo o.s p := by unfold stepB; rw [if_neg k1, if_pos k2]
      refine ⟨v2, _, rfl, ⟨⟨vr1, pvs1, by rw [e1]; exact hM2⟩, ?_, by rw [e1]; exact good_remove HT.out.good _, ?_, ?_, ?_, ?_⟩, ((Ext.of_below hB0).trans hX1 fun _ _ h => h).trans (Ext.of_below (S := Z) hB2) fun _ _ h => h, ?_, ?_⟩
      · rintro k ⟨h | h, h'⟩
        · exact ⟨(HT.out.lim k h).1, by omega⟩
        · exact ⟨by omega, by omega⟩
      · intro e he
        rw [e1] at he
        exact HT.out.num e (remove_mem' _ he)
      · rw [e2]
        exact owns_base hrow2 fun k hk => by have := (hrow2.lt k hk).1; omega
      · rintro k hk ⟨-, h'⟩
        have := (hrow2.lt k hk).1
        omega
      · rw [e2]; exact remGo_num HT.out.pnum
      · rintro k ⟨h | h, -⟩
        · exact Or.inl h
        · exact Or.inr (by omega)
      · intro k hk
        exact Or.inr (by have := (hrow2.lt k hk).1; omega)
    · have k2' : (o.kind == 2) = false := by simpa using k2
      go_enter Try.func22, Try.ntmps22
      go_wp2_with fail
      go_ret
      have e1 : stepR size R o = R := by unfold stepR; rw [if_neg k1, if_neg k2]
      have e2 : stepB p o = p := by unfold stepB; rw [if_neg k1, if_neg k2]
      exact ⟨_, Z, rfl, by rw [e1, e2]; exact HT.out.below hB0, Ext.of_below hB0, fun k h => Or.inl h, fun k h => Or.inl h⟩

theorem stepR_total {size : Nat} {R : List (List Ent)} (hG : Pg.Good size R) (o : Opd) : total (stepR size R o) ≤ total R + 1 := by
  unfold stepR
  split
  · exact total_put_le R _ _
  · split
    · rcases Nat.eq_zero_or_pos R.length with h0 | hR
      · obtain rfl := List.eq_nil_of_length_eq_zero h0
        exact Nat.zero_le _
      · cases ht : there R o.s
        · have e0 : removeR size R o.s = R := by unfold removeR; rw [if_neg (by rw [ht]; decide)]
          rw [e0]; omega
        · have := total_remove (size := size) o.s hR ht
          omega
    · omega
theorem stepB_length (p : List Ent) (o : Opd) : (stepB p o).length ≤ p.length + 1 := by
  unfold stepB
  split
  · have := putGo_length o.s (.int .u64 o.v) p false
    simpa using this
  · split
    · have := remGo_length o.s p
      omega
    · omega
theorem step_flat {size : Nat} {R : List (List Ent)} (hG : Pg.Good size R) (o : Opd) : stepB R.flatten o = (stepR size R o).flatten := by
  unfold stepB stepR
  split
  · exact put_flat hG _ _
  · split
    · exact rem_flat hG _
    · rfl
end Go.Proofs.Ytagcohpghgnalaa.BK
