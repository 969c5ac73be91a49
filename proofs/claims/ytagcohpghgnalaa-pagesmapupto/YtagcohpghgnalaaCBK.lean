/-
  The books of the laws of layer 7: put and remove, over lists of entries.
-/
import Derived.Test.YtagcohpghgnalaaCEQ
set_option linter.unusedSimpArgs false
set_option linter.unusedVariables false
namespace Go.Proofs.Ytagcohpghgnalaa.BK
open Go.RowKit Go.RG Go.Hp Go.Pg Go.Proofs.Ytagcohpghgnalaa


/-- book.put, by its text: what is still to come, and whether the entry has been laid -/
def putGo (s : St) (x : Value) : List Ent → Bool → List Ent
  | [], true => []
  | [], false => [⟨s, x⟩]
  | e :: r, d => if e.k = s then ⟨s, x⟩ :: putGo s x r true else if d = false ∧ s.lt e.k = true then ⟨s, x⟩ :: e :: putGo s x r true else e :: putGo s x r d
/-- book.remove -/
def remGo (s : St) (p : List Ent) : List Ent := p.filter fun e => !decide (e.k = s)

theorem und_book : Try.prog.underlying 35 = some (.slice 60) := by kernel_rfl
theorem info_Entry : (Try.prog.info? 60).map (fun i => (i.zero, i.size, i.bytes)) = some (some (.agg #[.int .u64 0, .int .u64 0, .int .u64 0]), 3, 24) := by kernel_rfl

theorem drop_cons {p : List Ent} {i : Nat} (h : i < p.length) : p.drop i = ent p i :: p.drop (i + 1) := by
  rw [List.drop_eq_getElem_cons h]
  simp [ent, h]

/-- an entry of a book: its three cells, where the book lies -/
theorem book_cells {w : World} {B n g cap : Nat} {p : List Ent} (h : w.ownsRow B 60 3 (.slice (some ⟨g, 0, none⟩) n cap) n (cellsOf p)) {i : Nat} (hi : i < p.length) :
    w.cell? ⟨g, i * 3, none⟩ = some (.int .u64 (ent p i).k.t) ∧ w.cell? ⟨g, i * 3 + 1, none⟩ = some (.int .u64 (ent p i).k.s) ∧ w.cell? ⟨g, i * 3 + 2, none⟩ = some (ent p i).v := by
  have hl := owns_length h
  rw [length_cellsOf] at hl
  obtain ⟨h1, h2, h3⟩ := cellsOf_get p i hi
  refine ⟨?_, ?_, ?_⟩
  · rw [h.cellAt _ (by omega), h1]
  · rw [h.cellAt _ (by omega), h2]
  · rw [h.cellAt _ (by omega), h3]

theorem src3 (W : World) (a b c : Value) : ∀ (j : Nat) (u : Value), ([a, b, c] : List Value)[j]? = some u → (W.alloc (.cells #[a, b, c] 60)).cell? ((⟨W.heap.size, 0, none⟩ : Addr).add j) = some u := fun j u h => by
  have hr : Row (W.alloc (.cells #[a, b, c] 60)) W.heap.size 60 [a, b, c] := row_new W [a, b, c] 60
  rw [Addr.add_lit, Nat.zero_add, hr.cell]
  exact h

theorem one3 (s : St) (x : Int) : ∀ u ∈ ([.int .u64 s.t, .int .u64 s.s, .int .u64 x] : List Value), u.oneCell' = true := fun u hu => by
  simp only [List.mem_cons, List.not_mem_nil, or_false] at hu
  rcases hu with rfl | rfl | rfl <;> rfl
theorem cells_snoc (p : List Ent) (s : St) (v : Value) : cellsOf p ++ [.int .u64 s.t, .int .u64 s.s, v] = cellsOf (p ++ [⟨s, v⟩]) := by simp [cellsOf, Ent.cells]

set_option maxHeartbeats 2000000 in
set_option maxRecDepth 100000 in
theorem put_book (s : St) (x : Int) (B : Nat) (p : List Ent) (hn : p.length ≤ 274877906944) (hN : ∀ e ∈ p, U.NumV e.v) (bv : Value) (w : World) (hb : w.ownsRow B 60 3 bv p.length (cellsOf p)) :
    Calls Try.prog 40 #[bv, s.v, .int .u64 x] w fun e w' => ∃ v, e = .returned v ∧ w'.ownsRow w.heap.size 60 3 v (putGo s (.int .u64 x) p false).length (cellsOf (putGo s (.int .u64 x) p false)) ∧ Below w.heap.size w w' := by
  obtain ⟨ab, cb, rfl, hcb, hcm⟩ := owns_shape hb
  have Hb := Lib.hid hb; clear hb
  have hB0 := below_box w (.cells #[.int .u64 s.t, .int .u64 s.s] 38)
  have s0 : (w.alloc (.cells #[.int .u64 s.t, .int .u64 s.s] 38)).cell? ⟨w.heap.size, 0, none⟩ = some (.int .u64 s.t) := by simp
  have s1 : (w.alloc (.cells #[.int .u64 s.t, .int .u64 s.s] 38)).cell? ⟨w.heap.size, 1, none⟩ = some (.int .u64 s.s) := by simp
  have hw0 : (w.alloc (.cells #[.int .u64 s.t, .int .u64 s.s] 38)).heap.size = w.heap.size + 1 := by simp
  have hE1 := U.eql_stamp
  have hE2 := U.guard_stamp
  unfold St.v
  obtain ⟨i0, hi, hz0, hz1, hz2⟩ := info_parts info_Entry
  go_enter Try.func40, Try.ntmps40
  go_wp2_with fail
  generalize w.alloc (.cells #[.int .u64 s.t, .int .u64 s.s] 38) = w0 at hB0 s0 s1 hw0 ⊢
  go_loopw [7, 8, 9] (fun vl vd vi wr => ∃ (i : Nat) (acc : List Ent) (dn : Bool) (a : Option Addr) (c : Nat), vi = .int .i64 i ∧ vd = .bool dn ∧ vl = .slice a acc.length c ∧ i ≤ p.length ∧ (acc.length ≤ i + 1 ∧ (dn = false → acc.length ≤ i)) ∧
      acc ++ putGo s (.int .u64 x) (p.drop i) dn = putGo s (.int .u64 x) p false ∧ wr.ownsRow w0.heap.size 60 3 vl acc.length (cellsOf acc) ∧ Below w0.heap.size w0 wr)
    (fun _ _ vi _ => p.length - (intOf vi).toNat)
  case atStart => exact ⟨0, [], false, none, 0, rfl, rfl, rfl, by omega, ⟨by simp, fun _ => by simp⟩, by simp, World.ownsRow_nil _ _ 60 3, Below.refl _ _⟩
  case round =>
    obtain ⟨i, acc, dn, a, c, rfl, rfl, rfl, hin, ⟨hal, hal2⟩, hgo, hown, hB⟩ := hrel
    have Hown := Lib.hid hown; clear hown
    have Hgo := Lib.hid hgo; clear hgo
    by_cases hlt : i < p.length
    · have hii : (i : Int) < (p.length : Int) := by omega
      obtain ⟨g, cap, e1, -, hgl, -⟩ := owns_parts Hb.out (by omega)
      injection e1 with e1 _ f1
      subst e1 f1
      obtain ⟨z0, z1, z2⟩ := book_cells Hb.out hlt
      obtain ⟨num, hnum⟩ := hN (ent p i) (by have : ent p i = p[i] := by simp [ent, hlt]
                                             rw [this]; exact List.getElem_mem _)
      rw [hnum] at z2
      have z0 := (hB.cell (p := ⟨g, i * 3, none⟩) (show g < w0.heap.size by omega)).trans (below_cell hB0 z0)
      have z1 := (hB.cell (p := ⟨g, i * 3 + 1, none⟩) (show g < w0.heap.size by omega)).trans (below_cell hB0 z1)
      have z2 := (hB.cell (p := ⟨g, i * 3 + 2, none⟩) (show g < w0.heap.size by omega)).trans (below_cell hB0 z2)
      have t0 := (hB.cell (p := ⟨w.heap.size, 0, none⟩) (show w.heap.size < w0.heap.size by omega)).trans s0
      have t1 := (hB.cell (p := ⟨w.heap.size, 1, none⟩) (show w.heap.size < w0.heap.size by omega)).trans s1
      have Hdc := Lib.hid (drop_cons hlt)
      go_wp2_with fail
      refine wp_region_rg (fun _ => none) fol (by kernel_rfl) (fun W hW hh => ?_)
      clear hh
      have q0 : ∀ w1, Below W.heap.size W w1 → w1.cell? ⟨g, i * 3, none⟩ = some (.int .u64 (ent p i).k.t) := fun w1 h => below_cell (below_trans hW h) z0
      have q1 : ∀ w1, Below W.heap.size W w1 → w1.cell? ⟨g, i * 3 + 1, none⟩ = some (.int .u64 (ent p i).k.s) := fun w1 h => below_cell (below_trans hW h) z1
      have q2 : ∀ w1, Below W.heap.size W w1 → w1.cell? ⟨w.heap.size, 0, none⟩ = some (.int .u64 s.t) := fun w1 h => below_cell (below_trans hW h) t0
      have q3 : ∀ w1, Below W.heap.size W w1 → w1.cell? ⟨w.heap.size, 1, none⟩ = some (.int .u64 s.s) := fun w1 h => below_cell (below_trans hW h) t1
      repeat (first
        | (refine lex_move _ (by first | exact Or.inl rfl | exact Or.inr rfl) rfl rfl ?_
           simp only [Act.put, Act.eval, Array.getD_eq_getD_getElem?, List.getElem?_toArray, List.getElem?_cons_zero, List.getElem?_cons_succ, Option.getD_some, List.setIfInBounds_toArray, List.set_cons_succ, List.set_cons_zero]
          )
        | (refine lex_float ?_ rfl rfl (fun w1 hb1 hf1 => ?_) ?_
           rotate_left
           (go_simp; (try simp (disch := omega) only [IntWalk.i64_quo, IntWalk.rem_in, IntWalk.i64_in, IntWalk.u64_in, IntWalk.u32_in, IntWalk.u8_in, IntWalk.toNatUp, IntWalk.iteOmega]); (try go_simp); rfl)
           simp only [Act.put, Act.eval, Array.getD_eq_getD_getElem?, List.getElem?_toArray, List.getElem?_cons_zero, List.getElem?_cons_succ, Option.getD_some, List.setIfInBounds_toArray, List.set_cons_succ, List.set_cons_zero]
          )
        | (refine lex_skip rfl ?_
           simp only [Act.put, Act.eval, Array.getD_eq_getD_getElem?, List.getElem?_toArray, List.getElem?_cons_zero, List.getElem?_cons_succ, Option.getD_some, List.setIfInBounds_toArray, List.set_cons_succ, List.set_cons_zero]
          ))
      clear q0 q1 q2 q3
      refine lex_nil ?_
      have z0 := below_cell hW z0
      have z1 := below_cell hW z1
      have z2 := below_cell hW z2
      have t0 := below_cell hW t0
      have t1 := below_cell hW t1
      have Hown := Lib.hid (owns_below Hown.out hW)
      have hB := hB.trans (hW.mono hB.size)
      clear hW
      rw [U.stamp_beq]
      by_cases hs : (ent p i).k = s
      · rw [decide_eq_true hs]
        have Hown1 := Lib.hid (owns_below Hown.out (below_box (W) (.cells #[.int .u64 s.t, .int .u64 s.s, .int .u64 x] 60)))
        have Hsrc1 := Lib.hid (src3 (W) (.int .u64 s.t) (.int .u64 s.s) (.int .u64 x))
        have q1 : acc.length + 1 ≤ maxLen := by unfold maxLen; omega
        have q2 : (acc.length + 1) * 24 ≤ 140737488355328 := by omega
        have q3 : w0.heap.size ≤ ((W).alloc (.cells #[.int .u64 s.t, .int .u64 s.s, .int .u64 x] 60)).heap.size := by have := (hB).size; simp; omega
        have q4 : ∀ u ∈ ([.int .u64 s.t, .int .u64 s.s, .int .u64 x] : List Value), u.oneCell' = true := fun u hu => by
          simp only [List.mem_cons, List.not_mem_nil, or_false] at hu
          rcases hu with rfl | rfl | rfl <;> rfl
        have Q1 := Lib.hid q4; clear q4
        go_wp2_with (at_builtin; go_loud (refine wpList_append_own _ rfl _ _ 35 rfl w0.heap.size 60 i0 (.agg #[.int .u64 0, .int .u64 0, .int .u64 0]) 3 24 und_book hi hz0 hz1 hz2 rfl (by decide) _ _ _ rfl Hown1.out ⟨(W).heap.size, 0, none⟩ 1 1 [.int .u64 s.t, .int .u64 s.s, .int .u64 x] rfl rfl Hsrc1.out Q1.out q1 q2 q3 ?_; intro v' w1 hown' hgrow hnil; clear hnil; have hg1 := (below_box (W) (.cells #[.int .u64 s.t, .int .u64 s.s, .int .u64 x] 60)).mono (hB).size; have Hbg := Lib.hid (hg1.grown hgrow q3 (fun k hk => (Hown1.out.lt k hk).1)); clear hg1 hgrow q1 q2 q3 Hown1 Hsrc1 Q1; obtain ⟨a2, cap3, rfl, hx1, hx2⟩ := owns_shape hown'; have Hown' := Lib.hid hown'; clear hown'))
        refine ⟨⟨i + 1, acc ++ [⟨s, .int .u64 x⟩], true, a2, cap3, rfl, rfl, by simp, by omega, ⟨by simp; omega, fun h => by cases h⟩, ?_, by rw [← cells_snoc, List.length_append]; exact Hown'.out, hB.trans Hbg.out⟩, ?_⟩
        · rw [← Hgo.out, Hdc.out]; simp [putGo, hs]
        · show p.length - (((i : Int) + 1).toNat) < p.length - ((i : Int).toNat)
          omega
      · rw [decide_eq_false hs]
        cases dn
        · go_wp2_with fail
          refine wp_region_rg (fun j => if j = 9 then some (fun v _ => v = .bool (s.lt (ent p i).k)) else none) fol (by kernel_rfl) (fun W2 hW hh => ?_)
          clear hh
          have q0 : ∀ w1, Below W2.heap.size W2 w1 → w1.cell? ⟨g, i * 3, none⟩ = some (.int .u64 (ent p i).k.t) := fun w1 h => below_cell (below_trans hW h) z0
          have q1 : ∀ w1, Below W2.heap.size W2 w1 → w1.cell? ⟨g, i * 3 + 1, none⟩ = some (.int .u64 (ent p i).k.s) := fun w1 h => below_cell (below_trans hW h) z1
          have q2 : ∀ w1, Below W2.heap.size W2 w1 → w1.cell? ⟨w.heap.size, 0, none⟩ = some (.int .u64 s.t) := fun w1 h => below_cell (below_trans hW h) t0
          have q3 : ∀ w1, Below W2.heap.size W2 w1 → w1.cell? ⟨w.heap.size, 1, none⟩ = some (.int .u64 s.s) := fun w1 h => below_cell (below_trans hW h) t1
          repeat (first
            | (refine lex_move _ (by first | exact Or.inl rfl | exact Or.inr rfl) rfl rfl ?_
               simp only [Act.put, Act.eval, Array.getD_eq_getD_getElem?, List.getElem?_toArray, List.getElem?_cons_zero, List.getElem?_cons_succ, Option.getD_some, List.setIfInBounds_toArray, List.set_cons_succ, List.set_cons_zero]
              )
            | (refine lex_float ?_ rfl rfl (fun w1 hb1 hf1 => ?_) ?_
               rotate_left
               (go_simp; (try simp (disch := omega) only [IntWalk.i64_quo, IntWalk.rem_in, IntWalk.i64_in, IntWalk.u64_in, IntWalk.u32_in, IntWalk.u8_in, IntWalk.toNatUp, IntWalk.iteOmega]); (try go_simp); rfl)
               simp only [Act.put, Act.eval, Array.getD_eq_getD_getElem?, List.getElem?_toArray, List.getElem?_cons_zero, List.getElem?_cons_succ, Option.getD_some, List.setIfInBounds_toArray, List.set_cons_succ, List.set_cons_zero]
              )
            | (refine lex_skip rfl ?_
               simp only [Act.put, Act.eval, Array.getD_eq_getD_getElem?, List.getElem?_toArray, List.getElem?_cons_zero, List.getElem?_cons_succ, Option.getD_some, List.setIfInBounds_toArray, List.set_cons_succ, List.set_cons_zero]
              ))
          refine lex_make _ rfl (by exact fun _ _ _ h _ => h) rfl (fun w1 hb1 hf1 => ?_) ?_
          · (unfold makes; go_simp; simp only [makesUpon])
            have hL := less_any s (ent p i).k w1
            unfold St.v at hL
            refine hL.mono ?_
            rintro e w' ⟨rfl, hb⟩
            exact ⟨_, rfl, hb, rfl⟩
          rintro v W3 hW3 rfl
          simp only [Act.put, Act.eval, Array.getD_eq_getD_getElem?, List.getElem?_toArray, List.getElem?_cons_zero, List.getElem?_cons_succ, Option.getD_some, List.setIfInBounds_toArray, List.set_cons_succ, List.set_cons_zero]
          clear q0 q1 q2 q3
          repeat (first
            | (refine lex_move _ (by first | exact Or.inl rfl | exact Or.inr rfl) rfl rfl ?_
               simp only [Act.put, Act.eval, Array.getD_eq_getD_getElem?, List.getElem?_toArray, List.getElem?_cons_zero, List.getElem?_cons_succ, Option.getD_some, List.setIfInBounds_toArray, List.set_cons_succ, List.set_cons_zero]
              )
            | (refine lex_float ?_ rfl rfl (fun w1 hb1 hf1 => ?_) ?_
               rotate_left
               (go_simp; (try simp (disch := omega) only [IntWalk.i64_quo, IntWalk.rem_in, IntWalk.i64_in, IntWalk.u64_in, IntWalk.u32_in, IntWalk.u8_in, IntWalk.toNatUp, IntWalk.iteOmega]); (try go_simp); rfl)
               simp only [Act.put, Act.eval, Array.getD_eq_getD_getElem?, List.getElem?_toArray, List.getElem?_cons_zero, List.getElem?_cons_succ, Option.getD_some, List.setIfInBounds_toArray, List.set_cons_succ, List.set_cons_zero]
              )
            | (refine lex_skip rfl ?_
               simp only [Act.put, Act.eval, Array.getD_eq_getD_getElem?, List.getElem?_toArray, List.getElem?_cons_zero, List.getElem?_cons_succ, Option.getD_some, List.setIfInBounds_toArray, List.set_cons_succ, List.set_cons_zero]
              ))
          refine lex_nil ?_
          have hW4 := below_trans hW hW3
          have z0 := below_cell hW4 z0
          have z1 := below_cell hW4 z1
          have z2 := below_cell hW4 z2
          have t0 := below_cell hW4 t0
          have t1 := below_cell hW4 t1
          have Hown := Lib.hid (owns_below Hown.out hW4)
          have hB := hB.trans (hW4.mono hB.size)
          clear hW hW3 hW4
          cases hl : s.lt (ent p i).k
          · have Hown1 := Lib.hid (owns_below Hown.out (below_box (W3) (.cells #[.int .u64 (ent p i).k.t, .int .u64 (ent p i).k.s, .int .u64 num] 60)))
            have Hsrc1 := Lib.hid (src3 (W3) (.int .u64 (ent p i).k.t) (.int .u64 (ent p i).k.s) (.int .u64 num))
            have q1 : acc.length + 1 ≤ maxLen := by unfold maxLen; omega
            have q2 : (acc.length + 1) * 24 ≤ 140737488355328 := by omega
            have q3 : w0.heap.size ≤ ((W3).alloc (.cells #[.int .u64 (ent p i).k.t, .int .u64 (ent p i).k.s, .int .u64 num] 60)).heap.size := by have := (hB).size; simp; omega
            have q4 : ∀ u ∈ ([.int .u64 (ent p i).k.t, .int .u64 (ent p i).k.s, .int .u64 num] : List Value), u.oneCell' = true := fun u hu => by
              simp only [List.mem_cons, List.not_mem_nil, or_false] at hu
              rcases hu with rfl | rfl | rfl <;> rfl
            have Q1 := Lib.hid q4; clear q4
            go_wp2_with (at_builtin; go_loud (refine wpList_append_own _ rfl _ _ 35 rfl w0.heap.size 60 i0 (.agg #[.int .u64 0, .int .u64 0, .int .u64 0]) 3 24 und_book hi hz0 hz1 hz2 rfl (by decide) _ _ _ rfl Hown1.out ⟨(W3).heap.size, 0, none⟩ 1 1 [.int .u64 (ent p i).k.t, .int .u64 (ent p i).k.s, .int .u64 num] rfl rfl Hsrc1.out Q1.out q1 q2 q3 ?_; intro v' w1 hown' hgrow hnil; clear hnil; have hg1 := (below_box (W3) (.cells #[.int .u64 (ent p i).k.t, .int .u64 (ent p i).k.s, .int .u64 num] 60)).mono (hB).size; have Hbg := Lib.hid (hg1.grown hgrow q3 (fun k hk => (Hown1.out.lt k hk).1)); clear hg1 hgrow q1 q2 q3 Hown1 Hsrc1 Q1; obtain ⟨a2, cap3, rfl, hx1, hx2⟩ := owns_shape hown'; have Hown' := Lib.hid hown'; clear hown'))
            refine ⟨⟨i + 1, acc ++ [ent p i], false, a2, cap3, rfl, rfl, by simp, by omega, ⟨by simp; omega, fun _ => by have := hal2 (by trivial); simp; omega⟩, ?_, ?_, hB.trans Hbg.out⟩, ?_⟩
            · rw [← Hgo.out, Hdc.out]; simp [putGo, hs, hl]
            · have := Hown'.out
              rw [← hnum, cells_snoc] at this
              rw [List.length_append]; exact this
            · show p.length - (((i : Int) + 1).toNat) < p.length - ((i : Int).toNat)
              omega
          · have Hown1 := Lib.hid (owns_below Hown.out (below_box (W3) (.cells #[.int .u64 s.t, .int .u64 s.s, .int .u64 x] 60)))
            have Hsrc1 := Lib.hid (src3 (W3) (.int .u64 s.t) (.int .u64 s.s) (.int .u64 x))
            have q1 : acc.length + 1 ≤ maxLen := by unfold maxLen; omega
            have q2 : (acc.length + 1) * 24 ≤ 140737488355328 := by omega
            have q3 : w0.heap.size ≤ ((W3).alloc (.cells #[.int .u64 s.t, .int .u64 s.s, .int .u64 x] 60)).heap.size := by have := (hB).size; simp; omega
            have q4 : ∀ u ∈ ([.int .u64 s.t, .int .u64 s.s, .int .u64 x] : List Value), u.oneCell' = true := fun u hu => by
              simp only [List.mem_cons, List.not_mem_nil, or_false] at hu
              rcases hu with rfl | rfl | rfl <;> rfl
            have Q1 := Lib.hid q4; clear q4
            go_wp2_with (at_builtin; first | (refine wpList_append_own _ rfl _ _ 35 rfl w0.heap.size 60 i0 (.agg #[.int .u64 0, .int .u64 0, .int .u64 0]) 3 24 und_book hi hz0 hz1 hz2 rfl (by decide) _ _ _ rfl Hown1.out ⟨(W3).heap.size, 0, none⟩ 1 1 [.int .u64 s.t, .int .u64 s.s, .int .u64 x] rfl rfl Hsrc1.out Q1.out q1 q2 q3 ?_; intro v' w1 hown' hgrow hnil; clear hnil; have hg1 := (below_box (W3) (.cells #[.int .u64 s.t, .int .u64 s.s, .int .u64 x] 60)).mono (hB).size; have Hbg := Lib.hid (hg1.grown hgrow q3 (fun k hk => (Hown1.out.lt k hk).1)); clear hg1 hgrow q1 q2 q3 Hown1 Hsrc1 Q1; obtain ⟨a2, cap3, rfl, hx1, hx2⟩ := owns_shape hown'; have Hown' := Lib.hid hown'; clear hown'; have z0 := (Hbg.out.cell (p := ⟨g, i * 3, none⟩) (show g < w0.heap.size by omega)).trans z0; have z1 := (Hbg.out.cell (p := ⟨g, i * 3 + 1, none⟩) (show g < w0.heap.size by omega)).trans z1; have z2 := (Hbg.out.cell (p := ⟨g, i * 3 + 2, none⟩) (show g < w0.heap.size by omega)).trans z2; have Hown2 := Lib.hid (owns_below Hown'.out (below_box w1 (.cells #[.int .u64 (ent p i).k.t, .int .u64 (ent p i).k.s, .int .u64 num] 60))); have Hsrc2 := Lib.hid (src3 w1 (.int .u64 (ent p i).k.t) (.int .u64 (ent p i).k.s) (.int .u64 num)); have q5 : acc.length + 1 + 1 ≤ maxLen := (by unfold maxLen; omega); have q6 : (acc.length + 1 + 1) * 24 ≤ 140737488355328 := (by omega); have q7 : w0.heap.size ≤ (w1.alloc (.cells #[.int .u64 (ent p i).k.t, .int .u64 (ent p i).k.s, .int .u64 num] 60)).heap.size := (by have := Hbg.out.size; have := (hB).size; simp; omega); have Q2 := Lib.hid (one3 (ent p i).k num)) | (go_loud (refine wpList_append_own _ rfl _ _ 35 rfl w0.heap.size 60 i0 (.agg #[.int .u64 0, .int .u64 0, .int .u64 0]) 3 24 und_book hi hz0 hz1 hz2 rfl (by decide) _ _ _ rfl Hown2.out ⟨w1.heap.size, 0, none⟩ 1 1 [.int .u64 (ent p i).k.t, .int .u64 (ent p i).k.s, .int .u64 num] rfl rfl Hsrc2.out Q2.out q5 q6 q7 ?_; intro v2 w2 hown2' hgrow2 hnil2; clear hnil2; have hg2 := (below_box w1 (.cells #[.int .u64 (ent p i).k.t, .int .u64 (ent p i).k.s, .int .u64 num] 60)).mono (Nat.le_trans (hB).size Hbg.out.size); have Hbg2 := Lib.hid (hg2.grown hgrow2 q7 (fun k hk => (Hown2.out.lt k hk).1)); clear hg2 hgrow2 q5 q6 q7 Hown2 Hsrc2 Q2; obtain ⟨a3, cap4, rfl, hx3, hx4⟩ := owns_shape hown2'; have Hown2' := Lib.hid hown2'; clear hown2')))
            refine ⟨⟨i + 1, acc ++ [⟨s, .int .u64 x⟩] ++ [ent p i], true, a3, cap4, rfl, rfl, by simp, by omega, ⟨by have := hal2 (by trivial); simp; omega, fun h => by cases h⟩, ?_, ?_, (hB.trans Hbg.out).trans Hbg2.out⟩, ?_⟩
            · rw [← Hgo.out, Hdc.out]; simp [putGo, hs, hl]
            · have := Hown2'.out
              rw [← hnum, cells_snoc, cells_snoc] at this
              rw [List.length_append, List.length_append]; exact this
            · show p.length - (((i : Int) + 1).toNat) < p.length - ((i : Int).toNat)
              omega
        · go_wp2_with fail
          refine wp_region_rg (fun i => if i = 9 then some (fun v _ => True) else none) fol (by kernel_rfl) (fun W3 hW hh => ?_)
          clear hh
          repeat (first
            | (refine lex_move _ (by first | exact Or.inl rfl | exact Or.inr rfl) rfl rfl ?_
               simp only [Act.put, Act.eval, Array.getD_eq_getD_getElem?, List.getElem?_toArray, List.getElem?_cons_zero, List.getElem?_cons_succ, Option.getD_some, List.setIfInBounds_toArray, List.set_cons_succ, List.set_cons_zero]
              )
            | (refine lex_float ?_ rfl rfl (fun w1 hb1 hf1 => ?_) ?_
               rotate_left
               (go_simp; (try simp (disch := omega) only [IntWalk.i64_quo, IntWalk.rem_in, IntWalk.i64_in, IntWalk.u64_in, IntWalk.u32_in, IntWalk.u8_in, IntWalk.toNatUp, IntWalk.iteOmega]); (try go_simp); rfl)
               simp only [Act.put, Act.eval, Array.getD_eq_getD_getElem?, List.getElem?_toArray, List.getElem?_cons_zero, List.getElem?_cons_succ, Option.getD_some, List.setIfInBounds_toArray, List.set_cons_succ, List.set_cons_zero]
              )
            | (refine lex_skip rfl ?_
               simp only [Act.put, Act.eval, Array.getD_eq_getD_getElem?, List.getElem?_toArray, List.getElem?_cons_zero, List.getElem?_cons_succ, Option.getD_some, List.setIfInBounds_toArray, List.set_cons_succ, List.set_cons_zero]
              ))
          refine lex_nil ?_
          have z0 := below_cell hW z0
          have z1 := below_cell hW z1
          have z2 := below_cell hW z2
          have t0 := below_cell hW t0
          have t1 := below_cell hW t1
          have Hown := Lib.hid (owns_below Hown.out hW)
          have hB := hB.trans (hW.mono hB.size)
          clear hW
          have Hown1 := Lib.hid (owns_below Hown.out (below_box (W3) (.cells #[.int .u64 (ent p i).k.t, .int .u64 (ent p i).k.s, .int .u64 num] 60)))
          have Hsrc1 := Lib.hid (src3 (W3) (.int .u64 (ent p i).k.t) (.int .u64 (ent p i).k.s) (.int .u64 num))
          have q1 : acc.length + 1 ≤ maxLen := by unfold maxLen; omega
          have q2 : (acc.length + 1) * 24 ≤ 140737488355328 := by omega
          have q3 : w0.heap.size ≤ ((W3).alloc (.cells #[.int .u64 (ent p i).k.t, .int .u64 (ent p i).k.s, .int .u64 num] 60)).heap.size := by have := (hB).size; simp; omega
          have q4 : ∀ u ∈ ([.int .u64 (ent p i).k.t, .int .u64 (ent p i).k.s, .int .u64 num] : List Value), u.oneCell' = true := fun u hu => by
            simp only [List.mem_cons, List.not_mem_nil, or_false] at hu
            rcases hu with rfl | rfl | rfl <;> rfl
          have Q1 := Lib.hid q4; clear q4
          go_wp2_with (at_builtin; go_loud (refine wpList_append_own _ rfl _ _ 35 rfl w0.heap.size 60 i0 (.agg #[.int .u64 0, .int .u64 0, .int .u64 0]) 3 24 und_book hi hz0 hz1 hz2 rfl (by decide) _ _ _ rfl Hown1.out ⟨(W3).heap.size, 0, none⟩ 1 1 [.int .u64 (ent p i).k.t, .int .u64 (ent p i).k.s, .int .u64 num] rfl rfl Hsrc1.out Q1.out q1 q2 q3 ?_; intro v' w1 hown' hgrow hnil; clear hnil; have hg1 := (below_box (W3) (.cells #[.int .u64 (ent p i).k.t, .int .u64 (ent p i).k.s, .int .u64 num] 60)).mono (hB).size; have Hbg := Lib.hid (hg1.grown hgrow q3 (fun k hk => (Hown1.out.lt k hk).1)); clear hg1 hgrow q1 q2 q3 Hown1 Hsrc1 Q1; obtain ⟨a2, cap3, rfl, hx1, hx2⟩ := owns_shape hown'; have Hown' := Lib.hid hown'; clear hown'))
          refine ⟨⟨i + 1, acc ++ [ent p i], true, a2, cap3, rfl, rfl, by simp, by omega, ⟨by simp; omega, fun h => by cases h⟩, ?_, ?_, hB.trans Hbg.out⟩, ?_⟩
          · rw [← Hgo.out, Hdc.out]; simp [putGo, hs]
          · have := Hown'.out
            rw [← hnum, cells_snoc] at this
            rw [List.length_append]; exact this
          · show p.length - (((i : Int) + 1).toNat) < p.length - ((i : Int).toNat)
            omega
    · obtain rfl : i = p.length := by omega
      have hgo := Hgo.out
      rw [List.drop_length] at hgo
      cases dn
      · have t0 := (hB.cell (p := ⟨w.heap.size, 0, none⟩) (show w.heap.size < w0.heap.size by omega)).trans s0
        have t1 := (hB.cell (p := ⟨w.heap.size, 1, none⟩) (show w.heap.size < w0.heap.size by omega)).trans s1
        have Hown1 := Lib.hid (owns_below Hown.out (below_box (wr) (.cells #[.int .u64 s.t, .int .u64 s.s, .int .u64 x] 60)))
        have Hsrc1 := Lib.hid (src3 (wr) (.int .u64 s.t) (.int .u64 s.s) (.int .u64 x))
        have q1 : acc.length + 1 ≤ maxLen := by unfold maxLen; omega
        have q2 : (acc.length + 1) * 24 ≤ 140737488355328 := by omega
        have q3 : w0.heap.size ≤ ((wr).alloc (.cells #[.int .u64 s.t, .int .u64 s.s, .int .u64 x] 60)).heap.size := by have := (hB).size; simp; omega
        have q4 : ∀ u ∈ ([.int .u64 s.t, .int .u64 s.s, .int .u64 x] : List Value), u.oneCell' = true := fun u hu => by
          simp only [List.mem_cons, List.not_mem_nil, or_false] at hu
          rcases hu with rfl | rfl | rfl <;> rfl
        have Q1 := Lib.hid q4; clear q4
        go_wp2_with (at_builtin; go_loud (refine wpList_append_own _ rfl _ _ 35 rfl w0.heap.size 60 i0 (.agg #[.int .u64 0, .int .u64 0, .int .u64 0]) 3 24 und_book hi hz0 hz1 hz2 rfl (by decide) _ _ _ rfl Hown1.out ⟨(wr).heap.size, 0, none⟩ 1 1 [.int .u64 s.t, .int .u64 s.s, .int .u64 x] rfl rfl Hsrc1.out Q1.out q1 q2 q3 ?_; intro v' w1 hown' hgrow hnil; clear hnil; have hg1 := (below_box (wr) (.cells #[.int .u64 s.t, .int .u64 s.s, .int .u64 x] 60)).mono (hB).size; have Hbg := Lib.hid (hg1.grown hgrow q3 (fun k hk => (Hown1.out.lt k hk).1)); clear hg1 hgrow q1 q2 q3 Hown1 Hsrc1 Q1; obtain ⟨a2, cap3, rfl, hx1, hx2⟩ := owns_shape hown'; have Hown' := Lib.hid hown'; clear hown'))
        go_ret
        refine ⟨_, rfl, ?_, hB0.trans ((hB.trans Hbg.out).mono hB0.size)⟩
        have h9 := owns_base Hown'.out (base' := w.heap.size) fun k hk => Nat.le_trans hB0.size (Hown'.out.lt k hk).1
        rw [cells_snoc] at h9
        have e9 : putGo s (.int .u64 x) p false = acc ++ [⟨s, .int .u64 x⟩] := by rw [← hgo]; simp [putGo]
        rw [e9, List.length_append]
        exact h9
      · go_wp2_with fail
        go_ret
        refine ⟨_, rfl, ?_, hB0.trans (hB.mono hB0.size)⟩
        have h9 := owns_base Hown.out (base' := w.heap.size) fun k hk => Nat.le_trans hB0.size (Hown.out.lt k hk).1
        have e9 : putGo s (.int .u64 x) p false = acc := by rw [← hgo]; simp [putGo]
        rw [e9]
        exact h9

theorem remGo_cons (s : St) (e : Ent) (r : List Ent) : remGo s (e :: r) = if e.k = s then remGo s r else e :: remGo s r := by
  by_cases h : e.k = s <;> simp [remGo, h]

set_option maxHeartbeats 2000000 in
set_option maxRecDepth 100000 in
theorem remove_book (s : St) (B : Nat) (p : List Ent) (hn : p.length ≤ 274877906944) (hN : ∀ e ∈ p, U.NumV e.v) (bv : Value) (w : World) (hb : w.ownsRow B 60 3 bv p.length (cellsOf p)) :
    Calls Try.prog 39 #[bv, s.v] w fun e w' => ∃ v, e = .returned v ∧ w'.ownsRow w.heap.size 60 3 v (remGo s p).length (cellsOf (remGo s p)) ∧ Below w.heap.size w w' := by
  obtain ⟨ab, cb, rfl, hcb, hcm⟩ := owns_shape hb
  have Hb := Lib.hid hb; clear hb
  have hB0 := below_box w (.cells #[.int .u64 s.t, .int .u64 s.s] 38)
  have s0 : (w.alloc (.cells #[.int .u64 s.t, .int .u64 s.s] 38)).cell? ⟨w.heap.size, 0, none⟩ = some (.int .u64 s.t) := by simp
  have s1 : (w.alloc (.cells #[.int .u64 s.t, .int .u64 s.s] 38)).cell? ⟨w.heap.size, 1, none⟩ = some (.int .u64 s.s) := by simp
  have hw0 : (w.alloc (.cells #[.int .u64 s.t, .int .u64 s.s] 38)).heap.size = w.heap.size + 1 := by simp
  have hE1 := U.neq_stamp
  have hE2 := U.guard_stamp
  unfold St.v
  obtain ⟨i0, hi, hz0, hz1, hz2⟩ := info_parts info_Entry
  go_enter Try.func39, Try.ntmps39
  go_wp2_with fail
  generalize w.alloc (.cells #[.int .u64 s.t, .int .u64 s.s] 38) = w0 at hB0 s0 s1 hw0 ⊢
  go_loopw [5, 6] (fun vl vi wr => ∃ (i : Nat) (acc : List Ent) (a : Option Addr) (c : Nat), vi = .int .i64 i ∧ vl = .slice a acc.length c ∧ i ≤ p.length ∧ acc.length ≤ i ∧
      acc ++ remGo s (p.drop i) = remGo s p ∧ wr.ownsRow w0.heap.size 60 3 vl acc.length (cellsOf acc) ∧ Below w0.heap.size w0 wr)
    (fun _ vi _ => p.length - (intOf vi).toNat)
  case atStart => exact ⟨0, [], none, 0, rfl, rfl, by omega, by simp, by simp, World.ownsRow_nil _ _ 60 3, Below.refl _ _⟩
  case round =>
    obtain ⟨i, acc, a, c, rfl, rfl, hin, hal, hgo, hown, hB⟩ := hrel
    have Hown := Lib.hid hown; clear hown
    have Hgo := Lib.hid hgo; clear hgo
    by_cases hlt : i < p.length
    · have hii : (i : Int) < (p.length : Int) := by omega
      obtain ⟨g, cap, e1, -, hgl, -⟩ := owns_parts Hb.out (by omega)
      injection e1 with e1 _ f1
      subst e1 f1
      obtain ⟨z0, z1, z2⟩ := book_cells Hb.out hlt
      obtain ⟨num, hnum⟩ := hN (ent p i) (by have : ent p i = p[i] := by simp [ent, hlt]
                                             rw [this]; exact List.getElem_mem _)
      rw [hnum] at z2
      have z0 := (hB.cell (p := ⟨g, i * 3, none⟩) (show g < w0.heap.size by omega)).trans (below_cell hB0 z0)
      have z1 := (hB.cell (p := ⟨g, i * 3 + 1, none⟩) (show g < w0.heap.size by omega)).trans (below_cell hB0 z1)
      have z2 := (hB.cell (p := ⟨g, i * 3 + 2, none⟩) (show g < w0.heap.size by omega)).trans (below_cell hB0 z2)
      have t0 := (hB.cell (p := ⟨w.heap.size, 0, none⟩) (show w.heap.size < w0.heap.size by omega)).trans s0
      have t1 := (hB.cell (p := ⟨w.heap.size, 1, none⟩) (show w.heap.size < w0.heap.size by omega)).trans s1
      have Hdc := Lib.hid (drop_cons hlt)
      go_wp2_with fail
      refine wp_region_rg (fun _ => none) fol (by kernel_rfl) (fun W hW hh => ?_)
      clear hh
      have q0 : ∀ w1, Below W.heap.size W w1 → w1.cell? ⟨g, i * 3, none⟩ = some (.int .u64 (ent p i).k.t) := fun w1 h => below_cell (below_trans hW h) z0
      have q1 : ∀ w1, Below W.heap.size W w1 → w1.cell? ⟨g, i * 3 + 1, none⟩ = some (.int .u64 (ent p i).k.s) := fun w1 h => below_cell (below_trans hW h) z1
      have q2 : ∀ w1, Below W.heap.size W w1 → w1.cell? ⟨w.heap.size, 0, none⟩ = some (.int .u64 s.t) := fun w1 h => below_cell (below_trans hW h) t0
      have q3 : ∀ w1, Below W.heap.size W w1 → w1.cell? ⟨w.heap.size, 1, none⟩ = some (.int .u64 s.s) := fun w1 h => below_cell (below_trans hW h) t1
      repeat (first
        | (refine lex_move _ (by first | exact Or.inl rfl | exact Or.inr rfl) rfl rfl ?_
           simp only [Act.put, Act.eval, Array.getD_eq_getD_getElem?, List.getElem?_toArray, List.getElem?_cons_zero, List.getElem?_cons_succ, Option.getD_some, List.setIfInBounds_toArray, List.set_cons_succ, List.set_cons_zero]
          )
        | (refine lex_float ?_ rfl rfl (fun w1 hb1 hf1 => ?_) ?_
           rotate_left
           (go_simp; (try simp (disch := omega) only [IntWalk.i64_quo, IntWalk.rem_in, IntWalk.i64_in, IntWalk.u64_in, IntWalk.u32_in, IntWalk.u8_in, IntWalk.toNatUp, IntWalk.iteOmega]); (try go_simp); rfl)
           simp only [Act.put, Act.eval, Array.getD_eq_getD_getElem?, List.getElem?_toArray, List.getElem?_cons_zero, List.getElem?_cons_succ, Option.getD_some, List.setIfInBounds_toArray, List.set_cons_succ, List.set_cons_zero]
          )
        | (refine lex_skip rfl ?_
           simp only [Act.put, Act.eval, Array.getD_eq_getD_getElem?, List.getElem?_toArray, List.getElem?_cons_zero, List.getElem?_cons_succ, Option.getD_some, List.setIfInBounds_toArray, List.set_cons_succ, List.set_cons_zero]
          ))
      clear q0 q1 q2 q3
      refine lex_nil ?_
      have z0 := below_cell hW z0
      have z1 := below_cell hW z1
      have z2 := below_cell hW z2
      have t0 := below_cell hW t0
      have t1 := below_cell hW t1
      have Hown := Lib.hid (owns_below Hown.out hW)
      have hB := hB.trans (hW.mono hB.size)
      clear hW
      rw [U.stamp_beq]
      by_cases hs : (ent p i).k = s
      · rw [decide_eq_true hs]
        go_wp2_with fail
        refine ⟨⟨i + 1, acc, a, c, rfl, rfl, by omega, by omega, ?_, Hown.out, hB⟩, ?_⟩
        · rw [← Hgo.out, Hdc.out, remGo_cons, if_pos hs]
        · show p.length - (((i : Int) + 1).toNat) < p.length - ((i : Int).toNat)
          omega
      · rw [decide_eq_false hs]
        have Hown1 := Lib.hid (owns_below Hown.out (below_box (W) (.cells #[.int .u64 (ent p i).k.t, .int .u64 (ent p i).k.s, .int .u64 num] 60)))
        have Hsrc1 := Lib.hid (src3 (W) (.int .u64 (ent p i).k.t) (.int .u64 (ent p i).k.s) (.int .u64 num))
        have q1 : acc.length + 1 ≤ maxLen := by unfold maxLen; omega
        have q2 : (acc.length + 1) * 24 ≤ 140737488355328 := by omega
        have q3 : w0.heap.size ≤ ((W).alloc (.cells #[.int .u64 (ent p i).k.t, .int .u64 (ent p i).k.s, .int .u64 num] 60)).heap.size := by have := (hB).size; simp; omega
        have q4 : ∀ u ∈ ([.int .u64 (ent p i).k.t, .int .u64 (ent p i).k.s, .int .u64 num] : List Value), u.oneCell' = true := fun u hu => by
          simp only [List.mem_cons, List.not_mem_nil, or_false] at hu
          rcases hu with rfl | rfl | rfl <;> rfl
        have Q1 := Lib.hid q4; clear q4
        go_wp2_with (at_builtin; go_loud (refine wpList_append_own _ rfl _ _ 35 rfl w0.heap.size 60 i0 (.agg #[.int .u64 0, .int .u64 0, .int .u64 0]) 3 24 und_book hi hz0 hz1 hz2 rfl (by decide) _ _ _ rfl Hown1.out ⟨(W).heap.size, 0, none⟩ 1 1 [.int .u64 (ent p i).k.t, .int .u64 (ent p i).k.s, .int .u64 num] rfl rfl Hsrc1.out Q1.out q1 q2 q3 ?_; intro v' w1 hown' hgrow hnil; clear hnil; have hg1 := (below_box (W) (.cells #[.int .u64 (ent p i).k.t, .int .u64 (ent p i).k.s, .int .u64 num] 60)).mono (hB).size; have Hbg := Lib.hid (hg1.grown hgrow q3 (fun k hk => (Hown1.out.lt k hk).1)); clear hg1 hgrow q1 q2 q3 Hown1 Hsrc1 Q1; obtain ⟨a2, cap3, rfl, hx1, hx2⟩ := owns_shape hown'; have Hown' := Lib.hid hown'; clear hown'))
        refine ⟨⟨i + 1, acc ++ [ent p i], a2, cap3, rfl, by simp, by omega, by simp; omega, ?_, ?_, hB.trans Hbg.out⟩, ?_⟩
        · rw [← Hgo.out, Hdc.out, remGo_cons, if_neg hs]; simp
        · have := Hown'.out
          rw [← hnum, cells_snoc] at this
          rw [List.length_append]; exact this
        · show p.length - (((i : Int) + 1).toNat) < p.length - ((i : Int).toNat)
          omega
    · obtain rfl : i = p.length := by omega
      have hgo := Hgo.out
      rw [List.drop_length] at hgo
      go_wp2_with fail
      go_ret
      refine ⟨_, rfl, ?_, hB0.trans (hB.mono hB0.size)⟩
      have h9 := owns_base Hown.out (base' := w.heap.size) fun k hk => Nat.le_trans hB0.size (Hown.out.lt k hk).1
      have e9 : remGo s p = acc := by rw [← hgo]; simp [remGo]
      rw [e9]
      exact h9
end Go.Proofs.Ytagcohpghgnalaa.BK
