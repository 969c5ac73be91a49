/-
  What an iterator of an index keeps, and what it may rely on, while the loop's body runs.
-/
import Derived.RangeFuncNested
import Derived.RangeFuncBound
import Derived.RangeFuncCalls
import Derived.RangeFuncLeaves
import Derived.Shelf.Abstract
import Derived.Shelf.RegionOpen
import Derived.WalkKit
import Derived.OwnWalkIn
import Derived.TacticsInMore
import Derived.LoopNIn
import Derived.LoopIn
import Derived.Test.YtagcohpghgnalaaCW7U
import Derived.Test.YtagcohpghgnalaaCGRU
import Derived.Test.YtagcohpghgnalaaCGB
set_option linter.unusedSimpArgs false
set_option linter.unusedVariables false
namespace Go.Proofs.Ytagcohpghgnalaa.U
open Go.RowKit Go.RG Go.Hp Go.Pg Go.Shelf Go.Proofs.Ytagcohpghgnalaa
attribute [local go_sem] Oper.semAt_some


/-- the blocks that a loop's body leaves as they are: Pr W k says that block k is such a one in W -/
structure Guard (n0 : World → Prop) (Kp : World → World → Prop) (Pr : World → Nat → Prop) : Prop where
  fresh : ∀ W W1, n0 W → Below W.heap.size W W1 → n0 W1 ∧ (∀ k, Pr W k → Pr W1 k) ∧ ∀ k o, W.heap.size ≤ k → W1.heap[k]? = some o → o.isCells = true → Pr W1 k
  keep : ∀ W W', n0 W → Kp W W' → n0 W' ∧ W.heap.size ≤ W'.heap.size ∧ ∀ k, Pr W k → Pr W' k ∧ W'.heap[k]? = W.heap[k]?

/-- a stamp and its number -/
structure Ev where
  k : St
  n : Int
def numOf : Value → Int
  | .int _ n => n
  | _ => 0
def evs (l : List Ent) : List Ev := l.map fun e => ⟨e.k, numOf e.v⟩
def NumV (v : Value) : Prop := ∃ n : Int, v = .int .u64 n

theorem evs_append (a b : List Ent) : evs (a ++ b) = evs a ++ evs b := by simp [evs]
theorem evs_length (a : List Ent) : (evs a).length = a.length := by simp [evs]

/-- the rows that an iterator goes along, from a stamp on -/
def rowsFrom (R : List (List Ent)) (s : St) : List (List Ent) := (pageAt R (pageOf R s)).drop (entOf R s) :: R.drop (pageOf R s + 1)
theorem rowsFrom_flat (R : List (List Ent)) (s : St) : (rowsFrom R s).flatten = behind' R s := by simp [rowsFrom, behind']
theorem rowsFrom_len {R : List (List Ent)} {s : St} (h : pageOf R s < R.length) : (rowsFrom R s).length = R.length - pageOf R s := by
  simp only [rowsFrom, List.length_cons, List.length_drop]; omega
theorem rowsFrom_zero (R : List (List Ent)) (s : St) : pageAt (rowsFrom R s) 0 = (pageAt R (pageOf R s)).drop (entOf R s) := by simp [rowsFrom, pageAt]
theorem rowsFrom_succ (R : List (List Ent)) (s : St) (j : Nat) : pageAt (rowsFrom R s) (j + 1) = (pageAt R (pageOf R s + (j + 1))).drop 0 := by
  simp only [rowsFrom, pageAt, List.getD_eq_getElem?_getD, List.getElem?_cons_succ, List.getElem?_drop, List.drop_zero]
  congr 2
  omega
/-- what has come when j rows are over, and k entries of the next one -/
def sofar (L : List (List Ent)) (j k : Nat) : List Ent := (L.take j).flatten ++ (pageAt L j).take k
theorem sofar_zero (L : List (List Ent)) : sofar L 0 0 = [] := by simp [sofar]
theorem sofar_next {L : List (List Ent)} {j : Nat} (hj : j < L.length) : sofar L j (pageAt L j).length = sofar L (j + 1) 0 := by
  have e : L.take (j + 1) = L.take j ++ [pageAt L j] := by rw [List.take_add_one, List.getElem?_eq_getElem hj]; simp [pageAt, hj]
  unfold sofar
  rw [e, List.take_length, List.take_zero, List.flatten_append, List.append_nil, List.flatten_singleton]
theorem sofar_end (L : List (List Ent)) : sofar L L.length 0 = L.flatten := by simp [sofar]
theorem sofar_succ {L : List (List Ent)} {j k : Nat} (hk : k < (pageAt L j).length) : sofar L j (k + 1) = sofar L j k ++ [ent (pageAt L j) k] := by
  have e : (pageAt L j).take (k + 1) = (pageAt L j).take k ++ [ent (pageAt L j) k] := by rw [List.take_add_one, List.getElem?_eq_getElem hk]; simp [ent, hk]
  unfold sofar
  rw [e, List.append_assoc]
theorem sofar_pre {L : List (List Ent)} {j : Nat} (k : Nat) (hj : j < L.length) : sofar L j k <+: L.flatten := by
  rw [flat_split hj]
  exact List.prefix_append_right_inj _ |>.2 ((List.take_prefix _ _).trans (List.prefix_append _ _))
theorem sofar_lt {L : List (List Ent)} {j k : Nat} (hj : j < L.length) (hk : k < (pageAt L j).length) : (sofar L j k).length < L.flatten.length := by
  have h := (sofar_pre (k + 1) hj).length_le
  rw [sofar_succ hk, List.length_append, List.length_singleton] at h
  omega

/-- the blocks of A are such as the loop's body leaves alone, and lie as they lay in w3 -/
structure Kept (n0 : World → Prop) (Pr : World → Nat → Prop) (A : Nat → Prop) (w3 wr : World) : Prop where
  lo : n0 wr
  pr : ∀ k, A k → Pr wr k
  lt : ∀ k, A k → k < wr.heap.size
  eq : ∀ k, A k → wr.heap[k]? = w3.heap[k]?
theorem Kept.below {n0 : World → Prop} {Kp : World → World → Prop} {Pr : World → Nat → Prop} {A : Nat → Prop} {w3 wr W : World} (hG : Guard n0 Kp Pr) (h : Kept n0 Pr A w3 wr) (hb : Below wr.heap.size wr W) : Kept n0 Pr A w3 W :=
  ⟨(hG.fresh wr W h.lo hb).1, fun k hk => (hG.fresh wr W h.lo hb).2.1 k (h.pr k hk), fun k hk => Nat.lt_of_lt_of_le (h.lt k hk) hb.size, fun k hk => (hb.block k (h.lt k hk)).trans (h.eq k hk)⟩
theorem Kept.keep {n0 : World → Prop} {Kp : World → World → Prop} {Pr : World → Nat → Prop} {A : Nat → Prop} {w3 wr W : World} (hG : Guard n0 Kp Pr) (h : Kept n0 Pr A w3 wr) (hb : Kp wr W) : Kept n0 Pr A w3 W := by
  obtain ⟨h0, h1, h2⟩ := hG.keep wr W h.lo hb
  exact ⟨h0, fun k hk => (h2 k (h.pr k hk)).1, fun k hk => Nat.lt_of_lt_of_le (h.lt k hk) h1, fun k hk => (h2 k (h.pr k hk)).2.trans (h.eq k hk)⟩
theorem Kept.cell {n0 : World → Prop} {Pr : World → Nat → Prop} {A : Nat → Prop} {w3 wr : World} (h : Kept n0 Pr A w3 wr) {b o : Nat} {v : Value} (hb : A b) (hc : w3.cell? ⟨b, o, none⟩ = some v) : wr.cell? ⟨b, o, none⟩ = some v := by
  rw [World.cell?_of_block (w := w3) (h.eq b hb)]; exact hc

theorem und_rows : Try.prog.underlying 80 = some (.slice 89) := by kernel_rfl
theorem clone_none (w : World) : Calls Try.prog 76 #[.slice none 0 0] w fun e w' => (∃ a c, e = .returned (.slice a 0 c)) ∧ Below w.heap.size w w' := by
  have he := fun w => Lib.run_eql_slice_nil (P := Try.prog) w 80 89 none 0 0 0 0 und_rows
  go_enter Try.func76, Try.ntmps76
  go_wp2_with fail
  go_ret
  exact ⟨⟨_, _, rfl⟩, Below.refl _ _⟩
theorem clone_zero {vr : Value} {pvs : List Value} {w0 : World} (h : w0.ownsRow 0 89 1 vr 0 pvs) : ∃ a c, vr = .slice a 0 c ∧ ∀ w, Calls Try.prog 76 #[.slice a 0 c] w fun e w' => (∃ a c, e = .returned (.slice a 0 c)) ∧ Below w.heap.size w w' := by
  rcases h.2 with ⟨rfl, _⟩ | ⟨g, cap, cur, rfl, _⟩
  · exact ⟨none, 0, rfl, clone_none⟩
  · refine ⟨_, cap, rfl, fun w => ?_⟩
    refine (RU.clone_any ⟨g, 0, none⟩ 0 cap [] rfl (fun v h => by cases h) (by omega) w (fun j u h => by cases h)).mono ?_
    rintro e w' ⟨v, rfl, hown, -, hb⟩
    obtain ⟨a, c, rfl, -⟩ := owns_shape hown
    exact ⟨⟨a, c, rfl⟩, hb⟩

theorem J_below {β : Type} {B : Nat} {J : β → World → Prop} (hJ : AbidesFrom B J) {s : β} {W1 W2 : World} (h : J s W1) (hb : Below W1.heap.size W1 W2) : J s W2 :=
  hJ s W1 W2 none h ⟨hb.os, hb.tape, hb.output, hb.size, fun k hk _ => hb.block k hk⟩ (fun r e => by cases e)

set_option maxHeartbeats 1000000 in
set_option maxRecDepth 100000 in
theorem up_stops (n : Nat) (bx size : Nat) (h0s : 0 < size) (R : List (List Ent)) (hm : R.length ≤ 274877906944) (hO : Ordered R) (hl : ∀ i, i < R.length → (pageAt R i).length ≤ 64) (hN : ∀ e ∈ R.flatten, NumV e.v) (s : St)
    (S : Nat → Prop) (vr : Value) (pvs : List Value) (Bx Bs : Nat) (n0 : World → Prop) (w : World) (hM : MemV w bx size R S vr pvs) (hcx : w.cell? ⟨Bx, 0, none⟩ = some (.pointer (some ⟨bx, 0, none⟩)))
    (hs0 : w.cell? ⟨Bs, 0, none⟩ = some (.int .u64 s.t)) (hs1 : w.cell? ⟨Bs, 1, none⟩ = some (.int .u64 s.s)) (Kp : World → World → Prop) (Pr : World → Nat → Prop) (hG : Guard n0 Kp Pr) (hn0 : n0 w)
    (hPr : ∀ W, Below w.heap.size w W → ∀ i, i < R.length → ∀ k, (val pvs i).ownBlock = some k → Pr W k) :
    SeqStopsK Fence.wide n Try.prog 75 #[.pointer (some ⟨Bx, 0, none⟩), .pointer (some ⟨Bs, 0, none⟩)] (fun e : Ev => #[e.k.v, .int .u64 e.n]) Kp (fun xs => xs = evs (behind' R s)) (fun pre => pre <+: evs (behind' R s))
      (evs (behind' R s)).length w := by
  rw [← rowsFrom_flat R s]
  intro l J Jx W hW hJ hJx hY hJ0
  have hx := below_cell hW hcx
  have ht0 := below_cell hW hs0
  have ht1 := below_cell hW hs1
  have hM := hM.below hW
  obtain ⟨m0, m1, m2⟩ := hM.cells
  have HM := Lib.hid hM; clear hM
  have hsz' : ((size : Int) == 0) = false := by rw [beq_eq_false_iff_ne]; omega
  refine callsIn_wide.2 ?_
  show Calls Try.prog 75 #[.func (.yield l) #[] #[], .pointer (some ⟨Bx, 0, none⟩), .pointer (some ⟨Bs, 0, none⟩)] W _
  go_enter Try.func75, Try.ntmps75
  go_wp2_with fail
  refine (bare_any bx size W m0).mono ?_
  rintro e w1 ⟨rfl, rfl⟩
  rw [hsz']
  go_wp2_with fail
  rcases Nat.eq_zero_or_pos R.length with h0 | hR
  · obtain rfl := List.eq_nil_of_length_eq_zero h0
    have hPl := place_none s bx size S vr pvs W HM.out
    unfold St.v at hPl
    refine hPl.mono ?_
    rintro e w1 ⟨rfl, hB1⟩
    obtain ⟨a, c, rfl, hC⟩ := clone_zero HM.out.rows
    go_wp2_with fail
    refine wp_region_rg (fun i => if i = 12 then some (fun v _ => ∃ a' c', v = .slice a' 0 c') else none) fol (by kernel_rfl) (fun W2 hW2 hh => ?_)
    clear hh
    have hB2 := below_trans hB1 hW2
    have c1 : ∀ w1, Below W2.heap.size W2 w1 → w1.cell? ⟨Bx, 0, none⟩ = some (.pointer (some ⟨bx, 0, none⟩)) := fun w1 h => below_cell (below_trans hB2 h) hx
    have c2 : ∀ w1, Below W2.heap.size W2 w1 → w1.cell? ⟨bx, 2, none⟩ = some (.slice a 0 c) := fun w1 h => below_cell (below_trans hB2 h) m2
    repeat (first
      | (refine lex_move _ (by first | exact Or.inl rfl | exact Or.inr rfl) rfl rfl ?_
         simp only [Act.put, Act.eval, Array.getD_eq_getD_getElem?, List.getElem?_toArray, List.getElem?_cons_zero, List.getElem?_cons_succ, Option.getD_some, List.setIfInBounds_toArray, List.set_cons_succ, List.set_cons_zero]
        )
      | (refine lex_float ?_ rfl rfl (fun w1 hb1 hf1 => ?_) ?_
         rotate_left
         (go_simp; (try simp (disch := omega) only [IntWalk.i64_quo, IntWalk.rem_in, IntWalk.i64_in, IntWalk.u64_in, IntWalk.u32_in, IntWalk.u8_in, IntWalk.toNatUp, IntWalk.iteOmega]); (try go_simp); rfl)
         simp only [Act.put, Act.eval, Array.getD_eq_getD_getElem?, List.getElem?_toArray, List.getElem?_cons_zero, List.getElem?_cons_succ, Option.getD_some, List.setIfInBounds_toArray, List.set_cons_succ, List.set_cons_zero]
        )
      | (refine lex_skip rfl ?_
         simp only [Act.put, Act.eval, Array.getD_eq_getD_getElem?, List.getElem?_toArray, List.getElem?_cons_zero, List.getElem?_cons_succ, Option.getD_some, List.setIfInBounds_toArray, List.set_cons_succ, List.set_cons_zero]
        ))
    refine lex_make _ rfl (by exact fun _ _ _ h _ => h) rfl (fun w1 hb1 hf1 => ?_) ?_
    · (unfold makes; go_simp; simp only [makesUpon])
      refine (hC w1).mono ?_
      rintro e w' ⟨⟨a', c', rfl⟩, hb⟩
      exact ⟨_, rfl, hb, a', c', rfl⟩
    rintro v w3 hB3 ⟨a', c', rfl⟩
    simp only [Act.put, Act.eval, Array.getD_eq_getD_getElem?, List.getElem?_toArray, List.getElem?_cons_zero, List.getElem?_cons_succ, Option.getD_some, List.setIfInBounds_toArray, List.set_cons_succ, List.set_cons_zero]
    repeat (first
      | (refine lex_move _ (by first | exact Or.inl rfl | exact Or.inr rfl) rfl rfl ?_
         simp only [Act.put, Act.eval, Array.getD_eq_getD_getElem?, List.getElem?_toArray, List.getElem?_cons_zero, List.getElem?_cons_succ, Option.getD_some, List.setIfInBounds_toArray, List.set_cons_succ, List.set_cons_zero]
        )
      | (refine lex_float ?_ rfl rfl (fun w1 hb1 hf1 => ?_) ?_
         rotate_left
         (go_simp; (try simp (disch := omega) only [IntWalk.i64_quo, IntWalk.rem_in, IntWalk.i64_in, IntWalk.u64_in, IntWalk.u32_in, IntWalk.u8_in, IntWalk.toNatUp, IntWalk.iteOmega]); (try go_simp); rfl)
         simp only [Act.put, Act.eval, Array.getD_eq_getD_getElem?, List.getElem?_toArray, List.getElem?_cons_zero, List.getElem?_cons_succ, Option.getD_some, List.setIfInBounds_toArray, List.set_cons_succ, List.set_cons_zero]
        )
      | (refine lex_skip rfl ?_
         simp only [Act.put, Act.eval, Array.getD_eq_getD_getElem?, List.getElem?_toArray, List.getElem?_cons_zero, List.getElem?_cons_succ, Option.getD_some, List.setIfInBounds_toArray, List.set_cons_succ, List.set_cons_zero]
        ))
    refine lex_nil ?_
    have hJ3 : J [] w3 := J_below hJ hJ0 (below_trans hB2 hB3)
    go_wp2_with fail
    go_loopw [34] (fun v wr => v = .int .i64 0 ∧ J [] wr) (fun _ _ => 0)
    case atStart => exact ⟨rfl, hJ3⟩
    case round =>
      obtain ⟨rfl, hJ4⟩ := hrel
      go_wp2_with fail
      go_end0
      exact ⟨⟨_, rfl⟩, .inl ⟨_, (by simp [rowsFrom, pageAt, evs]), hJ4⟩⟩
  · have hPl := place_some s bx size (by omega) R hR (by omega) hO (fun i hi => by have := hl i hi; omega) S vr pvs W HM.out
    unfold St.v at hPl
    refine hPl.mono ?_
    rintro e w1 ⟨rfl, hB1⟩
    have hp := pageOf_lt (s := s) hR
    obtain ⟨g, cap, rfl, hg, hc, hcm, hrow, -⟩ := HM.out.row hR
    have hmin : min (pageOf R s : Int) (R.length : Int) = (pageOf R s : Int) := by omega
    go_wp2_with fail
    refine wp_region_rg (fun i => if i = 12 then some (fun v w' => w'.ownsRow w1.heap.size 89 1 v (R.length - pageOf R s) (pvs.drop (pageOf R s))) else none) fol (by kernel_rfl) (fun W2 hW2 hh => ?_)
    clear hh
    have hB2 := below_trans hB1 hW2
    have c1 : ∀ w1, Below W2.heap.size W2 w1 → w1.cell? ⟨Bx, 0, none⟩ = some (.pointer (some ⟨bx, 0, none⟩)) := fun w1 h => below_cell (below_trans hB2 h) hx
    have c2 : ∀ w1, Below W2.heap.size W2 w1 → w1.cell? ⟨bx, 2, none⟩ = some (.slice (some ⟨g, 0, none⟩) R.length cap) := fun w1 h => below_cell (below_trans hB2 h) m2
    repeat (first
      | (refine lex_move _ (by first | exact Or.inl rfl | exact Or.inr rfl) rfl rfl ?_
         simp only [Act.put, Act.eval, Array.getD_eq_getD_getElem?, List.getElem?_toArray, List.getElem?_cons_zero, List.getElem?_cons_succ, Option.getD_some, List.setIfInBounds_toArray, List.set_cons_succ, List.set_cons_zero]
        )
      | (refine lex_float ?_ rfl rfl (fun w1 hb1 hf1 => ?_) ?_
         rotate_left
         (go_simp; (try simp (disch := omega) only [IntWalk.i64_quo, IntWalk.rem_in, IntWalk.i64_in, IntWalk.u64_in, IntWalk.u32_in, IntWalk.u8_in, IntWalk.toNatUp, IntWalk.iteOmega]); (try go_simp); rfl)
         simp only [Act.put, Act.eval, Array.getD_eq_getD_getElem?, List.getElem?_toArray, List.getElem?_cons_zero, List.getElem?_cons_succ, Option.getD_some, List.setIfInBounds_toArray, List.set_cons_succ, List.set_cons_zero]
        )
      | (refine lex_skip rfl ?_
         simp only [Act.put, Act.eval, Array.getD_eq_getD_getElem?, List.getElem?_toArray, List.getElem?_cons_zero, List.getElem?_cons_succ, Option.getD_some, List.setIfInBounds_toArray, List.set_cons_succ, List.set_cons_zero]
        ))
    refine lex_make _ rfl (by exact fun _ _ _ h hb => owns_below h hb) rfl (fun w1 hb1 hf1 => ?_) ?_
    · (unfold makes; go_simp; simp only [makesUpon])
      have hrl := owns_length HM.out.rows
      have hb9 := below_trans hB2 hb1
      refine (RU.clone_any ⟨g, pageOf R s, none⟩ (R.length - pageOf R s) (cap - pageOf R s) (pvs.drop (pageOf R s)) (by rw [List.length_drop, hrl]; omega) (fun v hv => HM.out.rows_one v (List.mem_of_mem_drop hv)) (by omega) w1 (fun j u hj => ?_)).mono ?_
      · rw [List.getElem?_drop] at hj
        rw [Addr.add_lit]
        have hu := hrow (pageOf R s + j) (by have := (List.getElem?_eq_some_iff.1 hj).1; omega)
        have e : val pvs (pageOf R s + j) = u := by simp [val, hj]
        rw [e] at hu
        exact below_cell hb9 hu
      rintro e w' ⟨v, rfl, hown, -, hb⟩
      exact ⟨_, rfl, hb, owns_base hown fun k hk => Nat.le_trans (Nat.le_trans hW2.size hb1.size) (hown.lt k hk).1⟩
    rintro v w3 hB3 hown
    obtain ⟨g', cap', rfl, hg'1, hg'2, hcl, hcm', hcell', -⟩ := owns_parts hown (by omega)
    simp only [Act.put, Act.eval, Array.getD_eq_getD_getElem?, List.getElem?_toArray, List.getElem?_cons_zero, List.getElem?_cons_succ, Option.getD_some, List.setIfInBounds_toArray, List.set_cons_succ, List.set_cons_zero]
    repeat (first
      | (refine lex_move _ (by first | exact Or.inl rfl | exact Or.inr rfl) rfl rfl ?_
         simp only [Act.put, Act.eval, Array.getD_eq_getD_getElem?, List.getElem?_toArray, List.getElem?_cons_zero, List.getElem?_cons_succ, Option.getD_some, List.setIfInBounds_toArray, List.set_cons_succ, List.set_cons_zero]
        )
      | (refine lex_float ?_ rfl rfl (fun w1 hb1 hf1 => ?_) ?_
         rotate_left
         (go_simp; (try simp (disch := omega) only [IntWalk.i64_quo, IntWalk.rem_in, IntWalk.i64_in, IntWalk.u64_in, IntWalk.u32_in, IntWalk.u8_in, IntWalk.toNatUp, IntWalk.iteOmega]); (try go_simp); rfl)
         simp only [Act.put, Act.eval, Array.getD_eq_getD_getElem?, List.getElem?_toArray, List.getElem?_cons_zero, List.getElem?_cons_succ, Option.getD_some, List.setIfInBounds_toArray, List.set_cons_succ, List.set_cons_zero]
        )
      | (refine lex_skip rfl ?_
         simp only [Act.put, Act.eval, Array.getD_eq_getD_getElem?, List.getElem?_toArray, List.getElem?_cons_zero, List.getElem?_cons_succ, Option.getD_some, List.setIfInBounds_toArray, List.set_cons_succ, List.set_cons_zero]
        ))
    refine lex_nil ?_
    have hJ3 : J [] w3 := J_below hJ hJ0 (below_trans hB2 hB3)
    have hK : Kept n0 Pr (fun k => k = g' ∨ ∃ i, i < R.length ∧ (val pvs i).ownBlock = some k) w3 w3 := by
      have hz1 := hW.size
      have hz2 := hB1.size
      have hz3 := (below_trans hW2 hB3).size
      refine ⟨(hG.fresh w w3 hn0 (hW.trans ((below_trans hB2 hB3).mono hz1))).1, ?_, ?_, fun _ _ => rfl⟩
      · rintro k (rfl | ⟨i, hi, hk⟩)
        · have hrl := owns_length HM.out.rows
          have hlt : pageOf R s < pvs.length := by omega
          have h9 := hcell' 0 (by omega)
          rw [List.getElem?_drop, List.getElem?_eq_getElem (by omega)] at h9
          obtain ⟨o, ho, hoc⟩ := cells_of_cell h9
          exact (hG.fresh w1 w3 (hG.fresh w w1 hn0 (hW.trans (hB1.mono hz1))).1 (below_trans hW2 hB3)).2.2 k o hg'1 ho hoc
        · exact hPr w3 (hW.trans ((below_trans hB2 hB3).mono hz1)) i hi k hk
      · rintro k (rfl | ⟨i, hi, hk⟩)
        · exact hg'2
        · have := owns_lt (HM.out.pages i hi).row hk
          omega
    have hLl := rowsFrom_len hp
    have hpg : ∀ i, i < R.length → PageIs 92 w3 (val pvs i) (pageAt R i) := fun i hi => (HM.out.pages i hi).below (below_trans hB2 hB3)
    have Hpg := Lib.hid hpg; clear hpg
    have Hcell' := Lib.hid hcell'; clear hcell'
    clear c1 c2 hrow hown
    go_wp2_with fail
    refine (wpIn_wide (n := n)).1 ?_
    gi_loopw [5, 34] (fun vo vj wr => ∃ j off : Nat, vj = .int .i64 j ∧ vo = .int .i64 off ∧ j ≤ R.length - pageOf R s ∧ (j < R.length - pageOf R s → off ≤ (pageAt R (pageOf R s + j)).length ∧ pageAt (rowsFrom R s) j = (pageAt R (pageOf R s + j)).drop off) ∧
      J (evs (sofar (rowsFrom R s) j 0)) wr ∧ Kept n0 Pr (fun k => k = g' ∨ ∃ i, i < R.length ∧ (val pvs i).ownBlock = some k) w3 wr) (fun _ vj _ => R.length - pageOf R s - (intOf vj).toNat)
    case atStart => exact ⟨0, entOf R s, rfl, rfl, by omega, fun _ => ⟨entOf_le R s, rowsFrom_zero R s⟩, by rw [sofar_zero]; exact hJ3, hK⟩
    case round =>
      obtain ⟨j, off, rfl, rfl, hjl, hoff, hJ4, hK4⟩ := hrel
      by_cases hj : j < R.length - pageOf R s
      · obtain ⟨ho1, ho2⟩ := hoff hj
        have hjj : (j : Int) < ((R.length - pageOf R s : Nat) : Int) := by omega
        obtain ⟨g2, cap2, hv2, hg2, hc2, hcm2, hpage, hone, -⟩ := (Hpg.out _ (by omega)).parts (hO.full (pageOf R s + j) (by omega))
        have hcl4 : wr.cell? ⟨g', j, none⟩ = some (.slice (some ⟨g2, 0, none⟩) (pageAt R (pageOf R s + j)).length cap2) := by
          refine hK4.cell (Or.inl rfl) ?_
          have hrl := owns_length HM.out.rows
          have hlt : pageOf R s + j < pvs.length := by omega
          rw [Hcell'.out j (by omega), List.getElem?_drop, List.getElem?_eq_getElem hlt, ← hv2]
          simp [val, hlt]
        have hq : ∀ i, i < (pageAt R (pageOf R s + j)).length → ent (pageAt R (pageOf R s + j)) i ∈ R.flatten := fun i hi => by
          refine List.mem_flatten.2 ⟨_, pageAt_mem (i := pageOf R s + j) (by omega), ?_⟩
          have : ent (pageAt R (pageOf R s + j)) i = (pageAt R (pageOf R s + j))[i] := by simp [ent, hi]
          rw [this]; exact List.getElem_mem _
        have hlq := hl (pageOf R s + j) (by omega)
        have hjL : j < (rowsFrom R s).length := by omega
        have hA2 := Lib.hid (show g2 = g' ∨ ∃ i, i < R.length ∧ (val pvs i).ownBlock = some g2 from Or.inr ⟨_, (by omega : pageOf R s + j < R.length), by rw [hv2]; rfl⟩)
        have hL2 : (pageAt (rowsFrom R s) j).length = (pageAt R (pageOf R s + j)).length - off := by rw [ho2, List.length_drop]
        have hnext := sofar_next (L := rowsFrom R s) (j := j) hjL
        rw [hL2] at hnext
        by_cases hce : cap2 = off
        · have hz : (pageAt R (pageOf R s + j)).length - off = 0 := by omega
          gi_wp2_with fail
          gi_loopw [42] (fun vk w5 => vk = .int .i64 0 ∧ J (evs (sofar (rowsFrom R s) j 0)) w5 ∧ Kept n0 Pr (fun k => k = g' ∨ ∃ i, i < R.length ∧ (val pvs i).ownBlock = some k) w3 w5) (fun _ _ => 0)
          case atStart => exact ⟨rfl, hJ4, hK4⟩
          case round =>
            obtain ⟨rfl, hJ5, hK5⟩ := hrel
            gi_wp2_with fail
            go_roundw
            case rel => exact ⟨j + 1, 0, rfl, rfl, by omega, fun _ => ⟨Nat.zero_le _, rowsFrom_succ R s j⟩, by rw [← hnext, hz]; exact hJ5, hK5⟩
            case measure => simp [intOf]; omega
        · gi_wp2_with fail
          gi_loopw [42] (fun vk w5 => ∃ k : Nat, vk = .int .i64 k ∧ k ≤ (pageAt R (pageOf R s + j)).length - off ∧ J (evs (sofar (rowsFrom R s) j k)) w5 ∧ Kept n0 Pr (fun k => k = g' ∨ ∃ i, i < R.length ∧ (val pvs i).ownBlock = some k) w3 w5)
            (fun vk _ => (pageAt R (pageOf R s + j)).length - off - (intOf vk).toNat)
          case atStart => exact ⟨0, rfl, by omega, hJ4, hK4⟩
          case round =>
            obtain ⟨k, rfl, hkl, hJ5, hK5⟩ := hrel
            by_cases hk : k < (pageAt R (pageOf R s + j)).length - off
            · obtain ⟨z1, z2, z3⟩ := hpage (off + k) (by omega)
              obtain ⟨num, hnum⟩ := hN _ (hq (off + k) (by omega))
              have he : ent (pageAt (rowsFrom R s) j) k = ent (pageAt R (pageOf R s + j)) (off + k) := by
                rw [ho2]; simp [ent, List.getElem?_drop]
              have hsx := sofar_succ (L := rowsFrom R s) (j := j) (k := k) (by omega)
              have hlx := sofar_lt (L := rowsFrom R s) (j := j) (k := k) hjL (by omega)
              have hpx := sofar_pre (L := rowsFrom R s) (j := j) (k + 1) hjL
              rw [he] at hsx
              rw [hnum] at z3
              have e3 : (off + k) * 3 = off * 3 + k * 3 := by omega
              rw [e3] at z1 z2 z3
              have z1 := hK5.cell hA2.out z1
              have z2 := hK5.cell hA2.out z2
              have z3 := hK5.cell hA2.out z3
              generalize hee : ent (pageAt R (pageOf R s + j)) (off + k) = en at z1 z2 z3 hsx hnum
              have hkk : (k : Int) < (((pageAt R (pageOf R s + j)).length - off : Nat) : Int) := by omega
              have hJ6 := J_below hJ hJ5 (below_box wr (.cells #[.int .u64 en.k.t, .int .u64 en.k.s, .int .u64 num] 92))
              obtain ⟨fn, tmps, assign, body, hy, hR⟩ := hY _ ⟨en.k, num⟩ _ hJ6 (by rw [evs_length, evs_length]; exact hlx)
              dsimp only [St.v] at hy
              gi_wp2_with fail
              refine ⟨fun h => (by cases h), hR.mono ?_⟩
              rintro e W3 (⟨rfl, hJ7, hk7⟩ | ⟨rfl, hJx7⟩)
              · gi_wp2_with fail
                go_roundw
                case rel => exact ⟨k + 1, rfl, by omega, by rw [hsx, evs_append]; simpa [evs, hnum, numOf] using hJ7, (hK5.below hG (below_box _ _)).keep hG hk7⟩
                case measure => show _ - (((k : Int) + 1).toNat) < _ - ((k : Int).toNat); omega
              · gi_wp2_with fail
                refine bodyPost_ret (results_none rfl _ _ _) rfl ?_
                refine ⟨⟨_, rfl⟩, .inr ⟨_, ?_, hJx7⟩⟩
                have e4 : evs (sofar (rowsFrom R s) j (k + 1)) = evs (sofar (rowsFrom R s) j k) ++ [⟨en.k, num⟩] := by rw [hsx, evs_append]; simp [evs, hnum, numOf]
                rw [← e4]
                exact hpx.map _
            · obtain rfl : k = (pageAt R (pageOf R s + j)).length - off := by omega
              gi_wp2_with fail
              go_roundw
              case rel => exact ⟨j + 1, 0, rfl, rfl, by omega, fun _ => ⟨Nat.zero_le _, rowsFrom_succ R s j⟩, by rw [← hnext]; exact hJ5, hK5⟩
              case measure => show _ - (((j : Int) + 1).toNat) < _ - ((j : Int).toNat); omega
      · obtain rfl : j = R.length - pageOf R s := by omega
        gi_wp2_with fail
        go_end0
        refine ⟨⟨_, rfl⟩, .inl ⟨_, rfl, ?_⟩⟩
        rw [← sofar_end, hLl]
        exact hJ4

/-- every block of cells that is not in T lies as it lay -/
structure KeepC (T : Nat → Prop) (W W' : World) : Prop where
  size : W.heap.size ≤ W'.heap.size
  block : ∀ k o, ¬ T k → W.heap[k]? = some o → o.isCells = true → W'.heap[k]? = some o
theorem KeepC.refl (T : Nat → Prop) (W : World) : KeepC T W W := ⟨Nat.le_refl _, fun _ _ _ h _ => h⟩
theorem KeepC.trans {T : Nat → Prop} {A B C : World} (h : KeepC T A B) (k : KeepC T B C) : KeepC T A C := ⟨Nat.le_trans h.size k.size, fun i o hi ho hc => k.block i o hi (h.block i o hi ho hc) hc⟩
theorem KeepC.below {T : Nat → Prop} {A B : World} (h : Below A.heap.size A B) : KeepC T A B := ⟨h.size, fun k o _ ho _ => below_heap h ho⟩
theorem KeepC.ext {T : Nat → Prop} {A B : World} (h : Ext T A B) : KeepC T A B := ⟨h.size, fun _ _ hk ho _ => h.heap ho hk⟩
theorem KeepC.putObj {T : Nat → Prop} {w : World} (W : World) (l : Nat) (o o' : Obj) (_ : w.heap.size ≤ l) (h : W.heap[l]? = some o) (hc : o.isCells = false) (_ : o.isWalk = false) : KeepC T W (W.putObj l o') :=
  have hg := grownBy_putObj' W l o'
  ⟨hg.size, fun k o1 _ ho hc1 => (hg.block k (block_lt_of_heap ho) (fun e => by
    injection e with e
    subst e
    rw [h] at ho
    injection ho with ho
    subst ho
    rw [hc] at hc1
    cases hc1)).trans ho⟩
theorem guard_keepC {n0 : Nat} {T : Nat → Prop} (hT : ∀ k, T k → k < n0) : Guard (fun W => n0 ≤ W.heap.size) (KeepC T) (fun W k => ¬ T k ∧ ∃ o, W.heap[k]? = some o ∧ o.isCells = true) where
  fresh := fun W W1 hn hb => ⟨Nat.le_trans hn hb.size, fun k ⟨h1, o, h2, h3⟩ => ⟨h1, o, below_heap hb h2, h3⟩, fun k o hk ho hc => ⟨fun h => by have := hT k h; omega, o, ho, hc⟩⟩
  keep := fun W W' hn h => ⟨Nat.le_trans hn h.size, h.size, fun k ⟨h1, o, h2, h3⟩ => ⟨⟨h1, o, h.block k o h1 h2 h3, h3⟩, by rw [h2]; exact h.block k o h1 h2 h3⟩⟩

/-- Up lays its index and its stamp into two blocks; the function value captures both -/
theorem up_call (p : Option Addr) (s : St) (w : World) :
    Calls Try.prog 36 #[.pointer p, s.v] w fun e w' => e = .returned (.func (.func 75) #[] #[.pointer (some ⟨w.heap.size, 0, none⟩), .pointer (some ⟨w.heap.size + 1, 0, none⟩)]) ∧
      w' = (w.alloc (.cells #[.pointer p] 29)).alloc (.cells #[.int .u64 s.t, .int .u64 s.s] 38) := by
  unfold St.v
  go_enter Try.func36, Try.ntmps36
  go_wp2_with fail
  go_ret
  exact ⟨rfl, rfl⟩

/-- an owned slice's block is one of cells -/
theorem owns_cells {w : World} {base e size n : Nat} {v : Value} {xs : List Value} (h : w.ownsRow base e size v n xs) {k : Nat} (hk : v.ownBlock = some k) : ∃ o, w.heap[k]? = some o ∧ o.isCells = true := by
  rcases h.2 with ⟨rfl, _⟩ | ⟨g, cap, cur, rfl, _, hh, _⟩
  · cases hk
  · injection hk with hk
    subst hk
    exact ⟨_, hh, rfl⟩

/-- the iterator that Up gives, in any world that has grown since -/
theorem up_seq (n : Nat) (bx size : Nat) (h0s : 0 < size) (R : List (List Ent)) (hm : R.length ≤ 274877906944) (hO : Ordered R) (hl : ∀ i, i < R.length → (pageAt R i).length ≤ 64) (hN : ∀ e ∈ R.flatten, NumV e.v) (s : St)
    (S : Nat → Prop) (vr : Value) (pvs : List Value) (Bx Bs n0 : Nat) (w : World) (hM : MemV w bx size R S vr pvs) (hcx : w.cell? ⟨Bx, 0, none⟩ = some (.pointer (some ⟨bx, 0, none⟩)))
    (hs0 : w.cell? ⟨Bs, 0, none⟩ = some (.int .u64 s.t)) (hs1 : w.cell? ⟨Bs, 1, none⟩ = some (.int .u64 s.s)) (T : Nat → Prop) (hT : ∀ k, T k → k < n0) (hn0 : n0 ≤ w.heap.size) (hST : ∀ k, S k → ¬ T k) :
    SeqStopsK Fence.wide n Try.prog 75 #[.pointer (some ⟨Bx, 0, none⟩), .pointer (some ⟨Bs, 0, none⟩)] (fun e : Ev => #[.agg #[.int .u64 e.k.t, .int .u64 e.k.s], .int .u64 e.n]) (KeepC T) (fun xs => xs = evs (behind' R s)) (fun pre => pre <+: evs (behind' R s))
      (evs (behind' R s)).length w :=
  up_stops n bx size h0s R hm hO hl hN s S vr pvs Bx Bs _ w hM hcx hs0 hs1 (KeepC T) _ (guard_keepC hT) hn0 fun W hW i hi k hk => by
    have hM' := hM.below hW
    obtain ⟨o, ho, hoc⟩ := owns_cells (hM'.pages i hi).row hk
    exact ⟨hST k (hM.sp i hi k hk).1, o, ho, hoc⟩

theorem heap1 {W : World} {b : Nat} {x : Value} {T : TypeId} (h : W.heap[b]? = some (.cells #[x] T (0, 0))) : W.cell? ⟨b, 0, none⟩ = some x ∧ W.frozen? ⟨b, 0, none⟩ = false := by simp [World.cell?, World.frozen?, h]
theorem heap2 {W : World} {b : Nat} {x y : Value} {T : TypeId} (h : W.heap[b]? = some (.cells #[x, y] T (0, 0))) :
    W.cell? ⟨b, 0, none⟩ = some x ∧ W.cell? ⟨b, 1, none⟩ = some y ∧ W.frozen? ⟨b, 0, none⟩ = false ∧ W.frozen? ⟨b, 1, none⟩ = false := by simp [World.cell?, World.frozen?, h]
theorem heap1_set {W : World} {b : Nat} {x : Value} {T : TypeId} (u : Value) (h : W.heap[b]? = some (.cells #[x] T (0, 0))) : (W.setCell ⟨b, 0, none⟩ u).heap[b]? = some (.cells #[u] T (0, 0)) := by
  rw [setCell_eq_setRow W b 0 #[x] T (0, 0) u h]; exact setRow_heap W b _ _ T (0, 0) h
theorem heap2_set0 {W : World} {b : Nat} {x y : Value} {T : TypeId} (u : Value) (h : W.heap[b]? = some (.cells #[x, y] T (0, 0))) : (W.setCell ⟨b, 0, none⟩ u).heap[b]? = some (.cells #[u, y] T (0, 0)) := by
  rw [setCell_eq_setRow W b 0 #[x, y] T (0, 0) u h]; exact setRow_heap W b _ _ T (0, 0) h
theorem heap2_set1 {W : World} {b : Nat} {x y : Value} {T : TypeId} (u : Value) (h : W.heap[b]? = some (.cells #[x, y] T (0, 0))) : (W.setCell ⟨b, 1, none⟩ u).heap[b]? = some (.cells #[x, u] T (0, 0)) := by
  rw [setCell_eq_setRow W b 1 #[x, y] T (0, 0) u h]; exact setRow_heap W b _ _ T (0, 0) h
theorem heap_set_ne {W : World} {b c i : Nat} {o : Obj} (u : Value) (h : W.heap[b]? = some o) (hne : b ≠ c) : (W.setCell ⟨c, i, none⟩ u).heap[b]? = some o := by
  rw [heap_setCell_ne _ _ _ _ hne]; exact h
theorem heap_alloc_old {W : World} {b : Nat} {o : Obj} (o' : Obj) (h : W.heap[b]? = some o) : (W.alloc o').heap[b]? = some o := by
  rw [heap_alloc_ne _ _ _ (by have := block_lt_of_heap h; omega)]; exact h
theorem heap_keep {W W' : World} {row : Option Nat} {b : Nat} {o : Obj} (h : W.heap[b]? = some o) (hc : o.isCells = true) (hg : W.grownBy W' row) (hr : ∀ r, row = some r → ∃ o : Obj, W.heap[r]? = some o ∧ o.isCells = false) : W'.heap[b]? = some o :=
  (grownBy_keeps_cells hg hr h hc).trans h
theorem heap_put {W : World} {b D : Nat} {o od : Obj} (o' : Obj) (h : W.heap[b]? = some o) (hc : o.isCells = true) (hD : W.heap[D]? = some od) (hd : od.isCells = false) : (W.putObj D o').heap[b]? = some o :=
  heap_keep h hc (grownBy_putObj' W D o') fun r e => by
    injection e with e
    subst e
    exact ⟨od, hD, hd⟩
end Go.Proofs.Ytagcohpghgnalaa.U
