/-
  The walks of New, Len, Pages and Get (V: uint64).
-/
import Derived.Test.YtagcohpghgnalaaCW2U
import Derived.Test.YtagcohpghgnalaaCGB
set_option linter.unusedSimpArgs false
set_option linter.unusedVariables false
namespace Go.Proofs.Ytagcohpghgnalaa.U
open Go.RowKit Go.RG Go.Hp Go.Pg Go.Proofs.Ytagcohpghgnalaa


def NewPost (size : Nat) (w : World) (e : Ending) (w' : World) : Prop :=
  ∃ bx vr, e = .returned (.tuple #[.pointer (some ⟨bx, 0, none⟩), .int .i64 0]) ∧ w.heap.size ≤ bx ∧ MemV w' bx size [] (· = bx) vr [] ∧ Below w.heap.size w w'
theorem new_any (size : Nat) (h4 : 4 ≤ size) (h64 : size ≤ 64) (w : World) :
    Calls Try.prog 20 #[.int .i64 size] w (NewPost size w) := by
  have h1 : ¬ (size : Int) < 4 := by omega
  have h2 : ¬ (64 : Int) < (size : Int) := by omega
  go_enter Try.func20, Try.ntmps20
  go_wp2
  go_ret2
  have hb := below_box w (.cells #[.int .i64 size, .int .i64 0, .slice none 0 0] 82)
  have hmem : MemV (w.alloc (.cells #[.int .i64 size, .int .i64 0, .slice none 0 0] 82)) w.heap.size size [] (· = w.heap.size) (.slice none 0 0) [] :=
    ⟨heap_alloc_new w _, World.ownsRow_nil _ 0 89 1, fun i hi => (by cases hi), rfl, fun k hk => (by cases hk), fun i hi => (by cases hi)⟩
  exact ⟨_, _, rfl, Nat.le_refl _, hmem, hb⟩
theorem new_bad (size : Int) (h : size < 4 ∨ 64 < size) (w : World) :
    Calls Try.prog 20 #[.int .i64 size] w fun e w' => e = .returned (.tuple #[.pointer none, .int .i64 1]) ∧ w = w' := by
  rcases h with h | h
  · go_enter Try.func20, Try.ntmps20
    go_wp2
    go_ret2
    exact ⟨rfl, rfl⟩
  · have h1 : ¬ size < 4 := by omega
    go_enter Try.func20, Try.ntmps20
    go_wp2
    go_ret2
    exact ⟨rfl, rfl⟩
theorem len_any (bx size : Nat) (h0 : 0 < size) (R : List (List Ent)) (S : Nat → Prop) (vr : Value) (pvs : List Value) (w : World) (hM : MemV w bx size R S vr pvs) :
    Calls Try.prog 34 #[.pointer (some ⟨bx, 0, none⟩)] w fun e w' => e = .returned (.int .i64 (total R)) ∧ w = w' := by
  have hsz' : ((size : Int) == 0) = false := by rw [beq_eq_false_iff_ne]; omega
  obtain ⟨m0, m1, m2⟩ := hM.cells
  clear hM
  go_enter Try.func34, Try.ntmps34
  go_wp2_with fail
  refine (bare_any bx size _ m0).mono ?_
  rintro e w' ⟨rfl, rfl⟩
  go_wp2_with fail
  go_ret
  exact ⟨rfl, rfl⟩
theorem len_nil (w : World) : Calls Try.prog 34 #[.pointer none] w fun e w' => e = .returned (.int .i64 0) ∧ w = w' := by
  go_enter Try.func34, Try.ntmps34
  go_wp2_with fail
  refine (bare_nil _).mono ?_
  rintro e w' ⟨rfl, rfl⟩
  go_wp2_with fail
  go_ret
  exact ⟨rfl, rfl⟩

theorem get_none (s : St) (bx : Nat) (size : Int) (S : Nat → Prop) (vr : Value) (pvs : List Value) (w : World) (hM : MemV w bx size [] S vr pvs) :
    Calls Try.prog 28 #[.pointer (some ⟨bx, 0, none⟩), s.v] w fun e w' => e = .returned (.tuple #[.int .u64 0, .bool false]) ∧ Below w.heap.size w w' := by
  have hPl := Lib.hid (place_none s bx size S vr pvs)
  have hB0 := below_box w (.cells #[.int .u64 s.t, .int .u64 s.s] 38)
  have HM := Lib.hid hM; clear hM
  unfold St.v at hPl ⊢
  go_enter Try.func28, Try.ntmps28
  go_wp2_with fail
  refine (hPl.out _ (HM.out.below hB0)).mono ?_
  rintro e w1 ⟨rfl, hB1⟩
  have hB2 := below_trans hB0 hB1
  go_wp2_with fail
  go_ret2
  exact ⟨rfl, hB2⟩
theorem get_no (s : St) (bx : Nat) (size : Int) (hs : size ≠ 0) (R : List (List Ent)) (hR : 0 < R.length) (hm : R.length ≤ 4611686018427387904) (hO : Ordered R)
    (hl : ∀ i, i < R.length → (pageAt R i).length ≤ 4611686018427387904) (ht : there R s = false) (S : Nat → Prop) (vr : Value) (pvs : List Value) (w : World) (hM : MemV w bx size R S vr pvs) :
    Calls Try.prog 28 #[.pointer (some ⟨bx, 0, none⟩), s.v] w fun e w' => e = .returned (.tuple #[.int .u64 0, .bool false]) ∧ Below w.heap.size w w' := by
  have hPl := Lib.hid (place_some s bx size hs R hR hm hO hl S vr pvs)
  have hB0 := below_box w (.cells #[.int .u64 s.t, .int .u64 s.s] 38)
  have HM := Lib.hid hM; clear hM
  unfold St.v at hPl ⊢
  go_enter Try.func28, Try.ntmps28
  go_wp2_with fail
  refine (hPl.out _ (HM.out.below hB0)).mono ?_
  rintro e w1 ⟨rfl, hB1⟩
  have hB2 := below_trans hB0 hB1
  rw [ht]
  go_wp2_with fail
  go_ret2
  exact ⟨rfl, hB2⟩
theorem get_some (s : St) (bx : Nat) (size : Int) (hs : size ≠ 0) (R : List (List Ent)) (hR : 0 < R.length) (hm : R.length ≤ 4611686018427387904) (hO : Ordered R)
    (hl : ∀ i, i < R.length → (pageAt R i).length ≤ 4611686018427387904) (ht : there R s = true) (S : Nat → Prop) (vr : Value) (pvs : List Value) (w : World) (hM : MemV w bx size R S vr pvs) :
    Calls Try.prog 28 #[.pointer (some ⟨bx, 0, none⟩), s.v] w fun e w' => e = .returned (.tuple #[(ent (pageAt R (pageOf R s)) (entOf R s)).v, .bool true]) ∧ Below w.heap.size w w' := by
  have hPl := Lib.hid (place_some s bx size hs R hR hm hO hl S vr pvs)
  have hp := pageOf_lt (s := s) hR
  have el : entOf R s < (pageAt R (pageOf R s)).length := by
    have := (isIn_iff.1 ht).1
    rwa [length_keys] at this
  have eli : (entOf R s : Int) < ((pageAt R (pageOf R s)).length : Int) := by omega
  have hpi : (pageOf R s : Int) < (R.length : Int) := by omega
  obtain ⟨m0, m1, m2⟩ := hM.cells
  obtain ⟨g, cap, rfl, hg, hc, hcm, hrow, hfr⟩ := hM.row hR
  obtain ⟨g2, cap2, hv2, hg2, hc2, hcm2, hpage, hone, -⟩ := (hM.pages _ hp).parts (hO.full _ hp)
  have hrp := hrow _ hp
  rw [hv2] at hrp
  have hv := (hpage _ el).2.2
  have h1v := hone _ el
  clear hrow hfr hpage hone hl hO m0 m1
  have hB0 := below_box w (.cells #[.int .u64 s.t, .int .u64 s.s] 38)
  have HM := Lib.hid hM; clear hM
  unfold St.v at hPl ⊢
  go_enter Try.func28, Try.ntmps28
  go_wp2_with fail
  refine (hPl.out _ (HM.out.below hB0)).mono ?_
  rintro e w1 ⟨rfl, hB1⟩
  have hB2 := below_trans hB0 hB1
  rw [ht]
  have n2 := below_cell hB2 m2
  have n3 := below_cell hB2 hrp
  have n4 := below_cell hB2 hv
  go_wp2_with fail
  go_ret2
  exact ⟨rfl, hB2⟩
theorem place_nil (s : St) (w : World) : Calls Try.prog 30 #[.pointer none, s.v] w fun e w' => e = .returned (.tuple #[.int .i64 0, .int .i64 0, .bool false]) ∧ Below w.heap.size w w' := by
  have hB0 := below_box w (.cells #[.int .u64 s.t, .int .u64 s.s] 38)
  unfold St.v
  go_enter Try.func30, Try.ntmps30
  go_wp2_with fail
  refine (bare_nil _).mono ?_
  rintro e w' ⟨rfl, rfl⟩
  go_wp2_with fail
  go_ret3
  exact ⟨rfl, hB0⟩
theorem get_nil (s : St) (w : World) : Calls Try.prog 28 #[.pointer none, s.v] w fun e w' => e = .returned (.tuple #[.int .u64 0, .bool false]) ∧ Below w.heap.size w w' := by
  have hPl := Lib.hid (place_nil s)
  have hB0 := below_box w (.cells #[.int .u64 s.t, .int .u64 s.s] 38)
  unfold St.v at hPl ⊢
  go_enter Try.func28, Try.ntmps28
  go_wp2_with fail
  refine (hPl.out _).mono ?_
  rintro e w1 ⟨rfl, hB1⟩
  have hB2 := below_trans hB0 hB1
  go_wp2_with fail
  go_ret2
  exact ⟨rfl, hB2⟩
end Go.Proofs.Ytagcohpghgnalaa.U
