/-
  BacklogNone: no table, a table and a backlog that nobody made: the walks. No condition: the statement is closed.
-/
import Derived.Test.YtofmkllodhpckaaGreatDoorChecked
import Derived.Test.YtofmkllodhpckaaGreatDoorH
import Derived.RangeFuncRecord
namespace Go.Proofs.YtofmkllodhpckaaGreatDoor.BN
open Go.RowKit Go.RG Go.Hp Go.Proofs.YtofmkllodhpckaaGreatDoor

theorem heap_set {W : World} {b i : Nat} {cs : Array Value} {T : TypeId} (u : Value) (h : W.heap[b]? = some (.cells cs T (0, 0))) : (W.setCell ⟨b, i, none⟩ u).heap[b]? = some (.cells (cs.setIfInBounds i u) T (0, 0)) := by
  rw [setCell_eq_setRow W b i cs T (0, 0) u h]; exact setRow_heap W b _ _ T (0, 0) h
/-- a frame of five words is written -/
theorem heap5 {W : World} {b : Nat} {x0 x1 x2 x3 x4 : Value} {T : TypeId} (h : W.heap[b]? = some (.cells #[x0, x1, x2, x3, x4] T (0, 0))) :
    W.cell? ⟨b, 0, none⟩ = some x0 ∧ W.cell? ⟨b, 1, none⟩ = some x1 ∧ W.cell? ⟨b, 2, none⟩ = some x2 ∧ W.cell? ⟨b, 3, none⟩ = some x3 ∧ W.cell? ⟨b, 4, none⟩ = some x4 := by simp [World.cell?, h]
theorem heap5_set {W : World} {b : Nat} {x0 x1 x2 x3 x4 : Value} {T : TypeId} (h : W.heap[b]? = some (.cells #[x0, x1, x2, x3, x4] T (0, 0))) (y0 y1 y2 y3 y4 : Value) :
    (((((W.setCell ⟨b, 0, none⟩ y0).setCell ⟨b, 1, none⟩ y1).setCell ⟨b, 2, none⟩ y2).setCell ⟨b, 3, none⟩ y3).setCell ⟨b, 4, none⟩ y4).heap[b]? = some (.cells #[y0, y1, y2, y3, y4] T (0, 0)) := by
  have h0 := heap_set (i := 0) y0 h
  have h1 := heap_set (i := 1) y1 h0
  have h2 := heap_set (i := 2) y2 h1
  have h3 := heap_set (i := 3) y3 h2
  have h4 := heap_set (i := 4) y4 h3
  simpa using h4
theorem below5_set {B : Nat} {w W : World} {b : Nat} (h : Below B w W) (hb : B ≤ b) (y0 y1 y2 y3 y4 : Value) : Below B w (((((W.setCell ⟨b, 0, none⟩ y0).setCell ⟨b, 1, none⟩ y1).setCell ⟨b, 2, none⟩ y2).setCell ⟨b, 3, none⟩ y3).setCell ⟨b, 4, none⟩ y4) :=
  ((((h.setCell (p := ⟨b, 0, none⟩) hb _).setCell (p := ⟨b, 1, none⟩) hb _).setCell (p := ⟨b, 2, none⟩) hb _).setCell (p := ⟨b, 3, none⟩) hb _).setCell (p := ⟨b, 4, none⟩) hb _
theorem none_nil (b : Nat) (w : World) (h : w.cell? ⟨b, 0, none⟩ = some (.pointer none)) : Calls Tryz.prog 29 #[.pointer (some ⟨b, 0, none⟩)] w fun e w' => e = .returned (.bool true) ∧ w = w' := by
  go_enter Tryz.func29, Tryz.ntmps29
  go_wp2_with fail
  go_ret
  exact ⟨rfl, rfl⟩
set_option maxRecDepth 100000 in
theorem commit_nil (w : World) : Calls Tryz.prog 16 #[.pointer none, .slice none 0 0] w fun e w' => e = .returned (.int .i64 1) ∧ w = w' := by
  go_enter Tryz.func16, Tryz.ntmps16
  go_wp2_with fail
  go_ret
  exact ⟨rfl, rfl⟩
set_option maxRecDepth 100000 in
theorem commit_zero (b : Nat) (w : World) (h : w.cell? ⟨b, 1, none⟩ = some (.pointer none)) : Calls Tryz.prog 16 #[.pointer (some ⟨b, 0, none⟩), .slice none 0 0] w fun e w' => e = .returned (.int .i64 1) ∧ w = w' := by
  go_enter Tryz.func16, Tryz.ntmps16
  go_wp2_with fail
  go_ret
  exact ⟨rfl, rfl⟩
/-- two boxes with results -/
theorem two_boxes (w : World) (x y : Value) (s t : TypeId) : Below w.heap.size w ((w.alloc (.cells #[x] s)).alloc (.cells #[y] t)) := ((Below.refl _ w).alloc (Nat.le_refl _) _).alloc (by simp) _
theorem open_nil (w : World) : Calls Tryz.prog 4 #[.pointer none] w fun e w' => e = .returned (.tuple #[.pointer none, .int .i64 1]) ∧ Below w.heap.size w w' := by
  go_enter Tryz.func4, Tryz.ntmps4
  go_wp2_with fail
  refine (commit_nil _).mono ?_
  rintro e w' ⟨rfl, rfl⟩
  go_wp2_with fail
  refine ⟨rfl, .tuple #[.pointer none, .int .i64 1], ?_, rfl, two_boxes _ _ _ _ _⟩
  simp [results, Tryz.f4, go_sem]
theorem open_zero (b : Nat) (w : World) (h : w.cell? ⟨b, 1, none⟩ = some (.pointer none)) : Calls Tryz.prog 4 #[.pointer (some ⟨b, 0, none⟩)] w fun e w' => e = .returned (.tuple #[.pointer none, .int .i64 1]) ∧ Below w.heap.size w w' := by
  go_enter Tryz.func4, Tryz.ntmps4
  go_wp2_with fail
  refine (commit_zero b _ ?_).mono ?_
  · exact below_cell (two_boxes w _ _ _ _) h
  rintro e w' ⟨rfl, rfl⟩
  go_wp2_with fail
  refine ⟨rfl, .tuple #[.pointer none, .int .i64 1], ?_, rfl, two_boxes _ _ _ _ _⟩
  simp [results, Tryz.f4, go_sem]
theorem begin_nil (b : Nat) (n : Int) (w : World) (h : w.cell? ⟨b, 0, none⟩ = some (.pointer none)) : Calls Tryz.prog 8 #[.pointer (some ⟨b, 0, none⟩), .int .i64 n] w fun e w' => e = .returned (.int .i64 1) ∧ w = w' := by
  go_enter Tryz.func8, Tryz.ntmps8
  go_wp2_with fail
  refine (none_nil b _ h).mono ?_
  rintro e w' ⟨rfl, rfl⟩
  go_wp2_with fail
  go_ret
  exact ⟨rfl, rfl⟩
theorem cease_nil (b : Nat) (n : Int) (w : World) (h : w.cell? ⟨b, 0, none⟩ = some (.pointer none)) : Calls Tryz.prog 9 #[.pointer (some ⟨b, 0, none⟩), .int .i64 n] w fun e w' => e = .returned (.int .i64 1) ∧ w = w' := by
  go_enter Tryz.func9, Tryz.ntmps9
  go_wp2_with fail
  refine (none_nil b _ h).mono ?_
  rintro e w' ⟨rfl, rfl⟩
  go_wp2_with fail
  go_ret
  exact ⟨rfl, rfl⟩
theorem next_nil (b : Nat) (n : Int) (w : World) (h : w.cell? ⟨b, 0, none⟩ = some (.pointer none)) : Calls Tryz.prog 15 #[.pointer (some ⟨b, 0, none⟩), .int .i64 n] w fun e w' => e = .returned (.int .u64 0) ∧ w = w' := by
  go_enter Tryz.func15, Tryz.ntmps15
  go_wp2_with fail
  refine (none_nil b _ h).mono ?_
  rintro e w' ⟨rfl, rfl⟩
  go_wp2_with fail
  go_ret
  exact ⟨rfl, rfl⟩
theorem streams_nil (b : Nat) (w : World) (h : w.cell? ⟨b, 0, none⟩ = some (.pointer none)) : Calls Tryz.prog 14 #[.pointer (some ⟨b, 0, none⟩)] w fun e w' => e = .returned (.slice none 0 0) ∧ w = w' := by
  go_enter Tryz.func14, Tryz.ntmps14
  go_wp2_with fail
  refine (none_nil b _ h).mono ?_
  rintro e w' ⟨rfl, rfl⟩
  go_wp2_with fail
  go_ret
  exact ⟨rfl, rfl⟩
theorem keys_nil (b : Nat) (f : Value) (w : World) (h : w.cell? ⟨b, 0, none⟩ = some (.pointer none)) : Calls Tryz.prog 33 #[.pointer (some ⟨b, 0, none⟩), f] w fun e w' => e = .returned (.slice none 0 0) ∧ w = w' := by
  go_enter Tryz.func33, Tryz.ntmps33
  go_wp2_with fail
  refine (none_nil b _ h).mono ?_
  rintro e w' ⟨rfl, rfl⟩
  go_wp2_with fail
  go_ret
  exact ⟨rfl, rfl⟩
theorem allkeys_nil (b : Nat) (w : World) (h : w.cell? ⟨b, 0, none⟩ = some (.pointer none)) : Calls Tryz.prog 12 #[.pointer (some ⟨b, 0, none⟩)] w fun e w' => e = .returned (.slice none 0 0) ∧ w = w' := by
  go_enter Tryz.func12, Tryz.ntmps12
  go_wp2_with fail
  refine (keys_nil b _ _ h).mono ?_
  rintro e w' ⟨rfl, rfl⟩
  go_wp2_with fail
  go_ret
  exact ⟨rfl, rfl⟩
theorem over_nil (b : Nat) (n : Int) (w : World) (h : w.cell? ⟨b, 0, none⟩ = some (.pointer none)) : Calls Tryz.prog 13 #[.pointer (some ⟨b, 0, none⟩), .int .u64 n] w fun e w' => e = .returned (.slice none 0 0) ∧ Below w.heap.size w w' := by
  have h' := below_cell ((Below.refl _ w).alloc (Nat.le_refl _) (.cells #[.int .u64 n] 33)) h
  go_enter Tryz.func13, Tryz.ntmps13
  go_wp2_with fail
  refine (keys_nil b _ _ h').mono ?_
  rintro e w' ⟨rfl, rfl⟩
  go_wp2_with fail
  go_ret
  exact ⟨rfl, (Below.refl _ w).alloc (Nat.le_refl _) _⟩
theorem at_nil (b : Nat) (w : World) (h : w.cell? ⟨b, 0, none⟩ = some (.pointer none)) : Calls Tryz.prog 28 #[.pointer (some ⟨b, 0, none⟩), .agg #[.int .i64 0, .int .u64 0]] w fun e w' => e = .returned (.int .i64 (-1)) ∧ Below w.heap.size w w' := by
  have h' := below_cell ((Below.refl _ w).alloc (Nat.le_refl _) (.cells #[.int .i64 0, .int .u64 0] 50)) h
  go_enter Tryz.func28, Tryz.ntmps28
  go_wp2_with fail
  refine (none_nil b _ h').mono ?_
  rintro e w' ⟨rfl, rfl⟩
  go_wp2_with fail
  go_ret
  exact ⟨rfl, (Below.refl _ w).alloc (Nat.le_refl _) _⟩
theorem done_nil (b : Nat) (w : World) (h : w.cell? ⟨b, 0, none⟩ = some (.pointer none)) : Calls Tryz.prog 10 #[.pointer (some ⟨b, 0, none⟩), .agg #[.int .i64 0, .int .u64 0]] w fun e w' => e = .returned (.int .i64 1) ∧ Below w.heap.size w w' := by
  have h' := below_cell ((Below.refl _ w).alloc (Nat.le_refl _) (.cells #[.int .i64 0, .int .u64 0] 50)) h
  go_enter Tryz.func10, Tryz.ntmps10
  go_wp2_with fail
  refine (none_nil b _ h').mono ?_
  rintro e w' ⟨rfl, rfl⟩
  go_wp2_with fail
  go_ret
  exact ⟨rfl, (Below.refl _ w).alloc (Nat.le_refl _) _⟩
theorem get_nil (b : Nat) (w : World) (h : w.cell? ⟨b, 0, none⟩ = some (.pointer none)) : Calls Tryz.prog 6 #[.pointer (some ⟨b, 0, none⟩), .agg #[.int .i64 0, .int .u64 0]] w fun e w' => e = .returned (.tuple #[.agg #[.int .i64 0, .int .u64 0, .int .u64 0, .int .u64 0, .slice none 0 0], .bool false]) ∧ Below w.heap.size w w' := by
  go_enter Tryz.func6, Tryz.ntmps6
  go_wp2_with fail
  have hb : Below w.heap.size w ((w.alloc (.cells #[.int .i64 0, .int .u64 0] 50)).alloc (.cells #[.int .i64 0, .int .u64 0, .int .u64 0, .int .u64 0, .slice none 0 0] 44)) := ((Below.refl _ w).alloc (Nat.le_refl _) _).alloc (by simp) _
  refine (at_nil b _ (below_cell hb h)).mono ?_
  have g4 := World.alloc_heap_new (w.alloc (.cells #[.int .i64 0, .int .u64 0] 50)) (.cells #[.int .i64 0, .int .u64 0, .int .u64 0, .int .u64 0, .slice none 0 0] 44)
  rw [show (w.alloc (.cells #[.int .i64 0, .int .u64 0] 50)).heap.size = w.heap.size + 1 by simp] at g4
  generalize (w.alloc (.cells #[.int .i64 0, .int .u64 0] 50)).alloc (.cells #[.int .i64 0, .int .u64 0, .int .u64 0, .int .u64 0, .slice none 0 0] 44) = w1 at g4 hb ⊢
  rintro e w' ⟨rfl, hb'⟩
  have g5 := below_heap hb' g4
  have hB := hb.trans (hb'.mono hb.size)
  obtain ⟨c0, c1, c2, c3, c4⟩ := heap5 g5
  have f0 : ∀ j, w'.frozen? ⟨w.heap.size + 1, j, none⟩ = false := fun j => by simp [World.frozen?, g5]
  go_wp2_with fail
  obtain ⟨d0, d1, d2, d3, d4⟩ := heap5 (heap5_set g5 (.int .i64 0) (.int .u64 0) (.int .u64 0) (.int .u64 0) (.slice none 0 0))
  refine ⟨rfl, .tuple #[.agg #[.int .i64 0, .int .u64 0, .int .u64 0, .int .u64 0, .slice none 0 0], .bool false], ?_, rfl, below5_set hB (by omega) _ _ _ _ _⟩
  simp [results, Tryz.f6, go_sem, d0, d1, d2, d3, d4]
theorem newest_nil (b : Nat) (n : Int) (w : World) (h : w.cell? ⟨b, 0, none⟩ = some (.pointer none)) : Calls Tryz.prog 7 #[.pointer (some ⟨b, 0, none⟩), .int .i64 n] w fun e w' => e = .returned (.tuple #[.agg #[.int .u64 0, .int .u64 0], .bool false]) ∧ Below w.heap.size w w' := by
  go_enter Tryz.func7, Tryz.ntmps7
  go_wp2_with fail
  have hb : Below w.heap.size w (w.alloc (.cells #[.int .u64 0, .int .u64 0] 35)) := (Below.refl _ w).alloc (Nat.le_refl _) _
  refine (none_nil b _ (below_cell hb h)).mono ?_
  rintro e w' ⟨rfl, rfl⟩
  go_wp2_with fail
  refine ⟨rfl, .tuple #[.agg #[.int .u64 0, .int .u64 0], .bool false], ?_, rfl, hb⟩
  simp [results, Tryz.f7, go_sem]
theorem refuses_nil (b : Nat) (n now : Int) (w : World) (h : w.cell? ⟨b, 0, none⟩ = some (.pointer none)) : Calls Tryz.prog 22 #[.pointer (some ⟨b, 0, none⟩), .int .i64 n, .agg #[.int .i64 0, .int .u64 1, .int .u64 0, .int .u64 1, .slice none 0 0], .int .u64 now] w fun e w' => e = .returned (.int .i64 1) ∧ Below w.heap.size w w' := by
  go_enter Tryz.func22, Tryz.ntmps22
  go_wp2_with fail
  refine (none_nil b _ (below_cell ((Below.refl _ w).alloc (Nat.le_refl _) _) h)).mono ?_
  rintro e w' ⟨rfl, rfl⟩
  go_wp2_with fail
  go_ret
  exact ⟨rfl, (Below.refl _ w).alloc (Nat.le_refl _) _⟩
set_option maxRecDepth 100000 in
theorem put_nil (b : Nat) (w : World) (h : w.cell? ⟨b, 0, none⟩ = some (.pointer none)) : Calls Tryz.prog 5 #[.pointer (some ⟨b, 0, none⟩), .int .i64 0, .int .u64 1, .int .u64 1, .slice none 0 0, .int .u64 0] w fun e w' => e = .returned (.tuple #[.agg #[.int .i64 0, .int .u64 0, .int .u64 0, .int .u64 0, .slice none 0 0], .bool false, .int .i64 1]) ∧ Below w.heap.size w w' := by
  go_enter Tryz.func5, Tryz.ntmps5
  go_wp2_with fail
  have hb : Below w.heap.size w (w.alloc (.cells #[.int .i64 0, .int .u64 1, .int .u64 0, .int .u64 1, .slice none 0 0] 44)) := (Below.refl _ w).alloc (Nat.le_refl _) _
  refine (refuses_nil b _ _ _ (below_cell hb h)).mono ?_
  have g4 := World.alloc_heap_new w (.cells #[.int .i64 0, .int .u64 1, .int .u64 0, .int .u64 1, .slice none 0 0] 44)
  generalize w.alloc (.cells #[.int .i64 0, .int .u64 1, .int .u64 0, .int .u64 1, .slice none 0 0] 44) = w1 at g4 hb ⊢
  rintro e w' ⟨rfl, hb'⟩
  have g5 := below_heap hb' g4
  have hB := hb.trans (hb'.mono hb.size)
  obtain ⟨c0, c1, c2, c3, c4⟩ := heap5 g5
  have f0 : ∀ j, w'.frozen? ⟨w.heap.size, j, none⟩ = false := fun j => by simp [World.frozen?, g5]
  go_wp2_with fail
  obtain ⟨d0, d1, d2, d3, d4⟩ := heap5 (heap5_set g5 (.int .i64 0) (.int .u64 0) (.int .u64 0) (.int .u64 0) (.slice none 0 0))
  refine ⟨rfl, .tuple #[.agg #[.int .i64 0, .int .u64 0, .int .u64 0, .int .u64 0, .slice none 0 0], .bool false, .int .i64 1], ?_, rfl, below5_set hB (by omega) _ _ _ _ _⟩
  simp [results, Tryz.f5, go_sem, d0, d1, d2, d3, d4]
set_option maxRecDepth 100000 in
theorem frames_nil (w : World) : Calls Tryz.prog 11 #[.agg #[.int .i64 0, .int .u64 0, .int .u64 0, .int .u64 0, .slice none 0 0], .agg #[.int .i64 0, .int .u64 0, .int .u64 0, .int .u64 0, .slice none 0 0]] w fun e w' => e = .returned (.bool true) ∧ Below w.heap.size w w' := by
  have hcv : ∀ w, Sem.run Tryz.prog (convert 42 9 (.slice none 0 0)) w = .ok (.string .empty) w := fun w => by kernel_rfl
  go_enter Tryz.func11, Tryz.ntmps11
  go_wp2_with fail
  go_ret
  exact ⟨rfl, ((Below.refl _ w).alloc (Nat.le_refl _) _).alloc (by simp) _⟩

set_option maxRecDepth 100000 in
theorem backlogNone_any (w : World) : Calls Tryz.prog 3 #[] w fun e w' => e = .returned (.bool true) ∧ Below w.heap.size w w' := by
  go_enter Tryz.func3, Tryz.ntmps3
  go_wp2_with fail
  refine (open_nil _).mono ?_
  rintro e w1 ⟨rfl, h1⟩
  go_wp2_with fail
  generalize hw2 : World.alloc w1 _ = w2
  have hb2 : Below w1.heap.size w1 w2 := by rw [← hw2]; exact (Below.refl _ w1).alloc (Nat.le_refl _) _
  have g2 : w2.cell? ⟨w1.heap.size, 1, none⟩ = some (.pointer none) := by rw [← hw2]; simp
  clear hw2
  refine (open_zero _ _ g2).mono ?_
  rintro e w3 ⟨rfl, h3⟩
  go_wp2_with fail
  generalize hw4 : World.alloc w3 _ = w4
  have hb4 : Below w3.heap.size w3 w4 := by rw [← hw4]; exact (Below.refl _ w3).alloc (Nat.le_refl _) _
  have g4 : w4.cell? ⟨w3.heap.size, 0, none⟩ = some (.pointer none) := by rw [← hw4]; simp
  clear hw4
  refine (put_nil _ _ g4).mono ?_
  rintro e w5 ⟨rfl, h5⟩
  go_wp2_with fail
  have F6 := World.alloc_heap_new w5 (.cells #[.int .i64 0, .int .u64 0, .int .u64 0, .int .u64 0, .slice none 0 0] 44)
  have hb6 : Below w5.heap.size w5 (w5.alloc (.cells #[.int .i64 0, .int .u64 0, .int .u64 0, .int .u64 0, .slice none 0 0] 44)) := (Below.refl _ w5).alloc (Nat.le_refl _) _
  generalize w5.alloc (.cells #[.int .i64 0, .int .u64 0, .int .u64 0, .int .u64 0, .slice none 0 0] 44) = w6 at F6 hb6 ⊢
  have g6 := below_cell (below_trans h5 hb6) g4
  refine (get_nil _ _ g6).mono ?_
  rintro e w7 ⟨rfl, h7⟩
  go_wp2_with fail
  have hb8 : Below w7.heap.size w7 (w7.alloc (.cells #[.int .i64 0, .int .u64 0, .int .u64 0, .int .u64 0, .slice none 0 0] 44)) := (Below.refl _ w7).alloc (Nat.le_refl _) _
  generalize w7.alloc (.cells #[.int .i64 0, .int .u64 0, .int .u64 0, .int .u64 0, .slice none 0 0] 44) = w8 at hb8 ⊢
  have g8 := below_cell (below_trans h7 hb8) g6
  have F8 := below_heap (below_trans h7 hb8) F6
  refine (newest_nil _ _ _ g8).mono ?_
  rintro e w9 ⟨rfl, h9⟩
  go_wp2_with fail
  have hb10 : Below w9.heap.size w9 (w9.alloc (.cells #[.int .u64 0, .int .u64 0] 35)) := (Below.refl _ w9).alloc (Nat.le_refl _) _
  generalize w9.alloc (.cells #[.int .u64 0, .int .u64 0] 35) = wa at hb10 ⊢
  have ga := below_cell (below_trans h9 hb10) g8
  have Fa := below_heap (below_trans h9 hb10) F8
  refine (begin_nil _ _ _ ga).mono ?_
  rintro e w' ⟨rfl, rfl⟩
  go_wp2_with fail
  refine (cease_nil _ _ _ ga).mono ?_
  rintro e w' ⟨rfl, rfl⟩
  go_wp2_with fail
  refine (done_nil _ _ ga).mono ?_
  rintro e wb ⟨rfl, hb⟩
  have gb := below_cell hb ga
  obtain ⟨c0, c1, c2, c3, c4⟩ := heap5 (below_heap hb Fa)
  go_wp2_with fail
  refine (frames_nil _).mono ?_
  rintro e wc ⟨rfl, hc⟩
  have gc := below_cell hc gb
  clear c0 c1 c2 c3 c4
  go_wp2_with fail
  refine (allkeys_nil _ _ gc).mono ?_
  rintro e w' ⟨rfl, rfl⟩
  go_wp2_with fail
  refine (over_nil _ _ _ gc).mono ?_
  rintro e wd ⟨rfl, hd⟩
  have gd := below_cell hd gc
  go_wp2_with fail
  refine (streams_nil _ _ gd).mono ?_
  rintro e w' ⟨rfl, rfl⟩
  go_wp2_with fail
  refine (next_nil _ _ _ gd).mono ?_
  rintro e w' ⟨rfl, rfl⟩
  go_wp2_with fail
  go_ret
  exact ⟨rfl, below_trans h1 (below_trans hb2 (below_trans h3 (below_trans hb4 (below_trans h5 (below_trans hb6 (below_trans h7 (below_trans hb8 (below_trans h9 (below_trans hb10 (below_trans hb (below_trans hc hd)))))))))))⟩
end Go.Proofs.YtofmkllodhpckaaGreatDoor.BN
