/-
  PagesWalks: the walk.
-/
import Derived.Test.YtagcohpghgnalaaCSCm
import Derived.Test.YtagcohpghgnalaaCQA
import Derived.Test.YtagcohpghgnalaaCLO
import Derived.Deep.CutRange
import Derived.Laws.EntriesVeiled
import Derived.Sort.CutIn
set_option linter.unusedSimpArgs false
set_option linter.unusedVariables false
namespace Go.Proofs.Ytagcohpghgnalaa.SO
open Go.RowKit Go.RG Go.Hp Go.Pg Go.Shelf Go.Proofs.Ytagcohpghgnalaa Go.Proofs.Ytagcohpghgnalaa.RF Go.Proofs.Ytagcohpghgnalaa.U Go.Proofs.Ytagcohpghgnalaa.LB Go.Proofs.Ytagcohpghgnalaa.BK Go.Proofs.Ytagcohpghgnalaa.QA
attribute [local go_sem] Oper.semAt_some




set_option maxHeartbeats 4000000 in
set_option maxRecDepth 100000 in
theorem walks_any (sz : Int) (a : Option Addr) (n cap : Nat) (hn : n ≤ 1048576) (ops : Nat → Opd) (hok : ∀ i, i < n → OpOk (ops i)) (s : St) (stop : Int) (w : World) (ho : OpsAt w a n ops) :
    Calls Try.prog 6 #[.int .i64 sz, .slice a n cap, s.v, .int .i64 stop] w fun e w' => e = .returned (.bool true) ∧ Below w.heap.size w w' := by
  have Ho := Lib.hid ho; clear ho
  unfold St.v
  refine (callsIn_wide (n := 3)).1 ?_
  refine callsIn_of_wp_marks Try.func6 rfl trivial ?_ rfl
  refine wpIn_wide.2 ?_
  simp only [Try.ntmps6, List.size_toArray, List.length_cons, List.length_nil, Nat.reduceAdd, Nat.reduceSub, Array.replicate_succ, Array.replicate_zero, List.push_toArray, List.append_toArray, List.nil_append, List.cons_append]
  go_wp2_with fail
  have hB0 := allocs_below w (B := w.heap.size) [.cells #[.int .u64 s.t, .int .u64 s.s] 38, .cells #[.int .i64 stop] 3, .cells #[.bool false] 4] w (Below.refl _ _) (Nat.le_refl _)
  have g0 := allocs_get [.cells #[.int .u64 s.t, .int .u64 s.s] 38, .cells #[.int .i64 stop] 3, .cells #[.bool false] 4] w 0 _ rfl
  have g1 := allocs_get [.cells #[.int .u64 s.t, .int .u64 s.s] 38, .cells #[.int .i64 stop] 3, .cells #[.bool false] 4] w 1 _ rfl
  have g2 := allocs_get [.cells #[.int .u64 s.t, .int .u64 s.s] 38, .cells #[.int .i64 stop] 3, .cells #[.bool false] 4] w 2 _ rfl
  unfold allocs at hB0 g0 g1 g2
  simp only [List.foldl_cons, List.foldl_nil, Nat.add_zero] at hB0 g0 g1 g2
  have hs0 : w.heap.size + 3 ≤ (((w.alloc (.cells #[.int .u64 s.t, .int .u64 s.s] 38)).alloc (.cells #[.int .i64 stop] 3)).alloc (.cells #[.bool false] 4)).heap.size := by simp
  generalize ((w.alloc (.cells #[.int .u64 s.t, .int .u64 s.s] 38)).alloc (.cells #[.int .i64 stop] 3)).alloc (.cells #[.bool false] 4) = w0 at hB0 g0 g1 g2 hs0 ⊢
  refine (sized_any _ _).mono ?_
  rintro e w' ⟨size, h4, h64, rfl, rfl⟩
  go_wp2_with fail
  refine (U.new_any size h4 h64 _).mono ?_
  rintro e wN ⟨bx, vr, rfl, hbx, hM1, hB1⟩
  go_wp2_with fail
  refine (U.num_any _ _).mono ?_
  rintro e w' ⟨rfl, rfl⟩
  have g3 := World.alloc_heap_new wN (.cells #[.pointer (some ⟨bx, 0, none⟩)] 29)
  have hBX : Below wN.heap.size wN (wN.alloc (.cells #[.pointer (some ⟨bx, 0, none⟩)] 29)) := below_box _ _
  have hT0 := (two_new (B := w.heap.size + 3) hM1 (by omega)).below hBX
  have hbx2 := block_lt_of_heap hM1.str
  have g0 := below_heap hBX (below_heap hB1 g0)
  have g1 := below_heap hBX (below_heap hB1 g1)
  have g2 := below_heap hBX (below_heap hB1 g2)
  have hBs := (hB0.trans (hB1.mono hB0.size)).trans (hBX.mono (Nat.le_trans hB0.size hB1.size))
  clear hM1 hB1 hBX hB0
  generalize wN.alloc (.cells #[.pointer (some ⟨bx, 0, none⟩)] 29) = w2 at g0 g1 g2 g3 hT0 hBs ⊢
  obtain ⟨x0, -⟩ := heap1 g3
  go_wp2_with fail
  refine (U.small_any _).mono ?_
  rintro e w3 ⟨rfl, hB3⟩
  have hT0 := hT0.below hB3
  have g0 := below_heap hB3 g0
  have g1 := below_heap hB3 g1
  have g2 := below_heap hB3 g2
  have g3 := below_heap hB3 g3
  have hBs := hBs.trans (hB3.mono hBs.size)
  have hz3 := hBs.size
  clear hB3 x0
  obtain ⟨x0, -⟩ := heap1 g3
  obtain ⟨s0, s1, -, -⟩ := heap2 g0
  go_wp2_with fail
  refine wp_region_rg_tail 7 (fun k => if k = 2 then some (ItAt 75 bx s) else if k = 5 then some (ItAt 77 bx s) else if k = 6 then some (FBox w3.heap.size) else none) fol (by kernel_rfl) (fun W hW hh => ?_)
  clear hh
  have q0 : ∀ w1, Below W.heap.size W w1 → w1.cell? ⟨wN.heap.size, 0, none⟩ = _ := fun w1 h => below_cell (below_trans hW h) x0
  have q1 : ∀ w1, Below W.heap.size W w1 → w1.cell? ⟨w.heap.size, 0, none⟩ = _ := fun w1 h => below_cell (below_trans hW h) s0
  have q2 : ∀ w1, Below W.heap.size W w1 → w1.cell? ⟨w.heap.size, 1, none⟩ = _ := fun w1 h => below_cell (below_trans hW h) s1
  simp only [List.take_succ_cons, List.take_zero, List.drop_succ_cons, List.drop_zero]
  repeat (first
    | (refine lex_move _ (by first | exact Or.inl rfl | exact Or.inr rfl) rfl rfl ?_
       simp only [Act.put, Act.eval, Array.getD_eq_getD_getElem?, List.getElem?_toArray, List.getElem?_cons_zero, List.getElem?_cons_succ, Option.getD_some, List.setIfInBounds_toArray, List.set_cons_succ, List.set_cons_zero]
      )
    | (refine lex_float ?_ rfl rfl (fun w1 hb1 hf1 => ?_) ?_
       rotate_left
       (go_simp; (try simp (disch := omega) only [IntWalk.i64_quo, IntWalk.rem_in, IntWalk.i64_in, IntWalk.u64_in, IntWalk.u32_in, IntWalk.u8_in, IntWalk.toNatUp, IntWalk.iteOmega]); (try go_simp); rfl)
       simp only [Act.put, Act.eval, Array.getD_eq_getD_getElem?, List.getElem?_toArray, List.getElem?_cons_zero, List.getElem?_cons_succ, Option.getD_some, List.setIfInBounds_toArray, List.set_cons_succ, List.set_cons_zero]
      )
    | (refine lex_skip rfl ?_
       simp only [Act.put, Act.eval, Array.getD_eq_getD_getElem?, List.getElem?_toArray, List.getElem?_cons_zero, List.getElem?_cons_succ, Option.getD_some, List.setIfInBounds_toArray, List.set_cons_succ, List.set_cons_zero]
      ))
  refine lex_make _ rfl (by exact ItAt.st _ _ _) rfl (fun w1 hb1 hf1 => ?_) ?_
  · have hb1' := hb1
    (unfold makes; go_simp; simp only [makesUpon])
    have HL := U.up_call (some ⟨bx, 0, none⟩) s w1
    unfold St.v at HL
    refine HL.mono ?_
    rintro e w' ⟨rfl, rfl⟩
    exact ⟨_, rfl, itAt_new _ _ _ _⟩
  rintro fu w4 hB4 ⟨BU, rfl, u0, u1⟩
  simp only [Act.put, Act.eval, Array.getD_eq_getD_getElem?, List.getElem?_toArray, List.getElem?_cons_zero, List.getElem?_cons_succ, Option.getD_some, List.setIfInBounds_toArray, List.set_cons_succ, List.set_cons_zero]
  repeat (first
    | (refine lex_move _ (by first | exact Or.inl rfl | exact Or.inr rfl) rfl rfl ?_
       simp only [Act.put, Act.eval, Array.getD_eq_getD_getElem?, List.getElem?_toArray, List.getElem?_cons_zero, List.getElem?_cons_succ, Option.getD_some, List.setIfInBounds_toArray, List.set_cons_succ, List.set_cons_zero]
      )
    | (refine lex_float ?_ rfl rfl (fun w1 hb1 hf1 => ?_) ?_
       rotate_left
       (go_simp; (try simp (disch := omega) only [IntWalk.i64_quo, IntWalk.rem_in, IntWalk.i64_in, IntWalk.u64_in, IntWalk.u32_in, IntWalk.u8_in, IntWalk.toNatUp, IntWalk.iteOmega]); (try go_simp); rfl)
       simp only [Act.put, Act.eval, Array.getD_eq_getD_getElem?, List.getElem?_toArray, List.getElem?_cons_zero, List.getElem?_cons_succ, Option.getD_some, List.setIfInBounds_toArray, List.set_cons_succ, List.set_cons_zero]
      )
    | (refine lex_skip rfl ?_
       simp only [Act.put, Act.eval, Array.getD_eq_getD_getElem?, List.getElem?_toArray, List.getElem?_cons_zero, List.getElem?_cons_succ, Option.getD_some, List.setIfInBounds_toArray, List.set_cons_succ, List.set_cons_zero]
      ))
  refine lex_make _ rfl (by exact ItAt.st _ _ _) rfl (fun w1 hb1 hf1 => ?_) ?_
  · have hb1' := hb1
    (unfold makes; go_simp; simp only [makesUpon])
    have HL := U.down_call (some ⟨bx, 0, none⟩) s w1
    unfold St.v at HL
    refine HL.mono ?_
    rintro e w' ⟨rfl, rfl⟩
    exact ⟨_, rfl, itAt_new _ _ _ _⟩
  rintro fd w5 hB5 ⟨BD, rfl, e0, e1⟩
  simp only [Act.put, Act.eval, Array.getD_eq_getD_getElem?, List.getElem?_toArray, List.getElem?_cons_zero, List.getElem?_cons_succ, Option.getD_some, List.setIfInBounds_toArray, List.set_cons_succ, List.set_cons_zero]
  repeat (first
    | (refine lex_move _ (by first | exact Or.inl rfl | exact Or.inr rfl) rfl rfl ?_
       simp only [Act.put, Act.eval, Array.getD_eq_getD_getElem?, List.getElem?_toArray, List.getElem?_cons_zero, List.getElem?_cons_succ, Option.getD_some, List.setIfInBounds_toArray, List.set_cons_succ, List.set_cons_zero]
      )
    | (refine lex_float ?_ rfl rfl (fun w1 hb1 hf1 => ?_) ?_
       rotate_left
       (go_simp; (try simp (disch := omega) only [IntWalk.i64_quo, IntWalk.rem_in, IntWalk.i64_in, IntWalk.u64_in, IntWalk.u32_in, IntWalk.u8_in, IntWalk.toNatUp, IntWalk.iteOmega]); (try go_simp); rfl)
       simp only [Act.put, Act.eval, Array.getD_eq_getD_getElem?, List.getElem?_toArray, List.getElem?_cons_zero, List.getElem?_cons_succ, Option.getD_some, List.setIfInBounds_toArray, List.set_cons_succ, List.set_cons_zero]
      )
    | (refine lex_skip rfl ?_
       simp only [Act.put, Act.eval, Array.getD_eq_getD_getElem?, List.getElem?_toArray, List.getElem?_cons_zero, List.getElem?_cons_succ, Option.getD_some, List.setIfInBounds_toArray, List.set_cons_succ, List.set_cons_zero]
      ))
  refine lex_make _ rfl (by exact FBox.st _) rfl (fun w1 hb1 hf1 => ?_) ?_
  · have hb1' := hb1
    (unfold makes; go_simp; simp only [makesUpon])
    exact ⟨below_box _ _, _, rfl, Nat.le_trans hW.size hb1'.size, World.alloc_heap_new _ _⟩
  rintro fb w6 hB6 ⟨bD, rfl, hbD, g4⟩
  simp only [Act.put, Act.eval, Array.getD_eq_getD_getElem?, List.getElem?_toArray, List.getElem?_cons_zero, List.getElem?_cons_succ, Option.getD_some, List.setIfInBounds_toArray, List.set_cons_succ, List.set_cons_zero]
  repeat (first
    | (refine lex_move _ (by first | exact Or.inl rfl | exact Or.inr rfl) rfl rfl ?_
       simp only [Act.put, Act.eval, Array.getD_eq_getD_getElem?, List.getElem?_toArray, List.getElem?_cons_zero, List.getElem?_cons_succ, Option.getD_some, List.setIfInBounds_toArray, List.set_cons_succ, List.set_cons_zero]
      )
    | (refine lex_float ?_ rfl rfl (fun w1 hb1 hf1 => ?_) ?_
       rotate_left
       (go_simp; (try simp (disch := omega) only [IntWalk.i64_quo, IntWalk.rem_in, IntWalk.i64_in, IntWalk.u64_in, IntWalk.u32_in, IntWalk.u8_in, IntWalk.toNatUp, IntWalk.iteOmega]); (try go_simp); rfl)
       simp only [Act.put, Act.eval, Array.getD_eq_getD_getElem?, List.getElem?_toArray, List.getElem?_cons_zero, List.getElem?_cons_succ, Option.getD_some, List.setIfInBounds_toArray, List.set_cons_succ, List.set_cons_zero]
      )
    | (refine lex_skip rfl ?_
       simp only [Act.put, Act.eval, Array.getD_eq_getD_getElem?, List.getElem?_toArray, List.getElem?_cons_zero, List.getElem?_cons_succ, Option.getD_some, List.setIfInBounds_toArray, List.set_cons_succ, List.set_cons_zero]
      ))
  refine lex_nil ?_
  clear q0 q1 q2
  have hB46 := below_trans (below_trans hW hB4) (below_trans hB5 hB6)
  have u0 := below_heap (below_trans hB5 hB6) u0
  have u1 := below_heap (below_trans hB5 hB6) u1
  have e0 := below_heap hB6 e0
  have e1 := below_heap hB6 e1
  have hT0 := hT0.below hB46
  have g0 := below_heap hB46 g0
  have g1 := below_heap hB46 g1
  have g2 := below_heap hB46 g2
  have g3 := below_heap hB46 g3
  have hBs := hBs.trans (hB46.mono hBs.size)
  clear hB4 hB5 hB6 hW x0 s0 s1 hB46
  obtain ⟨d0, d1⟩ := heap1 g4
  have hzB := hBs.size
  have hne : ∀ {k : Nat} {o : Obj}, w6.heap[k]? = some o → o ≠ .cells #[.nilFunc] 57 (0, 0) → k ≠ bD := fun h1 h2 h3 => by rw [h3, g4] at h1; injection h1 with h1; exact h2 h1.symm
  have hF := heap1_set (.func (.func 77) #[] #[.pointer (some ⟨BD, 0, none⟩), .pointer (some ⟨BD + 1, 0, none⟩)]) g4
  obtain ⟨L, hL⟩ : ∃ L : List (Nat × Obj), L = [(w.heap.size, .cells #[.int .u64 s.t, .int .u64 s.s] 38), (w.heap.size + 1, .cells #[.int .i64 stop] 3), (w.heap.size + 2, .cells #[.bool false] 4), (wN.heap.size, .cells #[.pointer (some ⟨bx, 0, none⟩)] 29),
    (BU, .cells #[.pointer (some ⟨bx, 0, none⟩)] 29), (BU + 1, .cells #[.int .u64 s.t, .int .u64 s.s] 38), (BD, .cells #[.pointer (some ⟨bx, 0, none⟩)] 29), (BD + 1, .cells #[.int .u64 s.t, .int .u64 s.s] 38),
    (bD, .cells #[.func (.func 77) #[] #[.pointer (some ⟨BD, 0, none⟩), .pointer (some ⟨BD + 1, 0, none⟩)]] 57)] := ⟨_, rfl⟩
  obtain ⟨vr, pvs, hMb⟩ := hT0.mem
  have hLB : Held L (w6.setCell ⟨bD, 0, none⟩ (.func (.func 77) #[] #[.pointer (some ⟨BD, 0, none⟩), .pointer (some ⟨BD + 1, 0, none⟩)])) := by
    intro x hx
    rw [hL] at hx
    simp only [List.mem_cons, List.not_mem_nil, or_false] at hx
    rcases hx with rfl | rfl | rfl | rfl | rfl | rfl | rfl | rfl | rfl
    · exact heap_set_ne _ g0 (hne g0 (by simp))
    · exact heap_set_ne _ g1 (hne g1 (by simp))
    · exact heap_set_ne _ g2 (hne g2 (by simp))
    · exact heap_set_ne _ g3 (hne g3 (by simp))
    · exact heap_set_ne _ u0 (hne u0 (by simp))
    · exact heap_set_ne _ u1 (hne u1 (by simp))
    · exact heap_set_ne _ e0 (hne e0 (by simp))
    · exact heap_set_ne _ e1 (hne e1 (by simp))
    · exact hF
  have hLZ : ∀ x ∈ L, ¬ x.1 = bx := by
    have hc : ∀ {k : Nat} {o : Obj}, w6.heap[k]? = some o → (∀ x y z t, o ≠ .cells #[x, y, z] t (0, 0)) → ¬ k = bx := fun h1 h2 h3 => by rw [h3, hMb.str] at h1; injection h1 with h1; exact h2 _ _ _ _ h1.symm
    intro x hx
    rw [hL] at hx
    simp only [List.mem_cons, List.not_mem_nil, or_false] at hx
    rcases hx with rfl | rfl | rfl | rfl | rfl | rfl | rfl | rfl | rfl
    · exact hc g0 (by simp)
    · exact hc g1 (by simp)
    · exact hc g2 (by simp)
    · exact hc g3 (by simp)
    · exact hc u0 (by simp)
    · exact hc u1 (by simp)
    · exact hc e0 (by simp)
    · exact hc e1 (by simp)
    · exact hc g4 (by simp)
  have hT0 := two_cells hT0 (w' := w6.setCell ⟨bD, 0, none⟩ (.func (.func 77) #[] #[.pointer (some ⟨BD, 0, none⟩), .pointer (some ⟨BD + 1, 0, none⟩)])) (by simp) (fun k o h1 _ h2 => heap_set_ne _ h1 (by
    rcases h2 with rfl | rfl | h2
    · exact hne hMb.str (by simp)
    · exact hne hMb.str (by simp)
    · cases h2))
  have hBs := hBs.setCell (p := ⟨bD, 0, none⟩) (Nat.le_trans hz3 hbD) (.func (.func 77) #[] #[.pointer (some ⟨BD, 0, none⟩), .pointer (some ⟨BD + 1, 0, none⟩)])
  have hz6 : (w6.setCell ⟨bD, 0, none⟩ (.func (.func 77) #[] #[.pointer (some ⟨BD, 0, none⟩), .pointer (some ⟨BD + 1, 0, none⟩)])).heap.size = w6.heap.size := by simp
  have hE1 := U.eql_fn
  clear hF g0 g1 g2 g3 u0 u1 e0 e1 hne hMb
  have HG := Lib.hid (fun (W : World) (h : Held L W) => show W.heap[w.heap.size]? = some (.cells #[.int .u64 s.t, .int .u64 s.s] 38) ∧ W.heap[w.heap.size + 1]? = some (.cells #[.int .i64 stop] 3) ∧ W.heap[w.heap.size + 2]? = some (.cells #[.bool false] 4) ∧ W.heap[wN.heap.size]? = some (.cells #[.pointer (some ⟨bx, 0, none⟩)] 29) ∧
    W.heap[BU]? = some (.cells #[.pointer (some ⟨bx, 0, none⟩)] 29) ∧ W.heap[BU + 1]? = some (.cells #[.int .u64 s.t, .int .u64 s.s] 38) ∧ W.heap[BD]? = some (.cells #[.pointer (some ⟨bx, 0, none⟩)] 29) ∧ W.heap[BD + 1]? = some (.cells #[.int .u64 s.t, .int .u64 s.s] 38) ∧
    W.heap[bD]? = some (.cells #[.func (.func 77) #[] #[.pointer (some ⟨BD, 0, none⟩), .pointer (some ⟨BD + 1, 0, none⟩)]] 57) from by
    rw [hL] at h
    have h' := fun (i : Nat) (x : Nat × Obj) (hx : _[i]? = some x) => h x (List.mem_of_getElem? hx)
    exact ⟨h' 0 _ rfl, h' 1 _ rfl, h' 2 _ rfl, h' 3 _ rfl, h' 4 _ rfl, h' 5 _ rfl, h' 6 _ rfl, h' 7 _ rfl, h' 8 _ rfl⟩)
  clear hL
  go_wp2_with fail
  have hM0 : Mid (w.heap.size + 3) bx size 0 w6.heap.size L [] (.slice none 0 0) (· = bx) w ((w6.setCell ⟨bD, 0, none⟩ (.func (.func 77) #[] #[.pointer (some ⟨BD, 0, none⟩), .pointer (some ⟨BD + 1, 0, none⟩)])).alloc (.cells #[.slice none 0 0] 35)) := by
    have hb := below_box (w6.setCell ⟨bD, 0, none⟩ (.func (.func 77) #[] #[.pointer (some ⟨BD, 0, none⟩), .pointer (some ⟨BD + 1, 0, none⟩)])) (.cells #[.slice none 0 0] 35)
    refine ⟨hT0.below hb, by simp [total], hLB.below hb, hLZ, ?_, ?_, fun x hx => ?_, by have := hBs.size; rw [hz6] at this; exact this, fun e he => by simp at he, hBs.trans (hb.mono hBs.size)⟩
    · have := World.alloc_heap_new (w6.setCell ⟨bD, 0, none⟩ (.func (.func 77) #[] #[.pointer (some ⟨BD, 0, none⟩), .pointer (some ⟨BD + 1, 0, none⟩)])) (.cells #[.slice none 0 0] 35)
      rwa [hz6] at this
    · have := (hT0.lim bx rfl).2
      rw [hz6] at this
      show ¬ w6.heap.size = bx
      omega
    · have := hLB.lt x hx
      rw [hz6] at this
      omega
  generalize hbB : w6.heap.size = bB at hM0 ⊢
  generalize (w6.setCell ⟨bD, 0, none⟩ (.func (.func 77) #[] #[.pointer (some ⟨BD, 0, none⟩), .pointer (some ⟨BD + 1, 0, none⟩)])).alloc (.cells #[.slice none 0 0] 35) = w7 at hM0 ⊢
  clear hT0 hLB hLZ hBs hz6 hE1 hz3
  go_loopw [14] (fun vi wr => ∃ (i : Nat) (R : List (List Ent)) (Z : Nat → Prop) (m : Nat) (ab : Option Addr) (cb : Nat), vi = .int .i64 i ∧ i ≤ n ∧ R.flatten.length = m ∧ Mid (w.heap.size + 3) bx size i bB L R (.slice ab m cb) Z w wr)
    (fun vi _ => n - (intOf vi).toNat)
  case atStart => exact ⟨0, [], _, 0, none, 0, rfl, by omega, rfl, hM0⟩
  case round =>
    obtain ⟨i, R, Z, m, ab, cb, rfl, hin, hm, hM⟩ := hrel
    clear hM0
    have htm := total_flat R
    obtain ⟨x0, -⟩ := heap1 (HG.out wr hM.held).2.2.2.1
    obtain ⟨b0, b1⟩ := heap1 hM.box
    by_cases hlt : i < n
    · obtain ⟨pb, po, hpa, p0, p1, p2, p3⟩ := Ho.out i hlt
      have o0 := below_cell hM.below p0
      have o1 := below_cell hM.below p1
      have o2 := below_cell hM.below p2
      have o3 := below_cell hM.below p3
      have hii : (i : Int) < (n : Int) := by omega
      have HTu := Lib.hid (fun w' (hb : Below wr.heap.size wr w') => turns_any (w.heap.size + 3) bx size i h4 h64 R (.slice ab m cb) R.flatten (ops i) Z w' (hM.two.below hb) hM.tot (by have := hM.tot; omega) (by omega))
      have HM := Lib.hid hM
      have Hm := Lib.hid hm
      subst hpa
      clear p0 p1 p2 p3 hM hm htm
      go_wp2_with fail
      refine wp_region_rg_tail 6 (fun _ => none) fol (by kernel_rfl) (fun W hW hh => ?_)
      clear hh
      have q0 : ∀ w1, Below W.heap.size W w1 → w1.cell? ⟨wN.heap.size, 0, none⟩ = _ := fun w1 h => below_cell (below_trans hW h) x0
      have q1 : ∀ w1, Below W.heap.size W w1 → w1.cell? ⟨bB, 0, none⟩ = _ := fun w1 h => below_cell (below_trans hW h) b0
      have q2 : ∀ w1, Below W.heap.size W w1 → w1.cell? ⟨pb, po + i * 4, none⟩ = _ := fun w1 h => below_cell (below_trans hW h) o0
      have q3 : ∀ w1, Below W.heap.size W w1 → w1.cell? ⟨pb, po + i * 4 + 1, none⟩ = _ := fun w1 h => below_cell (below_trans hW h) o1
      have q4 : ∀ w1, Below W.heap.size W w1 → w1.cell? ⟨pb, po + i * 4 + 2, none⟩ = _ := fun w1 h => below_cell (below_trans hW h) o2
      have q5 : ∀ w1, Below W.heap.size W w1 → w1.cell? ⟨pb, po + i * 4 + 3, none⟩ = _ := fun w1 h => below_cell (below_trans hW h) o3
      simp only [List.take_succ_cons, List.take_zero, List.drop_succ_cons, List.drop_zero]
      repeat (first
        | (refine lex_move _ (by first | exact Or.inl rfl | exact Or.inr rfl) rfl rfl ?_
           simp only [Act.put, Act.eval, Array.getD_eq_getD_getElem?, List.getElem?_toArray, List.getElem?_cons_zero, List.getElem?_cons_succ, Option.getD_some, List.setIfInBounds_toArray, List.set_cons_succ, List.set_cons_zero]
          )
        | (refine lex_float ?_ rfl rfl (fun w1 hb1 hf1 => ?_) ?_
           rotate_left
           (go_simp; (try simp (disch := omega) only [IntWalk.i64_quo, IntWalk.rem_in, IntWalk.i64_in, IntWalk.u64_in, IntWalk.u32_in, IntWalk.u8_in, IntWalk.toNatUp, IntWalk.iteOmega]); (try go_simp); rfl)
           simp only [Act.put, Act.eval, Array.getD_eq_getD_getElem?, List.getElem?_toArray, List.getElem?_cons_zero, List.getElem?_cons_succ, Option.getD_some, List.setIfInBounds_toArray, List.set_cons_succ, List.set_cons_zero]
          )
        | (refine lex_skip rfl ?_
           simp only [Act.put, Act.eval, Array.getD_eq_getD_getElem?, List.getElem?_toArray, List.getElem?_cons_zero, List.getElem?_cons_succ, Option.getD_some, List.setIfInBounds_toArray, List.set_cons_succ, List.set_cons_zero]
          ))
      refine lex_nil ?_
      clear q0 q1 q2 q3 q4 q5
      have HT2 := Lib.hid (HTu.out W hW)
      go_wp2_with fail
      refine HT2.out.mono ?_
      rintro e w3' ⟨bv', Z', rfl, hT3, hX3, hZ3, -⟩
      rw [step_flat HM.out.two.good (ops i)] at hT3
      have htot' := stepR_total HM.out.two.good (ops i)
      have hmt := HM.out.tot
      have hzW := hW.size
      have hM3 := HM.out.turned (tot' := i + 1) (by omega) hT3 (by omega) (nn_step HM.out.two.good HM.out.nn (ops i) (hok i hlt)) ((Ext.of_below hW).trans hX3 fun k _ h => h) (fun k hk => (hZ3 k hk).imp id fun h => by omega)
      obtain ⟨a3, c3, hv3, -⟩ := owns_shape hT3.row
      obtain ⟨m3, hm3⟩ : ∃ m3, (stepR size R (ops i)).flatten.length = m3 := ⟨_, rfl⟩
      rw [hm3] at hv3
      subst hv3
      obtain ⟨b2, b3⟩ := heap1 (hX3.heap (below_heap hW HM.out.box) HM.out.boff)
      have HM3 := Lib.hid hM3; clear hM3
      have Hm3 := Lib.hid hm3; clear hm3
      clear hT3 hX3 hZ3 HTu HT2 o0 o1 o2 o3 x0 b0 b1
      go_wp2_with fail
      refine ⟨⟨i + 1, stepR size R (ops i), Z', m3, a3, c3, by simp, by omega, Hm3.out, HM3.out⟩, ?_⟩
      show n - (((i : Int) + 1).toNat) < n - ((i : Int).toNat)
      omega
    · obtain rfl : i = n := by omega
      have HM := Lib.hid hM; clear hM
      have Hm := Lib.hid hm; clear hm
      clear htm x0 b0 b1
      go_wp2_with fail
      generalize hA0 : Act.mk _ _ = a0
      refine wp_loop (LoopI w wN.heap.size BU bD bB bx size L)
        (fun a' _ => 2 - (intOf (a'.tmps.getD 15 undef)).toNat) ?_ ?_
      · exact ⟨fun i => a0.tmps.getD i undef, 0, _, R, Z, m, ab, cb, [], (by rw [← fr_of a0.tmps (by rw [← hA0]; rfl)]; rw [← hA0]; rfl), (by rw [← hA0]; rfl), (by rw [← hA0]; rfl), (by rw [← hA0]; rfl), (by rw [← hA0]; rfl), (by rw [← hA0]; rfl), (by rw [← hA0]; rfl), (by rw [← hA0]; rfl), (by rw [← hA0]; rfl), rfl, by omega, List.nodup_nil, fun D h => (by cases h), fun D h => (by cases h), fun _ => hn, fun h => by omega, by omega, Hm.out, HM.out⟩
      clear HM Hm hA0
      rintro a' wA ⟨u, r, tot, R, Z, m, ab, cb, ds, rfl, h6, h7, h8, h9, h11, h12, h13, h15, hdl, hr2, hdn, hds, hdz, ht0, ht1, ht2, hm, hM⟩
      rw [fr_open, h6, h7, h8, h9, h11, h12, h13, h15]
      have HU := Lib.hid (And.intro h6 (And.intro h7 (And.intro h8 (And.intro h9 (And.intro h11 (And.intro h12 h13))))))
      clear h6 h7 h8 h9 h11 h12 h13 h15
      by_cases hr : r < 2
      · have hrr : (r : Int) < 2 := by omega
        have HM := Lib.hid hM; clear hM
        have Hm := Lib.hid hm; clear hm
        obtain ⟨b0, b1⟩ := heap1 HM.out.box
        go_wp2_with fail
        have m16 := allocs_get [.cells #[.slice ab m cb] 35, .cells #[.int .i64 0] 3] wA 0 _ rfl
        have m17 := allocs_get [.cells #[.slice ab m cb] 35, .cells #[.int .i64 0] 3] wA 1 _ rfl
        have hBI := allocs_below wA (B := wA.heap.size) [.cells #[.slice ab m cb] 35, .cells #[.int .i64 0] 3] wA (Below.refl _ _) (Nat.le_refl _)
        unfold allocs at m16 m17 hBI
        simp only [List.foldl_cons, List.foldl_nil, Nat.add_zero] at m16 m17 hBI
        generalize (wA.alloc (.cells #[.slice ab m cb] 35)).alloc (.cells #[.int .i64 0] 3) = wI at m16 m17 hBI ⊢
        clear b0 b1
        have hml : m ≤ 4194304 := by have := total_flat R; have := HM.out.tot; have := Hm.out; omega
        go_loopw [] (fun ww => ∃ j : Nat, j ≤ m ∧ (∀ q, q < j → (ent R.flatten q).k.lt s = true) ∧ ww.heap[wA.heap.size + 1]? = some (.cells #[.int .i64 j] 3 (0, 0)) ∧ ww.heap[wA.heap.size]? = some (.cells #[.slice ab m cb] 35 (0, 0)) ∧ Below wA.heap.size wA ww)
          (fun ww => m - cellN ww (wA.heap.size + 1))
        case atStart => exact ⟨0, by omega, fun q h => by omega, m17, m16, hBI⟩
        case round =>
          obtain ⟨j, hjm, hq, g17, g16, hBj⟩ := hrel
          clear m16 m17 hBI
          have g0 := (HG.out _ (HM.out.held.below hBj)).1
          obtain ⟨s0, s1, -, -⟩ := heap2 g0
          obtain ⟨k6, -⟩ := heap1 g16
          obtain ⟨k7, k8⟩ := heap1 g17
          have Hq := Lib.hid hq; clear hq
          have hNN : cellN wr (wA.heap.size + 1) = j := by rw [cellN_eq k7]
          have HNN := Lib.hid hNN; clear hNN
          go_upto_region 17 with fail
          go_cut [83] from 71 to 83 (fun t wx => t = .bool (ahd R.flatten s j) ∧ Below wr.heap.size wr wx)
          case first =>
            by_cases hj : j < m
            · have hjj : (j : Int) < (m : Int) := by omega
              have hjl : j < R.flatten.length := by rw [Hm.out]; exact hj
              obtain ⟨g, cap', e1, -, hgl, -⟩ := owns_parts HM.out.two.row (by omega)
              rw [Hm.out] at e1
              injection e1 with e1 _ f1
              subst e1 f1
              have hrow := (HM.out.two.below hBj).row
              rw [Hm.out] at hrow
              obtain ⟨z0, z1, -⟩ := book_cells hrow hjl
              clear hrow
              have hah : ahd R.flatten s j = (ent R.flatten j).k.lt s := by unfold ahd; rw [decide_eq_true hjl, Bool.true_and]
              generalize (ent R.flatten j).k = ky at z0 z1 hah
              have Hah := Lib.hid hah; clear hah
              refine wp_region_rg_tail 11 (fun _ => none) fol (by kernel_rfl) (fun W hW hh => ?_)
              clear hh
              have q0 : ∀ w1, Below W.heap.size W w1 → w1.cell? ⟨g, j * 3, none⟩ = _ := fun w1 h => below_cell (below_trans hW h) z0
              have q1 : ∀ w1, Below W.heap.size W w1 → w1.cell? ⟨g, j * 3 + 1, none⟩ = _ := fun w1 h => below_cell (below_trans hW h) z1
              have q2 : ∀ w1, Below W.heap.size W w1 → w1.cell? ⟨w.heap.size, 0, none⟩ = _ := fun w1 h => below_cell (below_trans hW h) s0
              have q3 : ∀ w1, Below W.heap.size W w1 → w1.cell? ⟨w.heap.size, 1, none⟩ = _ := fun w1 h => below_cell (below_trans hW h) s1
              have q4 : ∀ w1, Below W.heap.size W w1 → w1.cell? ⟨wA.heap.size, 0, none⟩ = _ := fun w1 h => below_cell (below_trans hW h) k6
              have q5 : ∀ w1, Below W.heap.size W w1 → w1.cell? ⟨wA.heap.size + 1, 0, none⟩ = _ := fun w1 h => below_cell (below_trans hW h) k7
              simp only [List.take_succ_cons, List.take_zero, List.drop_succ_cons, List.drop_zero]
              repeat (first
                | (refine lex_move _ (by first | exact Or.inl rfl | exact Or.inr rfl) rfl rfl ?_
                   simp only [Act.put, Act.eval, Array.getD_eq_getD_getElem?, List.getElem?_toArray, List.getElem?_cons_zero, List.getElem?_cons_succ, Option.getD_some, List.setIfInBounds_toArray, List.set_cons_succ, List.set_cons_zero]
                  )
                | (refine lex_float ?_ rfl rfl (fun w1 hb1 hf1 => ?_) ?_
                   rotate_left
                   (go_simp; (try simp (disch := omega) only [IntWalk.i64_quo, IntWalk.rem_in, IntWalk.i64_in, IntWalk.u64_in, IntWalk.u32_in, IntWalk.u8_in, IntWalk.toNatUp, IntWalk.iteOmega]); (try go_simp); rfl)
                   simp only [Act.put, Act.eval, Array.getD_eq_getD_getElem?, List.getElem?_toArray, List.getElem?_cons_zero, List.getElem?_cons_succ, Option.getD_some, List.setIfInBounds_toArray, List.set_cons_succ, List.set_cons_zero]
                  )
                | (refine lex_skip rfl ?_
                   simp only [Act.put, Act.eval, Array.getD_eq_getD_getElem?, List.getElem?_toArray, List.getElem?_cons_zero, List.getElem?_cons_succ, Option.getD_some, List.setIfInBounds_toArray, List.set_cons_succ, List.set_cons_zero]
                  ))
              refine lex_nil ?_
              clear q0 q1 q2 q3 q4 q5
              have HL := less_any ky s
              unfold St.v at HL
              have HLs := Lib.hid HL; clear HL
              go_wp2_with fail
              refine (HLs.out _).mono ?_
              rintro e w' ⟨rfl, hb⟩
              go_wp2_with fail
              go_meet
              exact ⟨by rw [Hah.out], below_trans hW hb⟩
            · have hii : ¬ (j : Int) < (m : Int) := by omega
              have hah : ahd R.flatten s j = false := by unfold ahd; rw [decide_eq_false (by rw [Hm.out]; exact hj), Bool.false_and]
              have Hah := Lib.hid hah; clear hah
              refine wp_region_rg (fun _ => none) fol (by kernel_rfl) (fun W hW hh => ?_)
              clear hh
              have q4 : ∀ w1, Below W.heap.size W w1 → w1.cell? ⟨wA.heap.size, 0, none⟩ = _ := fun w1 h => below_cell (below_trans hW h) k6
              have q5 : ∀ w1, Below W.heap.size W w1 → w1.cell? ⟨wA.heap.size + 1, 0, none⟩ = _ := fun w1 h => below_cell (below_trans hW h) k7
              repeat (first
                | (refine lex_move _ (by first | exact Or.inl rfl | exact Or.inr rfl) rfl rfl ?_
                   simp only [Act.put, Act.eval, Array.getD_eq_getD_getElem?, List.getElem?_toArray, List.getElem?_cons_zero, List.getElem?_cons_succ, Option.getD_some, List.setIfInBounds_toArray, List.set_cons_succ, List.set_cons_zero]
                  )
                | (refine lex_float ?_ rfl rfl (fun w1 hb1 hf1 => ?_) ?_
                   rotate_left
                   (go_simp; (try simp (disch := omega) only [IntWalk.i64_quo, IntWalk.rem_in, IntWalk.i64_in, IntWalk.u64_in, IntWalk.u32_in, IntWalk.u8_in, IntWalk.toNatUp, IntWalk.iteOmega]); (try go_simp); rfl)
                   simp only [Act.put, Act.eval, Array.getD_eq_getD_getElem?, List.getElem?_toArray, List.getElem?_cons_zero, List.getElem?_cons_succ, Option.getD_some, List.setIfInBounds_toArray, List.set_cons_succ, List.set_cons_zero]
                  )
                | (refine lex_skip rfl ?_
                   simp only [Act.put, Act.eval, Array.getD_eq_getD_getElem?, List.getElem?_toArray, List.getElem?_cons_zero, List.getElem?_cons_succ, Option.getD_some, List.setIfInBounds_toArray, List.set_cons_succ, List.set_cons_zero]
                  ))
              refine lex_nil ?_
              go_wp2_with fail
              go_meet
              exact ⟨by rw [Hah.out], hW⟩
          case rest =>
            obtain ⟨rfl, hb⟩ := hcut
            have hBk := hBj.trans (hb.mono hBj.size)
            have g17 := below_heap hb g17
            have g16 := below_heap hb g16
            obtain ⟨k7, k8⟩ := heap1 g17
            cases hah : ahd R.flatten s j
            · have hHa : j < R.flatten.length → (ent R.flatten j).k.lt s = false := fun h => by
                unfold ahd at hah
                rw [decide_eq_true h, Bool.true_and] at hah
                exact hah
              have hUd : behind' R s = R.flatten.drop j := by
                rw [← up_flat HM.out.two.good]
                exact up_drop HM.out.two.good.rise s (by rw [Hm.out]; exact hjm) Hq.out hHa
              have Hah := Lib.hid hah; clear hah hHa
              obtain ⟨rl, hrl1, hrl2, hrl3⟩ := row_held HM.out.two.row
              obtain ⟨LL, hLL⟩ : ∃ LL, LL = (wA.heap.size, Obj.cells #[.slice ab m cb] 35) :: (rl ++ ds.map fun D => (D, Obj.deferred (some []))) := ⟨_, rfl⟩
              have hbBA := block_lt_of_heap HM.out.box
              have hM1 : Mid (w.heap.size + 3) bx size tot bB (LL ++ L) R (.slice ab m cb) Z w wc := by
                refine (HM.out.below' hBk).more (fun x hx => ?_) (fun x hx => ?_) (fun x hx => ?_)
                all_goals
                  rw [hLL] at hx
                  rcases List.mem_cons.1 hx with rfl | hx
                · exact g16
                · rcases List.mem_append.1 hx with hx | hx
                  · exact below_heap hBk (hrl1 x hx)
                  · obtain ⟨D, hD, rfl⟩ := List.mem_map.1 hx
                    exact below_heap hBk (hds D hD).2
                · exact fun h => by have := (HM.out.two.lim _ h).2; exact absurd this (Nat.lt_irrefl _)
                · rcases List.mem_append.1 hx with hx | hx
                  · exact HM.out.two.off _ (hrl2 x hx)
                  · obtain ⟨D, hD, rfl⟩ := List.mem_map.1 hx
                    exact hdz D hD
                · exact fun h => by have h : wA.heap.size = bB := h; omega
                · rcases List.mem_append.1 hx with hx | hx
                  · exact fun h => row_off_box HM.out.two.row HM.out.box (by rw [← h]; exact hrl2 x hx)
                  · obtain ⟨D, hD, rfl⟩ := List.mem_map.1 hx
                    intro h
                    have h1 := (hds D hD).2
                    have h : D = bB := h
                    rw [h, HM.out.box] at h1
                    cases h1
              have hz17 : ¬ Z (wA.heap.size + 1) := fun h => by have := (HM.out.two.lim _ h).2; omega
              have hzc := hBk.size
              have hlc := block_lt_of_heap g17
              have hz18 : ¬ Z wc.heap.size := fun h => by have := (HM.out.two.lim _ h).2; omega
              have HM1 := Lib.hid hM1; clear hM1
              have HUd := Lib.hid hUd; clear hUd
              go_wp2_with fail
              refine (wpIn_wide (n := 3)).1 ?_
              generalize hA0 : Act.mk _ _ = a0
              have hbI := below_box wc (.cells #[.int .i64 0] 3)
              have h18 := World.alloc_heap_new wc (.cells #[.int .i64 0] 3)
              have hszI : (wc.alloc (.cells #[.int .i64 0] 3)).heap.size = wc.heap.size + 1 := by simp
              generalize wc.alloc (.cells #[.int .i64 0] 3) = WI at hbI h18 hszI ⊢
              have hM2 := HM1.out.below' hbI
              obtain ⟨-, -, -, -, gu0, gu1, -, -, -⟩ := HG.out WI hM2.held.right
              obtain ⟨vr, pvs, hMem⟩ := hM2.two.mem
              have hrl' := rows_le_total hM2.two.good
              have htot' := hM2.tot
              have hpg : ∀ i, i < R.length → (pageAt R i).length ≤ 64 := fun i hi => by have := (hM2.two.good.full _ (pageAt_mem hi)).2; omega
              have hTT : ∀ k, (k = bB ∨ k = wA.heap.size + 1 ∨ k = wc.heap.size) → k < WI.heap.size := fun k h => by omega
              have hKb : ∀ (W : World) (l : Nat) (o o' : Obj), WI.heap.size ≤ l → W.heap[l]? = some o → o.isCells = false → o.isWalk = false → KeepW bx WI.heap.size (fun k => k = bB ∨ k = wA.heap.size + 1 ∨ k = wc.heap.size) W (W.putObj l o') := fun W l o o' h1 h2 h3 h4 =>
                (guard_W hTT).grown W _ (some l) (grownBy_putObj' W l o') (fun r e => by injection e with e; subst e; exact ⟨o, h2, h3⟩)
              have hseq := up_walk bx size (by omega) R (by omega) hM2.two.good.ordered hpg hM2.two.num s Z vr pvs BU (BU + 1) WI.heap.size WI hMem (heap1 gu0).1 (heap2 gu1).1 (heap2 gu1).2.1 (fun k => k = bB ∨ k = wA.heap.size + 1 ∨ k = wc.heap.size) hTT (by have := (hM2.two.lim bx hMem.sx).2; exact this) (Nat.le_refl _) (fun k h1 h2 => by
                rcases h2 with rfl | rfl | rfl
                · exact hM2.boff h1
                · exact hz17 h1
                · exact hz18 h1)
              rw [HUd.out] at hseq
              have hseq' := hseq
              have hR0 : Rng (w.heap.size + 3) bx size tot bB (wA.heap.size + 1) wc.heap.size j WI.heap.size (LL ++ L) (evs (R.flatten.drop j)) w [] WI := ⟨⟨R, Z, m, ab, cb, Hm.out, hM2, hz17, hz18⟩, below_heap hbI g17, h18, List.nil_prefix, Nat.le_refl _⟩
              have hLlt : ∀ x ∈ LL ++ L, x.1 < WI.heap.size := hM2.held.lt
              have hwI : w.heap.size ≤ WI.heap.size := hM2.below.size
              have hbxI : bx < WI.heap.size := (hM2.two.lim bx hMem.sx).2
              have hInv : ∀ pre W, Rng (w.heap.size + 3) bx size tot bB (wA.heap.size + 1) wc.heap.size j WI.heap.size (LL ++ L) (evs (R.flatten.drop j)) w pre W → WInv bx WI.heap.size W := fun pre W h => by
                obtain ⟨_, _, _, _, _, _, h2, _, _⟩ := h.mid
                obtain ⟨vr', pvs', hM'⟩ := h2.two.mem
                exact ⟨h.sz, hbxI, vr', hM'.cells.2.2, fun k hk => owns_lt hM'.rows hk⟩
              clear hseq hrl' htot' hpg
              have HseqU := Lib.hid hseq'; clear hseq'
              have hLb : ∀ y ∈ LL ++ L, y.1 ≠ wA.heap.size + 1 ∧ y.1 ≠ wc.heap.size := fun y hy => by
                have h1 := HM1.out.held.lt y hy
                refine ⟨fun h => ?_, by omega⟩
                have h2 := HM1.out.held y hy
                rw [h, g17] at h2
                rcases List.mem_append.1 hy with hy | hy
                · rw [hLL] at hy
                  rcases List.mem_cons.1 hy with rfl | hy
                  · have h : wA.heap.size = wA.heap.size + 1 := h
                    omega
                  · rcases List.mem_append.1 hy with hy | hy
                    · have := hrl1.lt y hy
                      omega
                    · obtain ⟨D, hD, rfl⟩ := List.mem_map.1 hy
                      have h : D = wA.heap.size + 1 := h
                      have := block_lt_of_heap (hds D hD).2
                      omega
                · have := HM.out.held.lt y hy
                  omega
              have hbx7 : wA.heap.size + 1 ≠ bx := fun h => hz17 (by rw [h]; exact hMem.sx)
              have hbx8 : wc.heap.size ≠ bx := fun h => hz18 (by rw [h]; exact hMem.sx)
              have HLL := Lib.hid hLL
              have HszI := Lib.hid hszI
              clear hLL hszI
              refine wpIn_range_own (F := Fence.wide) rfl (by decide) (gf := 75) (lb := #[.pointer (some ⟨BU, 0, none⟩), .pointer (some ⟨BU + 1, 0, none⟩)]) (by rw [← hA0]; rfl) trivial (enters_of Try.func75 (by kernel_rfl) rfl) HseqU.out
                (fun h k => h.trans k) hKb (Below.refl _ _) (fun _ => rfl)
                (fun pre W => Rng (w.heap.size + 3) bx size tot bB (wA.heap.size + 1) wc.heap.size j WI.heap.size (LL ++ L) (evs (R.flatten.drop j)) w pre W)
                (fun c pre W => (c = .exit 6 ∧ Rng (w.heap.size + 3) bx size tot bB (wA.heap.size + 1) wc.heap.size j WI.heap.size (LL ++ L) (evs (R.flatten.drop j)) w pre W ∧ (pre.length : Int) = stop) ∨ (c = .ret ∧ ¬ pre <+: evs (R.flatten.drop j)))
                (Rng.own hLlt hwI)
                (fun c pre A B row hs hg hr => hs.imp (fun h => ⟨h.1, Rng.own hLlt hwI pre A B row h.2.1 hg hr, h.2.2⟩) id)
                hR0
                (fun x a' W => ∃ B6, W.heap[B6]? = some (.cells #[.int .u64 x.k.t, .int .u64 x.k.s] 38 (0, 0)) ∧ a' = { tmps := (((a0.tmps.setIfInBounds 87 (.agg #[.int .u64 x.k.t, .int .u64 x.k.s])).setIfInBounds 88 (.int .u64 x.n)).setIfInBounds 19 (.pointer (some ⟨B6, 0, none⟩))).setIfInBounds 20 (.int .u64 x.n), defers := [] })
                (fun x a' _ A B row hs hg hr => by obtain ⟨B6, h1, h2⟩ := hs; exact ⟨B6, heap_keep h1 rfl hg fun r e => (hr r e).2, h2⟩)
                ?assign ?body ?done ?stop
              case assign =>
                rintro l pre x W K hRg hok hK
                subst hA0
                gi_wp2_with fail
                exact hK _ _ ((KeepsOthers.alloc _ _).from _) (KeepP.below (guard_W hTT) (hInv _ _ hRg) (below_box _ _)) (hRg.below (below_box _ _)) ⟨W.heap.size, World.alloc_heap_new W _, rfl⟩
              case body =>
                rintro l pre x a' W hl ⟨rr, hrr'⟩ hRg ⟨B6, h6, rfl⟩ hok
                subst hA0
                obtain ⟨R1, Z1, m1, ab1, cb1, hm1, hMb, hz17', hz18'⟩ := hRg.mid
                obtain ⟨k0, k1, -, -⟩ := heap2 h6
                obtain ⟨k17, k17'⟩ := heap1 hRg.c17
                obtain ⟨k18, k18'⟩ := heap1 hRg.c18
                obtain ⟨q, hqq⟩ : ∃ q, j + pre.length = q := ⟨_, rfl⟩
                rw [hqq] at k17
                have Hqq := Lib.hid hqq; clear hqq
                have h16 := hMb.held.left (wA.heap.size, .cells #[.slice ab m cb] 35) (by rw [HLL.out]; exact List.mem_cons_self)
                obtain ⟨k16, -⟩ := heap1 h16
                obtain ⟨-, ks0, kr0, -⟩ := HG.out W hMb.held.right
                obtain ⟨k8, k8'⟩ := heap1 kr0
                have hwas := hrl3 W fun x hx => hMb.held.left x (by rw [HLL.out]; exact List.mem_cons_of_mem _ (List.mem_append_left _ hx))
                have hpx := pre_snoc (x := x) hRg.pre
                have hple := hRg.pre.length_le
                rw [evs_length, List.length_drop, Hm.out] at hple
                have HRg := Lib.hid hRg
                have HMb := Lib.hid (And.intro hm1 (And.intro hMb (And.intro hz17' hz18')))
                clear hRg hm1 hMb hz17' hz18'
                gi_wp2_with fail
                have hqj : j ≤ q := by have := Hqq.out; omega
                by_cases hi : q < m
                · have hil : q < R.flatten.length := by rw [Hm.out]; exact hi
                  obtain ⟨gr, cr, e1, -, hgr, -⟩ := owns_parts hwas (by omega)
                  rw [Hm.out] at e1
                  injection e1 with e1 _ f1
                  subst e1 f1
                  rw [Hm.out] at hwas
                  obtain ⟨z0, z1, z2⟩ := book_cells hwas hil
                  obtain ⟨num, hnum⟩ := HM.out.two.num (ent R.flatten q) (ent_mem hil)
                  have hed : ent (R.flatten.drop j) pre.length = ent R.flatten q := by rw [← Hqq.out]; simp [ent, List.getElem?_drop]
                  rw [evs_get (show pre.length < (R.flatten.drop j).length by rw [List.length_drop]; have := Hqq.out; omega), hed, hnum] at hpx
                  rw [hnum] at z2
                  clear hed
                  obtain ⟨ky, hky⟩ : ∃ ky, (ent R.flatten q).k = ky := ⟨_, rfl⟩
                  rw [hky] at z0 z1 hpx
                  have hnn := HM.out.nn _ (ent_mem hil)
                  rw [hky] at hnn
                  have Hnn := Lib.hid hnn; clear hnn hnum hky hwas
                  have hii : ¬ (m : Int) ≤ (q : Int) := by omega
                  have hii' : (q : Int) < (m : Int) := by omega
                  have hiN : q < m := hi
                  by_cases hk : x.k = ky
                  · subst hk
                    have hs1 : sEq x.k.t x.k.s x.k.t x.k.s = true := by rw [stamp_beq, decide_eq_true rfl]
                    have hE1 := U.neq_stamp
                    have hE2 := U.guard_stamp
                    refine wpIn_region_rg (fun _ => none) fol (by kernel_rfl) (fun W1 hW hh => ?_)
                    clear hh
                    have q0 : ∀ w1, Below W1.heap.size W1 w1 → w1.cell? ⟨gr, q * 3, none⟩ = _ := fun w1 h => below_cell (below_trans hW h) z0
                    have q1 : ∀ w1, Below W1.heap.size W1 w1 → w1.cell? ⟨gr, q * 3 + 1, none⟩ = _ := fun w1 h => below_cell (below_trans hW h) z1
                    have q2 : ∀ w1, Below W1.heap.size W1 w1 → w1.cell? ⟨gr, q * 3 + 2, none⟩ = _ := fun w1 h => below_cell (below_trans hW h) z2
                    have q3 : ∀ w1, Below W1.heap.size W1 w1 → w1.cell? ⟨B6, 0, none⟩ = some (.int .u64 x.k.t) := fun w1 h => below_cell (below_trans hW h) k0
                    have q4 : ∀ w1, Below W1.heap.size W1 w1 → w1.cell? ⟨B6, 1, none⟩ = some (.int .u64 x.k.s) := fun w1 h => below_cell (below_trans hW h) k1
                    have q5 : ∀ w1, Below W1.heap.size W1 w1 → w1.cell? ⟨wA.heap.size + 1, 0, none⟩ = _ := fun w1 h => below_cell (below_trans hW h) k17
                    have q6 : ∀ w1, Below W1.heap.size W1 w1 → w1.cell? ⟨wA.heap.size, 0, none⟩ = _ := fun w1 h => below_cell (below_trans hW h) k16
                    repeat (first
                      | (refine lex_move _ (by first | exact Or.inl rfl | exact Or.inr rfl) rfl rfl ?_
                         simp only [Act.put, Act.eval, Array.getD_eq_getD_getElem?, List.getElem?_toArray, List.getElem?_cons_zero, List.getElem?_cons_succ, Option.getD_some, List.setIfInBounds_toArray, List.set_cons_succ, List.set_cons_zero]
                        )
                      | (refine lex_float ?_ rfl rfl (fun w1 hb1 hf1 => ?_) ?_
                         rotate_left
                         (go_simp; (try simp (disch := omega) only [IntWalk.i64_quo, IntWalk.rem_in, IntWalk.i64_in, IntWalk.u64_in, IntWalk.u32_in, IntWalk.u8_in, IntWalk.toNatUp, IntWalk.iteOmega]); (try go_simp); rfl)
                         simp only [Act.put, Act.eval, Array.getD_eq_getD_getElem?, List.getElem?_toArray, List.getElem?_cons_zero, List.getElem?_cons_succ, Option.getD_some, List.setIfInBounds_toArray, List.set_cons_succ, List.set_cons_zero]
                        )
                      | (refine lex_skip rfl ?_
                         simp only [Act.put, Act.eval, Array.getD_eq_getD_getElem?, List.getElem?_toArray, List.getElem?_cons_zero, List.getElem?_cons_succ, Option.getD_some, List.setIfInBounds_toArray, List.set_cons_succ, List.set_cons_zero]
                        ))
                    refine lex_nil ?_
                    clear q0 q1 q2 q3 q4 q5 q6
                    have gg8 := below_heap hW kr0
                    have gg7 := below_heap hW ks0
                    have gg17 := below_heap hW HRg.out.c17
                    rw [Hqq.out] at gg17
                    have gg18 := below_heap hW HRg.out.c18
                    by_cases hv : x.n = num
                    · have hv1 : (num != x.n) = false := by simp [hv]
                      have hv2 : (x.n != num) = false := by simp [hv]
                      have hprx : pre ++ [x] <+: evs (R.flatten.drop j) := hpx.2 (by rw [← hv]; rfl)
                      obtain ⟨k17, k17'⟩ := heap1 gg17
                      obtain ⟨k18, k18'⟩ := heap1 gg18
                      obtain ⟨k7, -⟩ := heap1 gg7
                      obtain ⟨pl, hpl⟩ : ∃ pl, pre.length = pl := ⟨_, rfl⟩
                      rw [hpl] at k18 gg18
                      have Hpl := Lib.hid hpl
                      have HPx := Lib.hid hprx
                      have hplm : pl ≤ m := by omega
                      clear hprx hpl hpx
                      have hne78 : wA.heap.size + 1 ≠ wc.heap.size := by omega
                      have hMc := (HMb.out.2.1.below' hW).count gg17 gg18 HMb.out.2.2.1 HMb.out.2.2.2 hLb (by omega) hne78 (by have := HM.out.below.size; omega) (.int .i64 ((q : Int) + 1)) (.int .i64 ((pl : Int) + 1))
                      have hKc := keepW_set' (keepW_set' (KeepP.below (guard_W hTT) (hInv _ _ HRg.out) hW) (b := wA.heap.size + 1) (i := 0) (.int .i64 ((q : Int) + 1)) (.inl (.inr (.inl rfl))) hbx7) (b := wc.heap.size) (i := 0) (.int .i64 ((pl : Int) + 1)) (.inl (.inr (.inr rfl))) hbx8
                      have HMc := Lib.hid (And.intro hMc hKc); clear hMc hKc
                      by_cases hst : (pl : Int) + 1 = stop
                      · have hst' : ((pl : Int) + 1 == stop) = true := by rw [beq_iff_eq]; exact hst
                        have Hst := Lib.hid hst; clear hst
                        gi_wp2_with fail
                        have hzW := hW.size
                        have hzR := HRg.out.sz
                        have eq1 : ((q : Int) + 1) = ((j + (pre ++ [x]).length : Nat) : Int) := by rw [← Hqq.out]; simp; omega
                        have eq2 : ((pl : Int) + 1) = (((pre ++ [x]).length : Nat) : Int) := by rw [← Hpl.out]; simp
                        refine ⟨((keepsOthers_below hW).trans ((KeepsOthers.setCell _ _ _).trans (KeepsOthers.setCell _ _ _))).from _, .inl ⟨rfl, ⟨⟨R1, Z1, m1, ab1, cb1, HMb.out.1, HMc.out.1.1.up (by simp), HMb.out.2.2.1, HMb.out.2.2.2⟩, ?_, ?_, HPx.out, ?_⟩, ?_⟩⟩
                        · rw [← eq1]; exact HMc.out.1.2.1
                        · rw [← eq2]; exact HMc.out.1.2.2
                        · simp; omega
                        · rw [← eq2]; exact Hst.out
                      · have hst' : ((pl : Int) + 1 == stop) = false := by rw [beq_eq_false_iff_ne]; exact hst
                        have Hst := Lib.hid hst; clear hst
                        gi_wp2_with fail
                        have h6w := below_heap hW h6
                        have ne7 : B6 ≠ wA.heap.size + 1 := fun h => by rw [h, gg17] at h6w; cases h6w
                        have ne8 : B6 ≠ wc.heap.size := fun h => by rw [h, gg18] at h6w; cases h6w
                        have h6d := heap_set_ne (c := wc.heap.size) (i := 0) (.int .i64 ((pl : Int) + 1)) (heap_set_ne (c := wA.heap.size + 1) (i := 0) (.int .i64 ((q : Int) + 1)) h6w ne7) ne8
                        have hKF : KeepsFrom WI.heap.size W ((W1.setCell ⟨wA.heap.size + 1, 0, none⟩ (.int .i64 ((q : Int) + 1))).setCell ⟨wc.heap.size, 0, none⟩ (.int .i64 ((pl : Int) + 1))) := ((keepsOthers_below hW).trans ((KeepsOthers.setCell _ _ _).trans (KeepsOthers.setCell _ _ _))).from _
                        have HKF := Lib.hid hKF
                        clear hKF h6w ne7 ne8 k0 k1 k16 k17 k17' k18 k18' k7 k8 k8' gg17 gg18 gg7 gg8 z0 z1 z2 hii hii' hs1 hE1 hE2 hst'
                        generalize (W1.setCell ⟨wA.heap.size + 1, 0, none⟩ (.int .i64 ((q : Int) + 1))).setCell ⟨wc.heap.size, 0, none⟩ (.int .i64 ((pl : Int) + 1)) = Wd at HMc HKF h6d ⊢
                        obtain ⟨y0, y1, -, -⟩ := heap2 h6d
                        obtain ⟨b0, -⟩ := heap1 HMc.out.1.1.box
                        have HRb := Lib.hid (fun w' (hb : Below Wd.heap.size Wd w') => remove_book x.k (w.heap.size + 3) R1.flatten (by have := HMc.out.1.1.tot; have := total_flat R1; omega) HMc.out.1.1.two.pnum (.slice ab1 m1 cb1) w' (owns_below HMc.out.1.1.two.row hb))
                        refine wpIn_region_rg_tail 11 (fun k => if k = 2 then some (fun v w' => (∃ a n c, v = .slice a n c) ∧ w'.ownsRow Wd.heap.size 60 3 v (remGo x.k R1.flatten).length (cellsOf (remGo x.k R1.flatten))) else none) fol (by kernel_rfl) (fun W3 hW3 hh => ?_)
                        clear hh
                        have q0 : ∀ w1, Below W3.heap.size W3 w1 → w1.cell? ⟨bB, 0, none⟩ = _ := fun w1 h => below_cell (below_trans hW3 h) b0
                        have q1 : ∀ w1, Below W3.heap.size W3 w1 → w1.cell? ⟨B6, 0, none⟩ = _ := fun w1 h => below_cell (below_trans hW3 h) y0
                        have q2 : ∀ w1, Below W3.heap.size W3 w1 → w1.cell? ⟨B6, 1, none⟩ = _ := fun w1 h => below_cell (below_trans hW3 h) y1
                        simp only [List.take_succ_cons, List.take_zero, List.drop_succ_cons, List.drop_zero]
                        repeat (first
                          | (refine lex_move _ (by first | exact Or.inl rfl | exact Or.inr rfl) rfl rfl ?_
                             simp only [Act.put, Act.eval, Array.getD_eq_getD_getElem?, List.getElem?_toArray, List.getElem?_cons_zero, List.getElem?_cons_succ, Option.getD_some, List.setIfInBounds_toArray, List.set_cons_succ, List.set_cons_zero]
                            )
                          | (refine lex_float ?_ rfl rfl (fun w1 hb1 hf1 => ?_) ?_
                             rotate_left
                             (go_simp; (try simp (disch := omega) only [IntWalk.i64_quo, IntWalk.rem_in, IntWalk.i64_in, IntWalk.u64_in, IntWalk.u32_in, IntWalk.u8_in, IntWalk.toNatUp, IntWalk.iteOmega]); (try go_simp); rfl)
                             simp only [Act.put, Act.eval, Array.getD_eq_getD_getElem?, List.getElem?_toArray, List.getElem?_cons_zero, List.getElem?_cons_succ, Option.getD_some, List.setIfInBounds_toArray, List.set_cons_succ, List.set_cons_zero]
                            )
                          | (refine lex_skip rfl ?_
                             simp only [Act.put, Act.eval, Array.getD_eq_getD_getElem?, List.getElem?_toArray, List.getElem?_cons_zero, List.getElem?_cons_succ, Option.getD_some, List.setIfInBounds_toArray, List.set_cons_succ, List.set_cons_zero]
                            ))
                        refine lex_make _ rfl (by exact fun _ _ _ h hb => ⟨h.1, owns_below h.2 hb⟩) rfl (fun w1 hb1 hf1 => ?_) ?_
                        · have hb1' := hb1
                          (unfold makes; go_simp; simp only [makesUpon])
                          have HL := HRb.out w1 (below_trans hW3 hb1')
                          unfold St.v at HL
                          refine HL.mono ?_
                          rintro e w' ⟨v, rfl, hown, hbb⟩
                          obtain ⟨a9, c9, h9, -⟩ := owns_shape hown
                          exact ⟨_, rfl, hbb, ⟨_, _, _, h9⟩, owns_base hown fun k hk => Nat.le_trans (Nat.le_trans hW3.size hb1'.size) (hown.lt k hk).1⟩
                        rintro v9 W4 hB9 ⟨⟨a9, n9, c9, rfl⟩, hown9⟩
                        simp only [Act.put, Act.eval, Array.getD_eq_getD_getElem?, List.getElem?_toArray, List.getElem?_cons_zero, List.getElem?_cons_succ, Option.getD_some, List.setIfInBounds_toArray, List.set_cons_succ, List.set_cons_zero]
                        repeat (first
                          | (refine lex_move _ (by first | exact Or.inl rfl | exact Or.inr rfl) rfl rfl ?_
                             simp only [Act.put, Act.eval, Array.getD_eq_getD_getElem?, List.getElem?_toArray, List.getElem?_cons_zero, List.getElem?_cons_succ, Option.getD_some, List.setIfInBounds_toArray, List.set_cons_succ, List.set_cons_zero]
                            )
                          | (refine lex_float ?_ rfl rfl (fun w1 hb1 hf1 => ?_) ?_
                             rotate_left
                             (go_simp; (try simp (disch := omega) only [IntWalk.i64_quo, IntWalk.rem_in, IntWalk.i64_in, IntWalk.u64_in, IntWalk.u32_in, IntWalk.u8_in, IntWalk.toNatUp, IntWalk.iteOmega]); (try go_simp); rfl)
                             simp only [Act.put, Act.eval, Array.getD_eq_getD_getElem?, List.getElem?_toArray, List.getElem?_cons_zero, List.getElem?_cons_succ, Option.getD_some, List.setIfInBounds_toArray, List.set_cons_succ, List.set_cons_zero]
                            )
                          | (refine lex_skip rfl ?_
                             simp only [Act.put, Act.eval, Array.getD_eq_getD_getElem?, List.getElem?_toArray, List.getElem?_cons_zero, List.getElem?_cons_succ, Option.getD_some, List.setIfInBounds_toArray, List.set_cons_succ, List.set_cons_zero]
                            ))
                        refine lex_nil ?_
                        clear q0 q1 q2
                        have hremn : ∀ e ∈ remGo x.k R1.flatten, NumV e.v := fun e he => HMc.out.1.1.two.pnum e (List.mem_filter.1 he).1
                        have hreml : (remGo x.k R1.flatten).length ≤ 274877906944 := by
                          have h1 : (remGo x.k R1.flatten).length ≤ R1.flatten.length := List.length_filter_le _ _
                          have := HMc.out.1.1.tot
                          have := total_flat R1
                          omega
                        have hPb := put_book (bump x.k) (IntKind.u64.wrap (num + 1)) Wd.heap.size (remGo x.k R1.flatten) hreml hremn _ W4 hown9
                        unfold St.v bump at hPb
                        have HPb := Lib.hid hPb; clear hPb hown9 hremn hreml
                        gi_wp2_with fail
                        refine ⟨trivial, CallsIn.inRound l (callsIn_wide.2 (HPb.out.mono ?_))⟩
                        rintro e W5 ⟨v5, rfl, hown5, hb5⟩
                        have hB45 := below_trans (below_trans hW3 hB9) hb5
                        obtain ⟨b2, b3⟩ := heap1 (below_heap hB45 HMc.out.1.1.box)
                        obtain ⟨a5, c5, h5, -⟩ := owns_shape hown5
                        have Hown5 := Lib.hid hown5; clear hown5
                        obtain ⟨n5, hn5⟩ : ∃ n5, (putGo ⟨x.k.t, IntKind.u64.wrap (x.k.s + 1)⟩ (.int .u64 (IntKind.u64.wrap (num + 1))) (remGo x.k R1.flatten) false).length = n5 := ⟨_, rfl⟩
                        rw [hn5] at h5
                        subst h5
                        have Hn5 := Lib.hid hn5; clear hn5
                        have gx := (HG.out Wd HMc.out.1.1.held.right).2.2.2.1
                        have gxb : wN.heap.size ≠ bB := fun h => by rw [h, HMc.out.1.1.box] at gx; cases gx
                        have n6 : B6 ≠ bB := fun h => by rw [h, HMc.out.1.1.box] at h6d; cases h6d
                        obtain ⟨x0, -⟩ := heap1 (heap_set_ne (c := bB) (i := 0) (.slice a5 n5 c5) (below_heap hB45 gx) gxb)
                        have h66 := heap_set_ne (c := bB) (i := 0) (.slice a5 n5 c5) (below_heap hB45 h6d) n6
                        obtain ⟨y0, y1, -, -⟩ := heap2 h66
                        have hM5 := HMc.out.1.1.below' hB45
                        have hT6 := two_set hM5.two (b := bB) (i := 0) (.slice a5 n5 c5) hM5.boff (row_off_box hM5.two.row hM5.box)
                        obtain ⟨vr6, pvs6, hMem6⟩ := hT6.mem
                        have HRm := Lib.hid (rem_two (B := 0) x.k h4 h64 hMem6 hT6.good hM5.tot (by omega))
                        have HT6 := Lib.hid (And.intro hM5 hT6)
                        clear gx gxb n6 hM5 hT6
                        gi_wp2_with fail
                        refine ⟨trivial, CallsIn.inRound l (callsIn_wide.2 (HRm.out.mono ?_))⟩
                        rintro e W7 ⟨⟨av, bv, rfl⟩, ⟨vr7, pvs7, hMem7⟩, hTu7⟩
                        obtain ⟨hM5, hT6⟩ := HT6.out
                        have hH7 : Held (LL ++ L) W7 := fun y hy => hTu7.ext.heap (heap_set_ne _ (hM5.held y hy) (hM5.bL y hy)) (fun h => hM5.off y hy (hMem6.wr _ h))
                        obtain ⟨x0, -⟩ := heap1 (HG.out W7 hH7.right).2.2.2.1
                        obtain ⟨y0, y1, -, -⟩ := heap2 (hTu7.ext.heap h66 (box2_off hMem6 h66))
                        have hgr := good_remove hT6.good x.k
                        have HPu := Lib.hid (put_two (bump x.k) (IntKind.u64.wrap (num + 1)) h4 h64 hMem7 hgr (i := tot + pre.length) (by have := total_rem_le hT6.good x.k; have := hM5.tot; omega) (by omega))
                        gi_wp2_with fail
                        refine ⟨trivial, CallsIn.inRound l (callsIn_wide.2 (HPu.out.mono ?_))⟩
                        rintro e W8 ⟨⟨bv8, rfl⟩, ⟨vr8, pvs8, hMem8⟩, hTu8⟩
                        have hTu78 := hTu7.trans hTu8
                        have hBk : Wd.heap.size ≤ W4.heap.size := Nat.le_trans hW3.size hB9.size
                        have hs6 : (W5.setCell ⟨bB, 0, none⟩ (.slice a5 n5 c5)).heap.size = W5.heap.size := by simp
                        have hZ1 := HMb.out.2.2
                        obtain ⟨Z', hZ', hM8⟩ := Mid.step h4 (by omega) HMc.out.1.1 hB45 hBk x.k (bump x.k) (IntKind.u64.wrap (num + 1)) (bump_nn Hnn.out) Hown5.out hTu7 hTu8 hMem8 (fun i h => by
                          have hs7 := hTu7.ext.size
                          rcases h with (h | h) | h
                          · exact .inl h
                          · exact .inr (by omega)
                          · exact .inr (by omega))
                        obtain ⟨R8, hR8⟩ : ∃ R8, putR size (removeR size R1 x.k) (bump x.k) (.int .u64 (IntKind.u64.wrap (num + 1))) = R8 := ⟨_, rfl⟩
                        rw [hR8] at hM8
                        have hbBx : bB ≠ bx := fun h => hM5.boff (by rw [h]; exact hMem6.sx)
                        have hKW8 := keepW_step HMc.out.2 (hInv _ _ HRg.out) hTT hB45 (.inl rfl) hbBx hTu78 hMem8
                        have hKF8 : KeepsFrom WI.heap.size W W8 := (((HKF.out.trans ((keepsOthers_below hB45).from _)).trans ((KeepsOthers.setCell _ _ _).from _))).trans (keepsFrom_turned hTu78 hMem6 _)
                        have k17 := hTu78.ext.heap (heap_set_ne (c := bB) (i := 0) (.slice a5 n5 c5) (below_heap hB45 HMc.out.1.2.1) (by omega)) (fun h => hZ1.1 (hMem6.wr _ h))
                        have k18 := hTu78.ext.heap (heap_set_ne (c := bB) (i := 0) (.slice a5 n5 c5) (below_heap hB45 HMc.out.1.2.2) (by omega)) (fun h => hZ1.2 (hMem6.wr _ h))
                        have hn5' : R8.flatten.length = n5 := by
                          rw [← hR8, ← put_flat hgr, ← rem_flat hT6.good]
                          exact Hn5.out
                        have hsW8 : WI.heap.size ≤ W8.heap.size := Nat.le_trans HRg.out.sz hKW8.size
                        have h17' : ¬ Z' (wA.heap.size + 1) := fun h => (hZ' _ h).elim hZ1.1 fun h => by have := block_lt_of_heap (below_heap hB45 HMc.out.1.2.1); omega
                        have h18' : ¬ Z' wc.heap.size := fun h => (hZ' _ h).elim hZ1.2 fun h => by have := block_lt_of_heap (below_heap hB45 HMc.out.1.2.2); omega
                        obtain ⟨c18, -⟩ := heap1 k18
                        have eq1 : ((q : Int) + 1) = ((j + (pre ++ [x]).length : Nat) : Int) := by rw [← Hqq.out]; simp; omega
                        have eq2 : ((pl : Int) + 1) = (((pre ++ [x]).length : Nat) : Int) := by rw [← Hpl.out]; simp
                        have hRend : ∀ W9, Mid (w.heap.size + 3) bx size (tot + pre.length + 1) bB (LL ++ L) R8 (.slice a5 n5 c5) Z' w W9 → W9.heap[wA.heap.size + 1]? = some (.cells #[.int .i64 ((q : Int) + 1)] 3 (0, 0)) → W9.heap[wc.heap.size]? = some (.cells #[.int .i64 ((pl : Int) + 1)] 3 (0, 0)) → WI.heap.size ≤ W9.heap.size →
                            Rng (w.heap.size + 3) bx size tot bB (wA.heap.size + 1) wc.heap.size j WI.heap.size (LL ++ L) (evs (R.flatten.drop j)) w (pre ++ [x]) W9 := fun W9 h1 h2 h3 h5 =>
                          ⟨⟨_, Z', n5, a5, c5, hn5', h1.up (by simp; omega), h17', h18'⟩, by rw [← eq1]; exact h2, by rw [← eq2]; exact h3, HPx.out, h5⟩
                        have HRend := Lib.hid hRend
                        have HE := Lib.hid (And.intro hM8 (And.intro hKW8 (And.intro hKF8 (And.intro k17 (And.intro k18 (And.intro hsW8 (And.intro hn5' (And.intro h17' h18'))))))))
                        clear hRend hM8 hKW8 hKF8 k17 hsW8 hn5' h17' h18' hMem8 hMem7 hMem6 hTu7 hTu8 hTu78 hM5 hT6 hH7 hgr hBk hs6 hZ1 hZ' eq1 eq2 x0 y0 y1 hbBx hR8
                        by_cases hp2 : pl = 1
                        · have hp2' : ((pl : Int) + 1 != 2) = false := by rw [hp2]; rfl
                          obtain ⟨b2', -⟩ := heap1 HE.out.1.box
                          gi_upto_region 32 with fail
                          have hn5l : n5 ≤ 109951162 := by have := HE.out.1.tot; have := total_flat R8; have := HE.out.2.2.2.2.2.2.1; omega
                          have hwr : wrap64 ((n5 : Int) - 1) = (n5 : Int) - 1 := IntWalk.wrap64_in _ (by omega)
                          have Hwr := Lib.hid hwr; clear hwr
                          gi_cut [21] from 145 (fun t wx => t = .pointer (some ⟨W8.heap.size, 0, none⟩) ∧ wx = W8.alloc (.cells #[.int .i64 ((n5 : Int) - 1)] 3))
                          case first =>
                            gi_wp2_with fail
                            gi_meet
                            exact ⟨rfl, by first | rfl | rw [Hwr.out]⟩
                          case rest =>
                            obtain ⟨rfl, rfl⟩ := hcut
                            have hb9 := below_box W8 (.cells #[.int .i64 ((n5 : Int) - 1)] 3)
                            have g21 := World.alloc_heap_new W8 (.cells #[.int .i64 ((n5 : Int) - 1)] 3)
                            have hs9 : (W8.alloc (.cells #[.int .i64 ((n5 : Int) - 1)] 3)).heap.size = W8.heap.size + 1 := by simp
                            generalize W8.alloc (.cells #[.int .i64 ((n5 : Int) - 1)] 3) = W9 at hb9 g21 hs9 ⊢
                            obtain ⟨IN, hIN⟩ : ∃ IN : Value → World → Prop, IN = fun v W2 => Inn (w.heap.size + 3) bx size (tot + pre.length + 1) bB (wA.heap.size + 1) wc.heap.size W8.heap.size WI.heap.size (fun k => k = bB ∨ k = wA.heap.size + 1 ∨ k = wc.heap.size) (LL ++ L) R8 (.slice a5 n5 c5) Z' (.int .i64 ((q : Int) + 1)) (.int .i64 ((pl : Int) + 1)) w W v W2 := ⟨_, rfl⟩
                            have hW0 := hInv _ _ HRg.out
                            have hI9 : IN (.int .i64 ((n5 : Int) - 1)) W9 := by
                              rw [hIN]
                              exact ⟨HE.out.1.below' hb9, below_heap hb9 HE.out.2.2.2.1, below_heap hb9 HE.out.2.2.2.2.1, g21, HE.out.2.1.trans (KeepP.below (guard_W hTT) (HE.out.2.1.inv hW0) hb9), HE.out.2.2.1.trans ((keepsOthers_below hb9).from _)⟩
                            have hInB : ∀ v W2 W3, IN v W2 → Below W2.heap.size W2 W3 → IN v W3 := fun v W2 W3 h hb => by
                              rw [hIN] at h ⊢
                              exact Inn.below h hTT hW0 hb
                            have hL8 : ∀ y ∈ LL ++ L, y.1 < W8.heap.size := HE.out.1.held.lt
                            have hw8 : w.heap.size ≤ W8.heap.size := HE.out.1.below.size
                            have hWW8 : W.heap.size ≤ W8.heap.size := HE.out.2.1.size
                            have hlim8 := fun k h => HE.out.1.two.lim k h
                            have hbB8 := block_lt_of_heap HE.out.1.box
                            have h178 := block_lt_of_heap HE.out.2.2.2.1
                            have h188 := block_lt_of_heap HE.out.2.2.2.2.1
                            have hbx8' : bx < W8.heap.size := by
                              obtain ⟨vr, pvs, hM⟩ := HE.out.1.two.mem
                              exact (hlim8 bx hM.sx).2
                            have hInS : ∀ v u W2, IN v W2 → IN u (W2.setCell ⟨W8.heap.size, 0, none⟩ u) := fun v u W2 h => by
                              rw [hIN] at h ⊢
                              exact Inn.set h (fun hz => Nat.lt_irrefl _ (hlim8 _ hz).2) (fun y hy e => by have := hL8 y hy; omega) (by omega) (by omega) (by omega) hw8 hWW8 (by omega) u
                            have hInO : ∀ (f : List Ev → Value) (z : Nat), W8.heap.size ≤ z → OwnFrom z (fun pre W2 => IN (f pre) W2) := fun f z hz => by
                              rw [hIN]
                              exact Inn.own f hTT (fun y hy => Nat.lt_of_lt_of_le (hL8 y hy) hz) (by omega) (by omega)
                            have hInF : ∀ v W2, IN v W2 → Inn (w.heap.size + 3) bx size (tot + pre.length + 1) bB (wA.heap.size + 1) wc.heap.size W8.heap.size WI.heap.size (fun k => k = bB ∨ k = wA.heap.size + 1 ∨ k = wc.heap.size) (LL ++ L) R8 (.slice a5 n5 c5) Z' (.int .i64 ((q : Int) + 1)) (.int .i64 ((pl : Int) + 1)) w W v W2 := fun v W2 h => by
                              rw [hIN] at h
                              exact h
                            have HInF := Lib.hid hInF; clear hInF
                            have Hn8 := Lib.hid HE.out.2.2.2.2.2.2.1
                            clear hIN
                            gi_step
                            gi_step
                            refine wpIn_hideK (fun K8 hK8 => ?_)
                            gi_cut [] from 148 (fun wx => ∃ c : Nat, c ≤ n5 ∧ (∀ i, c ≤ i → i < n5 → s.lt (ent R8.flatten i).k = true) ∧ (∀ d, c = d + 1 → s.lt (ent R8.flatten d).k = false) ∧ IN (.int .i64 ((c : Int) - 1)) wx)
                            case first =>
                              gi_wp2_with fail
                              gi_loopw [] (fun ww => ∃ c : Nat, c ≤ n5 ∧ (∀ i, c ≤ i → i < n5 → s.lt (ent R8.flatten i).k = true) ∧ IN (.int .i64 ((c : Int) - 1)) ww) (fun ww => cellP ww W8.heap.size)
                              case atStart => exact ⟨n5, Nat.le_refl _, fun i h1 h2 => by omega, hI9⟩
                              case round =>
                                obtain ⟨c, hc, hab, hI⟩ := hrel
                                have hF := HInF.out _ _ hI
                                obtain ⟨kb, -⟩ := heap1 hF.mid.box
                                obtain ⟨k21, k21'⟩ := heap1 hF.c21
                                obtain ⟨s0, s1, -, -⟩ := heap2 (HG.out _ hF.mid.held.right).1
                                have HP := Lib.hid (cellP_eq k21)
                                have Hab := Lib.hid hab; clear hab
                                have HF := Lib.hid hF
                                have hrow := hF.mid.two.row
                                rw [Hn8.out] at hrow
                                clear hF
                                gi_wp2_with fail
                                rcases Nat.eq_zero_or_pos c with h0 | h0
                                · subst h0
                                  have k21 : wr.cell? ⟨W8.heap.size, 0, none⟩ = some (.int .i64 (-1)) := k21
                                  clear s0 s1 kb hrow
                                  refine wpIn_region_rg (fun _ => none) fol (by kernel_rfl) (fun W3 hW hh => ?_)
                                  clear hh
                                  have q5 : ∀ w1, Below W3.heap.size W3 w1 → w1.cell? ⟨W8.heap.size, 0, none⟩ = _ := fun w1 h => below_cell (below_trans hW h) k21
                                  repeat (first
                                    | (refine lex_move _ (by first | exact Or.inl rfl | exact Or.inr rfl) rfl rfl ?_
                                       simp only [Act.put, Act.eval, Array.getD_eq_getD_getElem?, List.getElem?_toArray, List.getElem?_cons_zero, List.getElem?_cons_succ, Option.getD_some, List.setIfInBounds_toArray, List.set_cons_succ, List.set_cons_zero]
                                      )
                                    | (refine lex_float ?_ rfl rfl (fun w1 hb1 hf1 => ?_) ?_
                                       rotate_left
                                       (go_simp; (try simp (disch := omega) only [IntWalk.i64_quo, IntWalk.rem_in, IntWalk.i64_in, IntWalk.u64_in, IntWalk.u32_in, IntWalk.u8_in, IntWalk.toNatUp, IntWalk.iteOmega]); (try go_simp); rfl)
                                       simp only [Act.put, Act.eval, Array.getD_eq_getD_getElem?, List.getElem?_toArray, List.getElem?_cons_zero, List.getElem?_cons_succ, Option.getD_some, List.setIfInBounds_toArray, List.set_cons_succ, List.set_cons_zero]
                                      )
                                    | (refine lex_skip rfl ?_
                                       simp only [Act.put, Act.eval, Array.getD_eq_getD_getElem?, List.getElem?_toArray, List.getElem?_cons_zero, List.getElem?_cons_succ, Option.getD_some, List.setIfInBounds_toArray, List.set_cons_succ, List.set_cons_zero]
                                      ))
                                  refine lex_nil ?_
                                  clear q5
                                  gi_wp2_with fail
                                  gi_meet
                                  exact ⟨0, Nat.zero_le _, Hab.out, fun d h => by omega, hInB _ _ _ hI hW⟩
                                · obtain ⟨d, rfl⟩ : ∃ d, c = d + 1 := ⟨c - 1, by omega⟩
                                  have ed : (((d + 1 : Nat) : Int) - 1) = (d : Int) := by omega
                                  rw [ed] at k21
                                  have hdl : d < R8.flatten.length := by rw [Hn8.out]; omega
                                  obtain ⟨g, cr, e1, -, hgl, -⟩ := owns_parts hrow (by omega)
                                  injection e1 with e1 _ f1
                                  subst e1 f1
                                  obtain ⟨z0, z1, -⟩ := book_cells hrow hdl
                                  clear hrow
                                  obtain ⟨ky, hky⟩ : ∃ ky, (ent R8.flatten d).k = ky := ⟨_, rfl⟩
                                  rw [hky] at z0 z1
                                  have Hky := Lib.hid hky; clear hky
                                  have hge : (0 : Int) ≤ (d : Int) := by omega
                                  have hdn : (d : Int) < (n5 : Int) := by omega
                                  have HL := less_any s ky
                                  unfold St.v at HL
                                  have HLs := Lib.hid HL; clear HL
                                  have Hed := Lib.hid ed; clear ed
                                  refine wpIn_region_rg_tail 9 (fun _ => none) fol (by kernel_rfl) (fun W3 hW hh => ?_)
                                  clear hh
                                  have q0 : ∀ w1, Below W3.heap.size W3 w1 → w1.cell? ⟨g, d * 3, none⟩ = _ := fun w1 h => below_cell (below_trans hW h) z0
                                  have q1 : ∀ w1, Below W3.heap.size W3 w1 → w1.cell? ⟨g, d * 3 + 1, none⟩ = _ := fun w1 h => below_cell (below_trans hW h) z1
                                  have q2 : ∀ w1, Below W3.heap.size W3 w1 → w1.cell? ⟨w.heap.size, 0, none⟩ = _ := fun w1 h => below_cell (below_trans hW h) s0
                                  have q3 : ∀ w1, Below W3.heap.size W3 w1 → w1.cell? ⟨w.heap.size, 1, none⟩ = _ := fun w1 h => below_cell (below_trans hW h) s1
                                  have q4 : ∀ w1, Below W3.heap.size W3 w1 → w1.cell? ⟨bB, 0, none⟩ = _ := fun w1 h => below_cell (below_trans hW h) kb
                                  have q5 : ∀ w1, Below W3.heap.size W3 w1 → w1.cell? ⟨W8.heap.size, 0, none⟩ = _ := fun w1 h => below_cell (below_trans hW h) k21
                                  simp only [List.take_succ_cons, List.take_zero, List.drop_succ_cons, List.drop_zero]
                                  repeat (first
                                    | (refine lex_move _ (by first | exact Or.inl rfl | exact Or.inr rfl) rfl rfl ?_
                                       simp only [Act.put, Act.eval, Array.getD_eq_getD_getElem?, List.getElem?_toArray, List.getElem?_cons_zero, List.getElem?_cons_succ, Option.getD_some, List.setIfInBounds_toArray, List.set_cons_succ, List.set_cons_zero]
                                      )
                                    | (refine lex_float ?_ rfl rfl (fun w1 hb1 hf1 => ?_) ?_
                                       rotate_left
                                       (go_simp; (try simp (disch := omega) only [IntWalk.i64_quo, IntWalk.rem_in, IntWalk.i64_in, IntWalk.u64_in, IntWalk.u32_in, IntWalk.u8_in, IntWalk.toNatUp, IntWalk.iteOmega]); (try go_simp); rfl)
                                       simp only [Act.put, Act.eval, Array.getD_eq_getD_getElem?, List.getElem?_toArray, List.getElem?_cons_zero, List.getElem?_cons_succ, Option.getD_some, List.setIfInBounds_toArray, List.set_cons_succ, List.set_cons_zero]
                                      )
                                    | (refine lex_skip rfl ?_
                                       simp only [Act.put, Act.eval, Array.getD_eq_getD_getElem?, List.getElem?_toArray, List.getElem?_cons_zero, List.getElem?_cons_succ, Option.getD_some, List.setIfInBounds_toArray, List.set_cons_succ, List.set_cons_zero]
                                      ))
                                  refine lex_nil ?_
                                  clear q0 q1 q2 q3 q4 q5 z0 z1 s0 s1 kb k21 k21'
                                  gi_wp2_with fail
                                  refine ⟨trivial, CallsIn.inRound l (callsIn_wide.2 ((HLs.out _).mono ?_))⟩
                                  rintro e w' ⟨rfl, hb⟩
                                  have hbb := below_trans hW hb
                                  obtain ⟨k21, k21'⟩ := heap1 (below_heap hbb HF.out.c21)
                                  rw [Hed.out] at k21
                                  cases hlt : s.lt ky
                                  · have Hlt := Lib.hid hlt; clear hlt
                                    gi_wp2_with fail
                                    gi_meet
                                    exact ⟨d + 1, hc, Hab.out, fun d' h => by obtain rfl : d = d' := by omega
                                                                              rw [Hky.out]; exact Hlt.out, hInB _ _ _ hI hbb⟩
                                  · have Hlt := Lib.hid hlt; clear hlt
                                    gi_wp2_with fail
                                    refine ⟨⟨d, by omega, fun i h1 h2 => ?_, hInS _ _ _ (hInB _ _ _ hI hbb)⟩, ?_⟩
                                    · rcases Nat.lt_or_ge d i with h3 | h3
                                      · exact Hab.out i h3 h2
                                      · obtain rfl : i = d := by omega
                                        rw [Hky.out]; exact Hlt.out
                                    · have e1 := cellP_eq (heap1 (heap1_set (.int .i64 ((d : Int) - 1)) (below_heap hbb HF.out.c21))).1
                                      have e2 := HP.out
                                      simp only [e1, e2]
                                      omega
                            case rest =>
                              refine hK8 _ _ ?_
                              obtain ⟨c, hc, hab, hbe, hI⟩ := hcut
                              have hF := HInF.out _ _ hI
                              have hdn : downs R8 s = (R8.flatten.take c).reverse := by
                                rw [← down_flat hF.mid.two.good]
                                exact dn_take hF.mid.two.good.rise s (by rw [Hn8.out]; exact hc) (fun i h1 h2 => hab i h1 (by rw [← Hn8.out]; exact h2)) hbe
                              obtain ⟨vr9, pvs9, hMem9⟩ := hF.mid.two.mem
                              obtain ⟨-, -, -, -, -, -, ge0, ge1, gD⟩ := HG.out wc hF.mid.held.right
                              obtain ⟨kD, -⟩ := heap1 gD
                              have hrl' := rows_le_total hF.mid.two.good
                              have htot' := hF.mid.tot
                              have hpg : ∀ i, i < R8.length → (pageAt R8 i).length ≤ 64 := fun i hi => by have := (hF.mid.two.good.full _ (pageAt_mem hi)).2; omega
                              have hs8c : W8.heap.size < wc.heap.size := block_lt_of_heap hF.c21
                              have hseq := down_seq 0 bx size (by omega) R8 (by omega) hF.mid.two.good.ordered hpg hF.mid.two.num s Z' vr9 pvs9 BD (BD + 1) wc.heap.size wc hMem9 (heap1 ge0).1 (heap2 ge1).1 (heap2 ge1).2.1 (fun k => k = W8.heap.size) (fun k h => by rw [h]; exact hs8c) (Nat.le_refl _)
                                (fun k h1 h2 => by rw [h2] at h1; exact Nat.lt_irrefl _ (hlim8 _ h1).2)
                              rw [hdn] at hseq
                              have hrrc : wc.heap[l]? = some (.loop rr) := hF.kf.same l _ hl hrr' rfl
                              have Hseq := Lib.hid hseq
                              have Hbe := Lib.hid (And.intro hab hbe)
                              have HF := Lib.hid hF
                              clear hseq hab hbe hF hpg htot' hrl' hdn hMem9 ge0 ge1 gD
                              gi_wp2_with fail
                              generalize hA1 : Act.mk _ _ = a1
                              refine wpIn_range_in (F := Fence.wide.inRound l) (l₀ := l) (r₀ := rr) rfl hrrc (by decide) (gf := 77) (lb := #[.pointer (some ⟨BD, 0, none⟩), .pointer (some ⟨BD + 1, 0, none⟩)]) (by rw [← hA1]; rfl) trivial (enters_of Try.func77 (by kernel_rfl) rfl) (SeqO.inRound l Hseq.out)
                                (fun h k => h.trans k) (fun W2 l2 o o' h1 h2 h3 h4' => KeepC.putObj (w := wc) W2 l2 o o' h1 h2 h3 h4') (Below.refl _ _) (fun _ => rfl)
                                (fun pre2 W2 => IN (.int .i64 ((c : Int) - 1 - (pre2.length : Int))) W2)
                                (fun cd pre2 _ => cd = .ret ∧ ¬ pre2 <+: evs (R8.flatten.take c).reverse)
                                (hInO (fun pre2 => .int .i64 ((c : Int) - 1 - (pre2.length : Int))) wc.heap.size (Nat.le_of_lt hs8c))
                                (fun _ _ _ _ _ hs _ _ => hs)
                                (by have e0 : ((c : Int) - 1 - (([] : List Ev).length : Int)) = (c : Int) - 1 := by simp
                                    show IN (.int .i64 ((c : Int) - 1 - (([] : List Ev).length : Int))) wc
                                    rw [e0]; exact hI)
                                (fun x a' W2 => ∃ B7, W2.heap[B7]? = some (.cells #[.int .u64 x.k.t, .int .u64 x.k.s] 38 (0, 0)) ∧ a' = { tmps := (((a1.tmps.setIfInBounds 162 (.agg #[.int .u64 x.k.t, .int .u64 x.k.s])).setIfInBounds 163 (.int .u64 x.n)).setIfInBounds 22 (.pointer (some ⟨B7, 0, none⟩))).setIfInBounds 23 (.int .u64 x.n), defers := [] })
                                (fun x a' _ A B row hs hg hr => by obtain ⟨B7, h1, h2⟩ := hs; exact ⟨B7, heap_keep h1 rfl hg fun r e => (hr r e).2, h2⟩)
                                ?assign2 ?body2 ?done2 ?stop2
                              case assign2 =>
                                rintro l2 pre2 y W2 K hI2 hok hK
                                subst hA1
                                gi_wp2_with fail
                                exact hK _ _ ((KeepsOthers.alloc _ _).from _) (KeepC.below (below_box _ _)) (hInB _ _ _ hI2 (below_box _ _)) ⟨W2.heap.size, World.alloc_heap_new W2 _, rfl⟩
                              case body2 =>
                                rintro l2 pre2 y a' W2 hl2 ⟨r2, hr2⟩ hI2 ⟨B7, h7, rfl⟩ hok
                                subst hA1
                                have hF2 := HInF.out _ _ hI2
                                obtain ⟨hp, hy⟩ := down_next (by rw [Hn8.out]; exact hc) hok
                                obtain ⟨d, hd⟩ : ∃ d, c - 1 - pre2.length = d := ⟨_, rfl⟩
                                rw [hd] at hy
                                have hdl : d < R8.flatten.length := by rw [Hn8.out]; omega
                                obtain ⟨num2, hnum2⟩ := hF2.mid.two.num (ent R8.flatten d) (ent_mem hdl)
                                have hyk : (ent R8.flatten d).k = y.k := by rw [hy]
                                have hyn : num2 = y.n := by rw [hy, hnum2]; rfl
                                have ed : ((c : Int) - 1 - (pre2.length : Int)) = (d : Int) := by omega
                                obtain ⟨kb, -⟩ := heap1 hF2.mid.box
                                obtain ⟨k21, -⟩ := heap1 hF2.c21
                                rw [ed] at k21
                                obtain ⟨t0, t1, -, -⟩ := heap2 h7
                                have hrow := hF2.mid.two.row
                                rw [Hn8.out] at hrow
                                obtain ⟨g, cr, e1, -, hgl, -⟩ := owns_parts hrow (by omega)
                                injection e1 with e1 _ f1
                                subst e1 f1
                                obtain ⟨z0, z1, z2⟩ := book_cells hrow hdl
                                rw [hyk] at z0 z1
                                rw [hnum2, hyn] at z2
                                have HF2 := Lib.hid hF2
                                have ed2 : ((c : Int) - 1 - (((pre2 ++ [y]).length : Nat) : Int)) = (d : Int) - 1 := by rw [List.length_append, List.length_singleton]; omega
                                have Hed := Lib.hid (And.intro ed ed2)
                                have hge : ¬ ((d : Int) < 0) := by omega
                                have hge' : (0 : Int) ≤ (d : Int) := by omega
                                have hdn : (d : Int) < (n5 : Int) := by omega
                                clear hy hd hnum2 hyk hyn ed ed2 hrow hF2
                                have hs1 : sEq y.k.t y.k.s y.k.t y.k.s = true := by rw [stamp_beq, decide_eq_true rfl]
                                have hE1 := U.neq_stamp
                                have hE2 := U.guard_stamp
                                gi_wp2_with fail
                                refine wpIn_region_rg (l0 := l2) (fun _ => none) fol (by kernel_rfl) (fun W3 hW hh => ?_)
                                clear hh
                                have q0 : ∀ w1, Below W3.heap.size W3 w1 → w1.cell? ⟨g, d * 3, none⟩ = _ := fun w1 h => below_cell (below_trans hW h) z0
                                have q1 : ∀ w1, Below W3.heap.size W3 w1 → w1.cell? ⟨g, d * 3 + 1, none⟩ = _ := fun w1 h => below_cell (below_trans hW h) z1
                                have q2 : ∀ w1, Below W3.heap.size W3 w1 → w1.cell? ⟨g, d * 3 + 2, none⟩ = _ := fun w1 h => below_cell (below_trans hW h) z2
                                have q3 : ∀ w1, Below W3.heap.size W3 w1 → w1.cell? ⟨B7, 0, none⟩ = some (.int .u64 y.k.t) := fun w1 h => below_cell (below_trans hW h) t0
                                have q4 : ∀ w1, Below W3.heap.size W3 w1 → w1.cell? ⟨B7, 1, none⟩ = some (.int .u64 y.k.s) := fun w1 h => below_cell (below_trans hW h) t1
                                have q5 : ∀ w1, Below W3.heap.size W3 w1 → w1.cell? ⟨W8.heap.size, 0, none⟩ = _ := fun w1 h => below_cell (below_trans hW h) k21
                                have q6 : ∀ w1, Below W3.heap.size W3 w1 → w1.cell? ⟨bB, 0, none⟩ = _ := fun w1 h => below_cell (below_trans hW h) kb
                                repeat (first
                                  | (refine lex_move _ (by first | exact Or.inl rfl | exact Or.inr rfl) rfl rfl ?_
                                     simp only [Act.put, Act.eval, Array.getD_eq_getD_getElem?, List.getElem?_toArray, List.getElem?_cons_zero, List.getElem?_cons_succ, Option.getD_some, List.setIfInBounds_toArray, List.set_cons_succ, List.set_cons_zero]
                                    )
                                  | (refine lex_float ?_ rfl rfl (fun w1 hb1 hf1 => ?_) ?_
                                     rotate_left
                                     (go_simp; (try simp (disch := omega) only [IntWalk.i64_quo, IntWalk.rem_in, IntWalk.i64_in, IntWalk.u64_in, IntWalk.u32_in, IntWalk.u8_in, IntWalk.toNatUp, IntWalk.iteOmega]); (try go_simp); rfl)
                                     simp only [Act.put, Act.eval, Array.getD_eq_getD_getElem?, List.getElem?_toArray, List.getElem?_cons_zero, List.getElem?_cons_succ, Option.getD_some, List.setIfInBounds_toArray, List.set_cons_succ, List.set_cons_zero]
                                    )
                                  | (refine lex_skip rfl ?_
                                     simp only [Act.put, Act.eval, Array.getD_eq_getD_getElem?, List.getElem?_toArray, List.getElem?_cons_zero, List.getElem?_cons_succ, Option.getD_some, List.setIfInBounds_toArray, List.set_cons_succ, List.set_cons_zero]
                                    ))
                                refine lex_nil ?_
                                clear q0 q1 q2 q3 q4 q5 q6 z0 z1 z2 t0 t1 kb k21
                                obtain ⟨k21, k21'⟩ := heap1 (below_heap hW HF2.out.c21)
                                rw [Hed.out.1] at k21
                                gi_wp2_with fail
                                refine ⟨((keepsOthers_below hW).trans (KeepsOthers.setCell _ _ _)).from _, (KeepC.below hW).trans (KeepC.ext (Ext.setCell (S := fun k => k = W8.heap.size) rfl _)), ?_⟩
                                show IN (.int .i64 ((c : Int) - 1 - (((pre2 ++ [y]).length : Nat) : Int))) _
                                rw [Hed.out.2]
                                exact hInS _ _ _ (hInB _ _ _ hI2 hW)
                              case done2 =>
                                rintro xs W2 rfl hI2
                                subst hA1
                                have hF2 := HInF.out _ _ hI2
                                obtain ⟨k21, -⟩ := heap1 hF2.c21
                                have ed : ((c : Int) - 1 - ((evs (R8.flatten.take c).reverse).length : Int)) = -1 := by
                                  rw [evs_length, List.length_reverse, List.length_take, Hn8.out]
                                  omega
                                rw [ed] at k21
                                clear ed
                                have HF2 := Lib.hid hF2
                                clear hF2 hI2
                                gi_wp2_with fail
                                exact ⟨HF2.out.kf, HF2.out.kw, HRend.out W2 HF2.out.mid HF2.out.c17 HF2.out.c18 (Nat.le_trans HRg.out.sz HF2.out.kw.size)⟩
                              case stop2 =>
                                rintro cd pre2 W2 hpre ⟨rfl, hn⟩
                                exact absurd hpre hn
                        · have hp2' : ((pl : Int) + 1 != 2) = true := by simp; omega
                          gi_wp2_with fail
                          exact ⟨HE.out.2.2.1, HE.out.2.1, HRend.out W8 HE.out.1 HE.out.2.2.2.1 HE.out.2.2.2.2.1 HE.out.2.2.2.2.2.1⟩
                    · have hv1 : (num != x.n) = true := by simp [Ne.symm hv]
                      have hv2 : (x.n != num) = true := by simp [hv]
                      obtain ⟨k8, k8'⟩ := heap1 gg8
                      gi_wp2_with fail
                      refine ⟨((keepsOthers_below hW).trans (KeepsOthers.setCell _ _ _)).from _, .inr ⟨rfl, fun h => ?_⟩⟩
                      have h := hpx.1 h
                      injection h with h
                      exact hv (by rw [← h]; rfl)
                  · have hs1 : sEq ky.t ky.s x.k.t x.k.s = false := by rw [stamp_beq, decide_eq_false (Ne.symm hk)]
                    have hE1 := U.neq_stamp
                    have hE2 := U.guard_stamp
                    refine wpIn_region_rg (fun _ => none) fol (by kernel_rfl) (fun W1 hW hh => ?_)
                    clear hh
                    have q0 : ∀ w1, Below W1.heap.size W1 w1 → w1.cell? ⟨gr, q * 3, none⟩ = _ := fun w1 h => below_cell (below_trans hW h) z0
                    have q1 : ∀ w1, Below W1.heap.size W1 w1 → w1.cell? ⟨gr, q * 3 + 1, none⟩ = _ := fun w1 h => below_cell (below_trans hW h) z1
                    have q2 : ∀ w1, Below W1.heap.size W1 w1 → w1.cell? ⟨gr, q * 3 + 2, none⟩ = _ := fun w1 h => below_cell (below_trans hW h) z2
                    have q3 : ∀ w1, Below W1.heap.size W1 w1 → w1.cell? ⟨B6, 0, none⟩ = some (.int .u64 x.k.t) := fun w1 h => below_cell (below_trans hW h) k0
                    have q4 : ∀ w1, Below W1.heap.size W1 w1 → w1.cell? ⟨B6, 1, none⟩ = some (.int .u64 x.k.s) := fun w1 h => below_cell (below_trans hW h) k1
                    have q5 : ∀ w1, Below W1.heap.size W1 w1 → w1.cell? ⟨wA.heap.size + 1, 0, none⟩ = _ := fun w1 h => below_cell (below_trans hW h) k17
                    have q6 : ∀ w1, Below W1.heap.size W1 w1 → w1.cell? ⟨wA.heap.size, 0, none⟩ = _ := fun w1 h => below_cell (below_trans hW h) k16
                    repeat (first
                      | (refine lex_move _ (by first | exact Or.inl rfl | exact Or.inr rfl) rfl rfl ?_
                         simp only [Act.put, Act.eval, Array.getD_eq_getD_getElem?, List.getElem?_toArray, List.getElem?_cons_zero, List.getElem?_cons_succ, Option.getD_some, List.setIfInBounds_toArray, List.set_cons_succ, List.set_cons_zero]
                        )
                      | (refine lex_float ?_ rfl rfl (fun w1 hb1 hf1 => ?_) ?_
                         rotate_left
                         (go_simp; (try simp (disch := omega) only [IntWalk.i64_quo, IntWalk.rem_in, IntWalk.i64_in, IntWalk.u64_in, IntWalk.u32_in, IntWalk.u8_in, IntWalk.toNatUp, IntWalk.iteOmega]); (try go_simp); rfl)
                         simp only [Act.put, Act.eval, Array.getD_eq_getD_getElem?, List.getElem?_toArray, List.getElem?_cons_zero, List.getElem?_cons_succ, Option.getD_some, List.setIfInBounds_toArray, List.set_cons_succ, List.set_cons_zero]
                        )
                      | (refine lex_skip rfl ?_
                         simp only [Act.put, Act.eval, Array.getD_eq_getD_getElem?, List.getElem?_toArray, List.getElem?_cons_zero, List.getElem?_cons_succ, Option.getD_some, List.setIfInBounds_toArray, List.set_cons_succ, List.set_cons_zero]
                        ))
                    refine lex_nil ?_
                    clear q0 q1 q2 q3 q4 q5 q6
                    obtain ⟨k8, k8'⟩ := heap1 (below_heap hW kr0)
                    gi_wp2_with fail
                    refine ⟨((keepsOthers_below hW).trans (KeepsOthers.setCell _ _ _)).from _, .inr ⟨rfl, fun h => ?_⟩⟩
                    have h := hpx.1 h
                    injection h with h
                    exact hk (by rw [← h])
                · have hii : (m : Int) ≤ (q : Int) := by omega
                  refine wpIn_region_rg (fun _ => none) fol (by kernel_rfl) (fun W1 hW hh => ?_)
                  clear hh
                  have q5 : ∀ w1, Below W1.heap.size W1 w1 → w1.cell? ⟨wA.heap.size + 1, 0, none⟩ = _ := fun w1 h => below_cell (below_trans hW h) k17
                  have q6 : ∀ w1, Below W1.heap.size W1 w1 → w1.cell? ⟨wA.heap.size, 0, none⟩ = _ := fun w1 h => below_cell (below_trans hW h) k16
                  repeat (first
                    | (refine lex_move _ (by first | exact Or.inl rfl | exact Or.inr rfl) rfl rfl ?_
                       simp only [Act.put, Act.eval, Array.getD_eq_getD_getElem?, List.getElem?_toArray, List.getElem?_cons_zero, List.getElem?_cons_succ, Option.getD_some, List.setIfInBounds_toArray, List.set_cons_succ, List.set_cons_zero]
                      )
                    | (refine lex_float ?_ rfl rfl (fun w1 hb1 hf1 => ?_) ?_
                       rotate_left
                       (go_simp; (try simp (disch := omega) only [IntWalk.i64_quo, IntWalk.rem_in, IntWalk.i64_in, IntWalk.u64_in, IntWalk.u32_in, IntWalk.u8_in, IntWalk.toNatUp, IntWalk.iteOmega]); (try go_simp); rfl)
                       simp only [Act.put, Act.eval, Array.getD_eq_getD_getElem?, List.getElem?_toArray, List.getElem?_cons_zero, List.getElem?_cons_succ, Option.getD_some, List.setIfInBounds_toArray, List.set_cons_succ, List.set_cons_zero]
                      )
                    | (refine lex_skip rfl ?_
                       simp only [Act.put, Act.eval, Array.getD_eq_getD_getElem?, List.getElem?_toArray, List.getElem?_cons_zero, List.getElem?_cons_succ, Option.getD_some, List.setIfInBounds_toArray, List.set_cons_succ, List.set_cons_zero]
                      ))
                  refine lex_nil ?_
                  clear q5 q6
                  obtain ⟨k8, k8'⟩ := heap1 (below_heap hW kr0)
                  gi_wp2_with fail
                  refine ⟨((keepsOthers_below hW).trans (KeepsOthers.setCell _ _ _)).from _, .inr ⟨rfl, fun h => ?_⟩⟩
                  have h := hpx.1 h
                  rw [List.getElem?_eq_none (by rw [evs_length, List.length_drop, Hm.out]; have := Hqq.out; omega)] at h
                  cases h
              case done =>
                rintro D1 P W2 hD1 hzs hRg hK1
                subst hA0
                have hple : P.length = m - j := by rw [hzs, evs_length, List.length_drop, Hm.out]
                have hor : (P.length : Int) = stop ∨ j + P.length = m := .inr (by omega)
                obtain ⟨R2, Z2, m2, ab2, cb2, hm2, hM2, h17, h18⟩ := hRg.mid
                have c17 := hRg.c17
                have c18 := hRg.c18
                have hsz2 := hRg.sz
                obtain ⟨pl, hpl⟩ : ∃ pl, P.length = pl := ⟨_, rfl⟩
                rw [hpl] at c17 c18 hM2 hor hple
                clear hRg hpl
                obtain ⟨k17, -⟩ := heap1 c17
                obtain ⟨k18, -⟩ := heap1 c18
                obtain ⟨k7, -⟩ := heap1 (HG.out W2 hM2.held.right).2.1
                obtain ⟨k16, -⟩ := heap1 (hM2.held.left (wA.heap.size, .cells #[.slice ab m cb] 35) (by rw [HLL.out]; exact List.mem_cons_self))
                have hDs : ∀ D ∈ ds, W2.heap[D]? = some (.deferred (some [])) := fun D hD => hM2.held.left (D, .deferred (some [])) (by rw [HLL.out]; exact List.mem_cons_of_mem _ (List.mem_append_right _ (List.mem_map.2 ⟨D, hD, rfl⟩)))
                have HM2 := Lib.hid (And.intro hm2 (And.intro hM2 hDs)); clear hm2 hM2 hDs
                by_cases hst : (pl : Int) = stop
                · subst hst
                  go_wp2_with fail
                  generalize hA1 : Act.mk _ _ = a1
                  obtain ⟨hm2, hM2, hDs⟩ := HM2.out
                  have hmt : m ≤ tot := by have := HM.out.tot; have := total_flat R; have := Hm.out; omega
                  unfold LoopI
                  refine ⟨⟨fun i => a1.tmps.getD i undef, r + 1, tot + pl, R2, _, m2, ab2, cb2, D1 :: ds, (by rw [← fr_of a1.tmps (by rw [← hA1]; rfl)]; rw [← hA1]; rfl), (by rw [← hA1]; rfl), (by rw [← hA1]; rfl), (by rw [← hA1]; rfl), (by rw [← hA1]; rfl), (by rw [← hA1]; rfl), (by rw [← hA1]; rfl), (by rw [← hA1]; rfl), (by rw [← hA1]; rfl), by simp [hdl], by omega, ?_, ?_, ?_, fun h => by omega, fun h => by have := ht0 (by omega); omega, ?_, hm2, hM2.less (Nat.le_refl _) |>.cells⟩, ?_⟩
                  · refine List.nodup_cons.2 ⟨fun h => ?_, hdn⟩
                    have := block_lt_of_heap (hds D1 h).2
                    have := hBk.size
                    have := hbI.size
                    omega
                  · intro D hD
                    rcases List.mem_cons.1 hD with rfl | hD
                    · exact ⟨by omega, hK1⟩
                    · exact ⟨(hds D hD).1, hDs D hD⟩
                  · rintro D hD ⟨-, o, ho, hoc⟩
                    rcases List.mem_cons.1 hD with rfl | hD
                    · rw [hK1] at ho; injection ho with ho; subst ho; cases hoc
                    · rw [hDs D hD] at ho; injection ho with ho; subst ho; cases hoc
                  · rcases Nat.eq_zero_or_pos r with h0 | h0
                    · have := ht0 h0; omega
                    · have := ht1 (by omega); omega
                  · subst hA1
                    show 2 - (((r : Int) + 1).toNat) < 2 - ((r : Int).toNat)
                    omega
                · have e := hor.resolve_left hst
                  rw [e] at k17
                  have hne : ((pl : Int) == stop) = false := by rw [beq_eq_false_iff_ne]; exact hst
                  go_wp2_with fail
                  generalize hA1 : Act.mk _ _ = a1
                  obtain ⟨hm2, hM2, hDs⟩ := HM2.out
                  have hmt : m ≤ tot := by have := HM.out.tot; have := total_flat R; have := Hm.out; omega
                  unfold LoopI
                  refine ⟨⟨fun i => a1.tmps.getD i undef, r + 1, tot + pl, R2, _, m2, ab2, cb2, D1 :: ds, (by rw [← fr_of a1.tmps (by rw [← hA1]; rfl)]; rw [← hA1]; rfl), (by rw [← hA1]; rfl), (by rw [← hA1]; rfl), (by rw [← hA1]; rfl), (by rw [← hA1]; rfl), (by rw [← hA1]; rfl), (by rw [← hA1]; rfl), (by rw [← hA1]; rfl), (by rw [← hA1]; rfl), by simp [hdl], by omega, ?_, ?_, ?_, fun h => by omega, fun h => by have := ht0 (by omega); omega, ?_, hm2, hM2.less (Nat.le_refl _) |>.cells⟩, ?_⟩
                  · refine List.nodup_cons.2 ⟨fun h => ?_, hdn⟩
                    have := block_lt_of_heap (hds D1 h).2
                    have := hBk.size
                    have := hbI.size
                    omega
                  · intro D hD
                    rcases List.mem_cons.1 hD with rfl | hD
                    · exact ⟨by omega, hK1⟩
                    · exact ⟨(hds D hD).1, hDs D hD⟩
                  · rintro D hD ⟨-, o, ho, hoc⟩
                    rcases List.mem_cons.1 hD with rfl | hD
                    · rw [hK1] at ho; injection ho with ho; subst ho; cases hoc
                    · rw [hDs D hD] at ho; injection ho with ho; subst ho; cases hoc
                  · rcases Nat.eq_zero_or_pos r with h0 | h0
                    · have := ht0 h0; omega
                    · have := ht1 (by omega); omega
                  · subst hA1
                    show 2 - (((r : Int) + 1).toNat) < 2 - ((r : Int).toNat)
                    omega
              case stop =>
                rintro D1 c P W2 hD1 hpre hs hK1
                rcases hs with ⟨rfl, hRg, hst⟩ | ⟨rfl, hn⟩
                · subst hA0
                  have hple := hpre.length_le
                  rw [evs_length, List.length_drop, Hm.out] at hple
                  have hor : (P.length : Int) = stop ∨ j + P.length = m := .inl hst
                  clear hst
                  refine wpIn_wide.2 ?_
                  obtain ⟨R2, Z2, m2, ab2, cb2, hm2, hM2, h17, h18⟩ := hRg.mid
                  have c17 := hRg.c17
                  have c18 := hRg.c18
                  have hsz2 := hRg.sz
                  obtain ⟨pl, hpl⟩ : ∃ pl, P.length = pl := ⟨_, rfl⟩
                  rw [hpl] at c17 c18 hM2 hor hple
                  clear hRg hpl
                  obtain ⟨k17, -⟩ := heap1 c17
                  obtain ⟨k18, -⟩ := heap1 c18
                  obtain ⟨k7, -⟩ := heap1 (HG.out W2 hM2.held.right).2.1
                  obtain ⟨k16, -⟩ := heap1 (hM2.held.left (wA.heap.size, .cells #[.slice ab m cb] 35) (by rw [HLL.out]; exact List.mem_cons_self))
                  have hDs : ∀ D ∈ ds, W2.heap[D]? = some (.deferred (some [])) := fun D hD => hM2.held.left (D, .deferred (some [])) (by rw [HLL.out]; exact List.mem_cons_of_mem _ (List.mem_append_right _ (List.mem_map.2 ⟨D, hD, rfl⟩)))
                  have HM2 := Lib.hid (And.intro hm2 (And.intro hM2 hDs)); clear hm2 hM2 hDs
                  by_cases hst : (pl : Int) = stop
                  · subst hst
                    go_wp2_with fail
                    generalize hA1 : Act.mk _ _ = a1
                    obtain ⟨hm2, hM2, hDs⟩ := HM2.out
                    have hmt : m ≤ tot := by have := HM.out.tot; have := total_flat R; have := Hm.out; omega
                    unfold LoopI
                    refine ⟨⟨fun i => a1.tmps.getD i undef, r + 1, tot + pl, R2, _, m2, ab2, cb2, D1 :: ds, (by rw [← fr_of a1.tmps (by rw [← hA1]; rfl)]; rw [← hA1]; rfl), (by rw [← hA1]; rfl), (by rw [← hA1]; rfl), (by rw [← hA1]; rfl), (by rw [← hA1]; rfl), (by rw [← hA1]; rfl), (by rw [← hA1]; rfl), (by rw [← hA1]; rfl), (by rw [← hA1]; rfl), by simp [hdl], by omega, ?_, ?_, ?_, fun h => by omega, fun h => by have := ht0 (by omega); omega, ?_, hm2, hM2.less (Nat.le_refl _) |>.cells⟩, ?_⟩
                    · refine List.nodup_cons.2 ⟨fun h => ?_, hdn⟩
                      have := block_lt_of_heap (hds D1 h).2
                      have := hBk.size
                      have := hbI.size
                      omega
                    · intro D hD
                      rcases List.mem_cons.1 hD with rfl | hD
                      · exact ⟨by omega, hK1⟩
                      · exact ⟨(hds D hD).1, hDs D hD⟩
                    · rintro D hD ⟨-, o, ho, hoc⟩
                      rcases List.mem_cons.1 hD with rfl | hD
                      · rw [hK1] at ho; injection ho with ho; subst ho; cases hoc
                      · rw [hDs D hD] at ho; injection ho with ho; subst ho; cases hoc
                    · rcases Nat.eq_zero_or_pos r with h0 | h0
                      · have := ht0 h0; omega
                      · have := ht1 (by omega); omega
                    · subst hA1
                      show 2 - (((r : Int) + 1).toNat) < 2 - ((r : Int).toNat)
                      omega
                  · have e := hor.resolve_left hst
                    rw [e] at k17
                    have hne : ((pl : Int) == stop) = false := by rw [beq_eq_false_iff_ne]; exact hst
                    go_wp2_with fail
                    generalize hA1 : Act.mk _ _ = a1
                    obtain ⟨hm2, hM2, hDs⟩ := HM2.out
                    have hmt : m ≤ tot := by have := HM.out.tot; have := total_flat R; have := Hm.out; omega
                    unfold LoopI
                    refine ⟨⟨fun i => a1.tmps.getD i undef, r + 1, tot + pl, R2, _, m2, ab2, cb2, D1 :: ds, (by rw [← fr_of a1.tmps (by rw [← hA1]; rfl)]; rw [← hA1]; rfl), (by rw [← hA1]; rfl), (by rw [← hA1]; rfl), (by rw [← hA1]; rfl), (by rw [← hA1]; rfl), (by rw [← hA1]; rfl), (by rw [← hA1]; rfl), (by rw [← hA1]; rfl), (by rw [← hA1]; rfl), by simp [hdl], by omega, ?_, ?_, ?_, fun h => by omega, fun h => by have := ht0 (by omega); omega, ?_, hm2, hM2.less (Nat.le_refl _) |>.cells⟩, ?_⟩
                    · refine List.nodup_cons.2 ⟨fun h => ?_, hdn⟩
                      have := block_lt_of_heap (hds D1 h).2
                      have := hBk.size
                      have := hbI.size
                      omega
                    · intro D hD
                      rcases List.mem_cons.1 hD with rfl | hD
                      · exact ⟨by omega, hK1⟩
                      · exact ⟨(hds D hD).1, hDs D hD⟩
                    · rintro D hD ⟨-, o, ho, hoc⟩
                      rcases List.mem_cons.1 hD with rfl | hD
                      · rw [hK1] at ho; injection ho with ho; subst ho; cases hoc
                      · rw [hDs D hD] at ho; injection ho with ho; subst ho; cases hoc
                    · rcases Nat.eq_zero_or_pos r with h0 | h0
                      · have := ht0 h0; omega
                      · have := ht1 (by omega); omega
                    · subst hA1
                      show 2 - (((r : Int) + 1).toNat) < 2 - ((r : Int).toNat)
                      omega
                · exact absurd hpre hn
            · have Hah := Lib.hid hah; clear hah
              go_wp2_with fail
              obtain ⟨h1, h2⟩ := Bool.and_eq_true_iff.1 Hah.out
              have h1 := of_decide_eq_true h1
              rw [Hm.out] at h1
              refine ⟨⟨j + 1, by omega, fun q h => ?_, ?_, heap_set_ne _ g16 (by omega), hBk.setCell (p := ⟨wA.heap.size + 1, 0, none⟩) (by simp) _⟩, ?_⟩
              · rcases Nat.lt_or_ge q j with h3 | h3
                · exact Hq.out q h3
                · obtain rfl : q = j := by omega
                  exact h2
              · simpa using heap1_set (.int .i64 ((j : Int) + 1)) g17
              · have e1 := cellN_eq (heap1 (heap1_set (.int .i64 ((j : Int) + 1)) g17)).1
                have e2 : (((j : Int) + 1).toNat) = j + 1 := by omega
                first | rw [e2] at e1 | skip
                simp only [e1, HNN.out]
                omega
      · obtain rfl : r = 2 := by omega
        obtain ⟨D2, D1, rfl⟩ : ∃ D2 D1, ds = [D2, D1] := by
          match ds, hdl with
          | [x, y], _ => exact ⟨x, y, rfl⟩
        have hD12 : D2 ≠ D1 := by simpa using hdn
        have hK2 := (hds D2 (by simp)).2
        have hK1 := (hds D1 (by simp)).2
        have hz2 := (hds D2 (by simp)).1
        have hz1 := (hds D1 (by simp)).1
        obtain ⟨b0, b1⟩ := heap1 hM.box
        have g2 := (HG.out wA hM.held).2.2.1
        obtain ⟨x0, -⟩ := heap1 (HG.out wA hM.held).2.2.2.1
        have HA := Lib.hid (all_any (w.heap.size + 3) bx size h4 h64 R (.slice ab m cb) Z wA hM.two (by have := hM.tot; omega) hM.nn)
        have hB := hM.below
        simp only [List.map_cons, List.map_nil]
        have HD := Lib.hid (And.intro hD12 (And.intro hK2 hK1))
        clear hD12 hK2 hK1 hds hdn
        go_wp2_with fail
        refine HA.out.mono ?_
        rintro e w9 ⟨rfl, hb9⟩
        have m6 := below_heap hb9 g2
        obtain ⟨c4, c5⟩ := heap1 m6
        go_wp2_with fail
        obtain ⟨hD12, hK2, hK1⟩ := HD.out
        have hKa := (KeepsOthers.setCell w9 ⟨w.heap.size + 2, 0, none⟩ (.bool true)).same D2 _ (below_heap hb9 hK2) rfl
        have hKb := (KeepsOthers.setCell w9 ⟨w.heap.size + 2, 0, none⟩ (.bool true)).same D1 _ (below_heap hb9 hK1) rfl
        have hfin := heap1_set (.bool true) m6
        refine ⟨by simp, .inl ⟨_, _, rfl, run_takeDeferred hKa, ?_⟩⟩
        have hKc := (World.putObj_heap_other (o := .deferred none) (w := w9.setCell ⟨w.heap.size + 2, 0, none⟩ (.bool true)) (Ne.symm hD12)).trans hKb
        refine ⟨by simp, .inl ⟨_, _, rfl, run_takeDeferred hKc, ?_⟩⟩
        obtain ⟨f1, -⟩ := heap1 (heap_put (.deferred none) (heap_put (.deferred none) hfin rfl hKa rfl) rfl hKc rfl)
        have hBz := (hB.trans (hb9.mono hB.size)).setCell (p := ⟨w.heap.size + 2, 0, none⟩) (by simp) (.bool true)
        refine ⟨.bool true, ?_, rfl, (hBz.trans (belowK_b (w := w) (Nat.le_refl _) _ D2 _ _ hz2 hKa rfl rfl)).trans (belowK_b (w := w) (Nat.le_refl _) _ D1 _ _ hz1 hKc rfl rfl)⟩
        simp [results, Try.f6, go_sem, f1]
end Go.Proofs.Ytagcohpghgnalaa.SO
