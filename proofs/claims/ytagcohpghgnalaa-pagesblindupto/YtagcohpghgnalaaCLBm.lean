/-
  The walk of the law PagesBlind, where the size is above the greatest one.
-/
import Derived.Test.YtagcohpghgnalaaCLB
set_option linter.unusedSimpArgs false
set_option linter.unusedVariables false
namespace Go.Proofs.Ytagcohpghgnalaa.LB
open Go.RowKit Go.RG Go.Hp Go.Pg Go.Proofs.Ytagcohpghgnalaa


set_option maxHeartbeats 1000000 in
set_option maxRecDepth 100000 in
theorem blind_more (size : Int) (h1 : 64 < size) (a : Option Addr) (n cap : Nat) (hn : n ≤ 1048576) (ops : Nat → Opd) (w : World) (ho : OpsAt w a n ops)
    (I : (Nat → Prop) → Nat → World → Prop) (hD : Duo w.heap.size (.pointer none) (.pointer none) I) (S0 : Nat → Prop) (hI0 : I S0 0 w) :
    Calls Try.prog 5 #[.int .i64 size, .slice a n cap] w fun e w' => e = .returned (.bool true) ∧ Below w.heap.size w w' := by
  have Ho := Lib.hid ho; clear ho
  have hB0 := Below.refl w.heap.size w
  have h := Or.inr (a := size < 4) h1
  have h2 : 4 ≤ size := by omega
  have h3 : ¬ size ≤ 64 := by omega
  go_enter Try.func5, Try.ntmps5
  go_wp2_with fail
  refine (U.new_bad size h _).mono ?_
  rintro e w' ⟨rfl, rfl⟩
  go_wp2_with fail
  refine (S.new_bad size h _).mono ?_
  rintro e w' ⟨rfl, rfl⟩
  go_wp2_with fail
  refine (num_any _ _).mono ?_
  rintro e w' ⟨rfl, rfl⟩
  go_wp2_with fail
  refine (num_any _ _).mono ?_
  rintro e w' ⟨rfl, rfl⟩
  go_wp2_with fail
  refine (num_any _ _).mono ?_
  rintro e w' ⟨rfl, rfl⟩
  go_wp2_with fail
  go_loopw [10] (fun vi wr => ∃ (i : Nat) (S : Nat → Prop), vi = .int .i64 i ∧ i ≤ n ∧ I S i wr ∧ Below w.heap.size w wr) (fun vi _ => n - (intOf vi).toNat)
  case atStart => exact ⟨0, S0, rfl, by omega, hI0, hB0⟩
  case round =>
    obtain ⟨i, S, rfl, hin, hI, hB⟩ := hrel
    by_cases hlt : i < n
    · obtain ⟨pb, po, rfl, o0, o1, o2, o3⟩ := Ho.out i hlt
      have o0 := below_cell hB o0
      have o1 := below_cell hB o1
      have o2 := below_cell hB o2
      have o3 := below_cell hB o3
      generalize (ops i).kind = kd at o0 o1 o2 o3
      generalize (ops i).s = s at o0 o1 o2 o3
      generalize (ops i).v = v at o0 o1 o2 o3
      have hcv := conv_one (wr.alloc (.cells #[.int .i64 kd, .int .u64 s.t, .int .u64 s.s, .int .u64 v] 40)) (wr.heap.size + 1) (by simp) v
      have hii : (i : Int) < (n : Int) := by omega
      have z1 : ((wr.alloc (.cells #[.int .i64 kd, .int .u64 s.t, .int .u64 s.s, .int .u64 v] 40)).alloc (.cells #[.int .u8 (v % 256)] 5)).cell? ⟨wr.heap.size, 1, none⟩ = some (.int .u64 s.t) := below_cell (below_box _ _) (by simp)
      have z2 : ((wr.alloc (.cells #[.int .i64 kd, .int .u64 s.t, .int .u64 s.s, .int .u64 v] 40)).alloc (.cells #[.int .u8 (v % 256)] 5)).cell? ⟨wr.heap.size, 2, none⟩ = some (.int .u64 s.s) := below_cell (below_box _ _) (by simp)
      have z3 : ((wr.alloc (.cells #[.int .i64 kd, .int .u64 s.t, .int .u64 s.s, .int .u64 v] 40)).alloc (.cells #[.int .u8 (v % 256)] 5)).cell? ⟨wr.heap.size, 3, none⟩ = some (.int .u64 v) := below_cell (below_box _ _) (by simp)
      have hBx := below_trans (below_box wr (.cells #[.int .i64 kd, .int .u64 s.t, .int .u64 s.s, .int .u64 v] 40)) (below_box (wr.alloc (.cells #[.int .i64 kd, .int .u64 s.t, .int .u64 s.s, .int .u64 v] 40)) (.cells #[.int .u8 (v % 256)] 5))
      have hIx := hD.keep _ _ _ _ hI hBx
      have hSo := hD.own _ _ _ hI
      have hbo : ¬ S wr.heap.size := fun h => by have := (hSo _ h).2; omega
      have hi9 : i < 1099511 := by omega
      by_cases k1 : kd = 1
      · subst k1
        go_wp2_with fail
        clear hcv o0 o1 o2 o3
        generalize World.alloc (World.alloc wr _) _ = X at z1 z2 z3 hBx hIx ⊢
        refine wp_region_seq 10 [5] (fun w' => w'.cell? ⟨wr.heap.size, 1, none⟩ = some (.int .u64 s.t) ∧ w'.cell? ⟨wr.heap.size, 2, none⟩ = some (.int .u64 s.s) ∧ w'.cell? ⟨wr.heap.size, 3, none⟩ = some (.int .u64 v))
          (fun _ => PutMid I S X (.pointer none) s v i) fol (by kernel_rfl)
          (fun W hW hh => ⟨⟨below_cell hW z1, below_cell hW z2, below_cell hW z3⟩, ?_⟩)
        clear hh
        simp only [List.take_succ_cons, List.take_zero, List.drop_succ_cons, List.drop_zero]
        repeat (first
          | (refine rq_move _ (by first | exact Or.inl rfl | exact Or.inr rfl) rfl rfl ?_
             simp only [Act.put, Act.eval, Array.getD_eq_getD_getElem?, List.getElem?_toArray, List.getElem?_cons_zero, List.getElem?_cons_succ, Option.getD_some, List.setIfInBounds_toArray, List.set_cons_succ, List.set_cons_zero]
            )
          | (refine rq_big ?_ rfl rfl (fun w1 hcb1 => ?_) ?_
             rotate_left
             ((try obtain ⟨hcb1, hcb2, hcb3⟩ := hcb1); go_simp; (try simp (disch := omega) only [IntWalk.i64_quo, IntWalk.rem_in, IntWalk.i64_in, IntWalk.u64_in, IntWalk.u32_in, IntWalk.u8_in, IntWalk.toNatUp, IntWalk.iteOmega]); (try go_simp); rfl)
             simp only [Act.put, Act.eval, Array.getD_eq_getD_getElem?, List.getElem?_toArray, List.getElem?_cons_zero, List.getElem?_cons_succ, Option.getD_some, List.setIfInBounds_toArray, List.set_cons_succ, List.set_cons_zero]
            )
          | (refine rq_skip rfl rfl ?_
             simp only [Act.put, Act.eval, Array.getD_eq_getD_getElem?, List.getElem?_toArray, List.getElem?_cons_zero, List.getElem?_cons_succ, Option.getD_some, List.setIfInBounds_toArray, List.set_cons_succ, List.set_cons_zero]
            ))
        refine rq_late _ rfl rfl ?_ ?_
        · (unfold makes; go_simp; simp only [makesUpon])
          have hIW := hD.keep _ _ _ _ hIx hW
          refine (hD.put S i W s v hIW hi9).mono ?_
          rintro e w1 ⟨b, rfl, hx, hc⟩
          have hsz := hW.size
          have hbW := hBx.size
          refine ⟨_, rfl, ⟨hx.cell_some (below_cell hW z1) hbo, hx.cell_some (below_cell hW z2) hbo, hx.cell_some (below_cell hW z3) hbo⟩, ⟨b, rfl, (Ext.of_below hW).trans hx fun k _ h => h, hc⟩⟩
        rintro u w1 ⟨y1, y2, y3⟩ ⟨b, rfl, hx1, hc⟩
        simp only [Act.put, Act.eval, Array.getD_eq_getD_getElem?, List.getElem?_toArray, List.getElem?_cons_zero, List.getElem?_cons_succ, Option.getD_some, List.setIfInBounds_toArray, List.set_cons_succ, List.set_cons_zero]
        repeat (first
          | (refine rq_move _ (by first | exact Or.inl rfl | exact Or.inr rfl) rfl rfl ?_
             simp only [Act.put, Act.eval, Array.getD_eq_getD_getElem?, List.getElem?_toArray, List.getElem?_cons_zero, List.getElem?_cons_succ, Option.getD_some, List.setIfInBounds_toArray, List.set_cons_succ, List.set_cons_zero]
            )
          | (refine rq_big ?_ rfl rfl (fun w1 hcb1 => ?_) ?_
             rotate_left
             ((try obtain ⟨hcb1, hcb2, hcb3⟩ := hcb1); go_simp; (try simp (disch := omega) only [IntWalk.i64_quo, IntWalk.rem_in, IntWalk.i64_in, IntWalk.u64_in, IntWalk.u32_in, IntWalk.u8_in, IntWalk.toNatUp, IntWalk.iteOmega]); (try go_simp); rfl)
             simp only [Act.put, Act.eval, Array.getD_eq_getD_getElem?, List.getElem?_toArray, List.getElem?_cons_zero, List.getElem?_cons_succ, Option.getD_some, List.setIfInBounds_toArray, List.set_cons_succ, List.set_cons_zero]
            )
          | (refine rq_skip rfl rfl ?_
             simp only [Act.put, Act.eval, Array.getD_eq_getD_getElem?, List.getElem?_toArray, List.getElem?_cons_zero, List.getElem?_cons_succ, Option.getD_some, List.setIfInBounds_toArray, List.set_cons_succ, List.set_cons_zero]
            ))
        refine rq_nil ?_
        go_wp2_with fail
        refine hc.mono ?_
        rintro e w2 ⟨rfl, hx2, S', hI'⟩
        go_wp2_with fail
        have hX := hx1.trans hx2 (fun k _ h => h)
        have hw1 := hB.size
        have hw2 := hBx.size
        have hb3 : Below w.heap.size _ _ := hX.to_belowAt (B := w.heap.size) (by omega) (fun k hk h => by have := (hSo k h).1; omega)
        refine ⟨⟨i + 1, S', rfl, by omega, hI', (hB.trans (hBx.mono hw1)).trans hb3⟩, ?_⟩
        show n - (((i : Int) + 1).toNat) < n - ((i : Int).toNat)
        omega
      have k1' : (kd == 1) = false := by simpa using k1
      by_cases k2 : kd = 2
      · subst k2
        go_wp2_with fail
        generalize World.alloc (World.alloc wr _) _ = X at z1 z2 z3 hBx hIx ⊢
        refine (hD.rem S i X s hIx hi9).mono ?_
        rintro e w1 ⟨a, b, rfl, hx1, hc⟩
        have hbW := hBx.size
        have y1 := hx1.cell_some z1 hbo
        have y2 := hx1.cell_some z2 hbo
        unfold St.v at hc
        go_wp2_with fail
        refine hc.mono ?_
        rintro e w2 ⟨a', rfl, hx2, S', hI'⟩
        go_wp2_with fail
        have hX := hx1.trans hx2 (fun k _ h => h)
        have hw1 := hB.size
        have hw2 := hBx.size
        have hb3 : Below w.heap.size _ _ := hX.to_belowAt (B := w.heap.size) (by omega) (fun k hk h => by have := (hSo k h).1; omega)
        refine ⟨⟨i + 1, S', rfl, by omega, hI', (hB.trans (hBx.mono hw1)).trans hb3⟩, ?_⟩
        show n - (((i : Int) + 1).toNat) < n - ((i : Int).toNat)
        omega
      have k2' : (kd == 2) = false := by simpa using k2
      by_cases k3 : kd = 3
      · subst k3
        go_wp2_with fail
        generalize World.alloc (World.alloc wr _) _ = X at z1 z2 z3 hBx hIx ⊢
        obtain ⟨x, b, hp1, hp2⟩ := hD.get S i X s hIx hi9
        unfold St.v at hp1 hp2
        refine hp1.mono ?_
        rintro e w1 ⟨rfl, hb1⟩
        have y1 := below_cell hb1 z1
        have y2 := below_cell hb1 z2
        have hp3 := hp2 w1 hb1
        clear hp1 hp2
        go_wp2_with fail
        refine hp3.mono ?_
        rintro e w2 ⟨rfl, hb2⟩
        have hI' := hD.more _ _ _ (hD.keep _ _ _ _ hIx (below_trans hb1 hb2))
        cases b
        · go_wp2_with fail
          have hX := Ext.of_below (S := S) (below_trans hb1 hb2)
          have hw1 := hB.size
          have hw2 := hBx.size
          have hb3 : Below w.heap.size _ _ := hX.to_belowAt (B := w.heap.size) (by omega) (fun k hk h => by have := (hSo k h).1; omega)
          refine ⟨⟨i + 1, S, rfl, by omega, hI', (hB.trans (hBx.mono hw1)).trans hb3⟩, ?_⟩
          show n - (((i : Int) + 1).toNat) < n - ((i : Int).toNat)
          omega
        · have hcx := conv_one w2 w2.heap.size rfl x
          have hn1 := txt_neq x
          have hn2 := txt_guard x
          have hb3 := below_box w2 (.cells #[.int .u8 (x % 256)] 5)
          have hI' := hD.more _ _ _ (hD.keep _ _ _ _ hIx (below_trans (below_trans hb1 hb2) hb3))
          go_wp2_with fail
          have hX := Ext.of_below (S := S) (below_trans (below_trans hb1 hb2) hb3)
          have hw1 := hB.size
          have hw2 := hBx.size
          have hb3 : Below w.heap.size _ _ := hX.to_belowAt (B := w.heap.size) (by omega) (fun k hk h => by have := (hSo k h).1; omega)
          refine ⟨⟨i + 1, S, rfl, by omega, hI', (hB.trans (hBx.mono hw1)).trans hb3⟩, ?_⟩
          show n - (((i : Int) + 1).toNat) < n - ((i : Int).toNat)
          omega
      have k3' : (kd == 3) = false := by simpa using k3
      by_cases k6 : kd = 6
      · subst k6
        go_wp2_with fail
        generalize World.alloc (World.alloc wr _) _ = X at z1 z2 z3 hBx hIx ⊢
        obtain ⟨p, q, b, hp1, hp2⟩ := hD.plc S i X s hIx hi9
        unfold St.v at hp1 hp2
        refine hp1.mono ?_
        rintro e w1 ⟨rfl, hb1⟩
        have y1 := below_cell hb1 z1
        have y2 := below_cell hb1 z2
        have hp3 := hp2 w1 hb1
        clear hp1 hp2
        go_wp2_with fail
        refine hp3.mono ?_
        rintro e w2 ⟨rfl, hb2⟩
        go_wp2_with fail
        have hI' := hD.more _ _ _ (hD.keep _ _ _ _ hIx (below_trans hb1 hb2))
        have hX := Ext.of_below (S := S) (below_trans hb1 hb2)
        have hw1 := hB.size
        have hw2 := hBx.size
        have hb3 : Below w.heap.size _ _ := hX.to_belowAt (B := w.heap.size) (by omega) (fun k hk h => by have := (hSo k h).1; omega)
        refine ⟨⟨i + 1, S, rfl, by omega, hI', (hB.trans (hBx.mono hw1)).trans hb3⟩, ?_⟩
        show n - (((i : Int) + 1).toNat) < n - ((i : Int).toNat)
        omega
      have k6' : (kd == 6) = false := by simpa using k6
      go_wp2_with fail
      generalize World.alloc (World.alloc wr _) _ = X at z1 z2 z3 hBx hIx ⊢
      have hI' := hD.more _ _ _ hIx
      have hX := Ext.refl S X
      have hw1 := hB.size
      have hw2 := hBx.size
      have hb3 : Below w.heap.size _ _ := hX.to_belowAt (B := w.heap.size) (by omega) (fun k hk h => by have := (hSo k h).1; omega)
      refine ⟨⟨i + 1, S, rfl, by omega, hI', (hB.trans (hBx.mono hw1)).trans hb3⟩, ?_⟩
      show n - (((i : Int) + 1).toNat) < n - ((i : Int).toNat)
      omega
    · have hi9 : i < 1099511 := by omega
      obtain ⟨l, hl9, hg1, hg2⟩ := hD.pgs S i wr hI hi9
      have hSo := hD.own _ _ _ hI
      obtain rfl : i = n := by omega
      go_wp2_with fail
      refine hg1.mono ?_
      rintro e w1 ⟨v1, rfl, hv1, hb1⟩
      have Hv1 := Lib.hid hv1; clear hv1
      go_wp2_with fail
      refine (hg2 w1 hb1).mono ?_
      rintro e w2 ⟨v2, rfl, hv2, hb2⟩
      obtain ⟨a1, c1, rfl, -⟩ := owns_shape Hv1.out
      obtain ⟨a2, c2, rfl, -⟩ := owns_shape hv2
      have Hv2 := Lib.hid hv2; clear hv2
      have Hv3 := Lib.hid (owns_below Hv1.out hb2)
      go_wp2_with fail
      go_loopw [29] (fun vj w4 => ∃ j : Nat, vj = .int .i64 j ∧ j ≤ l.length ∧ Below w2.heap.size w2 w4) (fun vj _ => l.length - (intOf vj).toNat)
      case atStart => exact ⟨0, rfl, by omega, Below.refl _ _⟩
      case round =>
        obtain ⟨j, rfl, hjl, hb4⟩ := hrel
        by_cases hj : j < l.length
        · obtain ⟨g1, d1, e1, -, -, -, -, hc1, -⟩ := owns_parts Hv3.out (by omega)
          obtain ⟨g2, d2, e2, -, -, -, -, hc2, -⟩ := owns_parts Hv2.out (by omega)
          injection e1 with e1 _ f1
          injection e2 with e2 _ f2
          subst e1 e2 f1 f2
          have r1 := hc1 j (by omega)
          have r2 := hc2 j (by omega)
          rw [List.getElem?_map, List.getElem?_eq_getElem hj, Option.map_some] at r1 r2
          generalize l[j] = x at r1 r2
          have hjj : (j : Int) < (l.length : Int) := by omega
          clear hc1 hc2
          go_wp2_with fail
          refine wp_region_rg (fun _ => none) fol (by kernel_rfl) (fun W hW hh => ?_)
          clear hh
          have s1 : ∀ w1, Below W.heap.size W w1 → w1.cell? ⟨g1, j, none⟩ = some (.int .i64 x) := fun w1 h => below_cell (below_trans (below_trans hb4 hW) h) r1
          have s2 : ∀ w1, Below W.heap.size W w1 → w1.cell? ⟨g2, j, none⟩ = some (.int .i64 x) := fun w1 h => below_cell (below_trans (below_trans hb4 hW) h) r2
          repeat (first
            | (refine lex_move _ (by first | exact Or.inl rfl | exact Or.inr rfl) rfl rfl ?_
               simp only [Act.put, Act.eval, Array.getD_eq_getD_getElem?, List.getElem?_toArray, List.getElem?_cons_zero, List.getElem?_cons_succ, Option.getD_some, List.setIfInBounds_toArray, List.set_cons_succ, List.set_cons_zero]
              )
            | (refine lex_float ?_ rfl rfl (fun w1 hb1 hf1 => ?_) ?_
               rotate_left
               (go_simp; (try simp (disch := omega) only [IntWalk.i64_quo, IntWalk.rem_in, IntWalk.i64_in, IntWalk.u64_in, IntWalk.u32_in, IntWalk.u8_in, IntWalk.toNatUp, IntWalk.iteOmega]); (try go_simp); rfl)
               simp only [Act.put, Act.eval, Array.getD_eq_getD_getElem?, List.getElem?_toArray, List.getElem?_cons_zero, List.getElem?_cons_succ, Option.getD_some, List.setIfInBounds_toArray, List.set_cons_succ, List.set_cons_zero]
              )
            | (refine lex_skip rfl ?_
               simp only [Act.put, Act.eval, Array.getD_eq_getD_getElem?, List.getElem?_toArray, List.getElem?_cons_zero, List.getElem?_cons_succ, Option.getD_some, List.setIfInBounds_toArray, List.set_cons_succ, List.set_cons_zero]
              ))
          refine lex_nil ?_
          go_wp2_with fail
          refine ⟨⟨j + 1, rfl, by omega, below_trans hb4 hW⟩, ?_⟩
          show l.length - (((j : Int) + 1).toNat) < l.length - ((j : Int).toNat)
          omega
        · have hjj : ¬ (j : Int) < (l.length : Int) := by omega
          have hb5 := below_trans (below_trans hb1 hb2) hb4
          obtain ⟨m, hm1, hm2⟩ := hD.len S _ _ (hD.keep _ _ _ _ hI hb5) hi9
          have hb6 : Below w.heap.size w _ := hB.trans (hb5.mono hB.size)
          go_wp2_with fail
          refine hm1.mono ?_
          rintro e w' ⟨rfl, rfl⟩
          go_wp2_with fail
          refine hm2.mono ?_
          rintro e w' ⟨rfl, rfl⟩
          go_wp2_with fail
          go_ret
          exact ⟨rfl, hb6⟩
end Go.Proofs.Ytagcohpghgnalaa.LB
