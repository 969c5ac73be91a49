/-
  PagesOwn: the walk.
-/
import Derived.Test.YtagcohpghgnalaaCOD
set_option linter.unusedSimpArgs false
set_option linter.unusedVariables false
namespace Go.Proofs.Ytagcohpghgnalaa.OW
open Go.RowKit Go.RG Go.Hp Go.Pg Go.Proofs.Ytagcohpghgnalaa Go.Proofs.Ytagcohpghgnalaa.RF Go.Proofs.Ytagcohpghgnalaa.U Go.Proofs.Ytagcohpghgnalaa.LB Go.Proofs.Ytagcohpghgnalaa.BK Go.Proofs.Ytagcohpghgnalaa.QA


set_option maxHeartbeats 2000000 in
set_option maxRecDepth 100000 in
theorem own_law (sz : Int) (a : Option Addr) (n cap : Nat) (hn : n ≤ 1048576) (ops : Nat → Opd) (hok : ∀ i, i < n → OpOk (ops i)) (w : World) (ho : OpsAt w a n ops) :
    Calls Try.prog 16 #[.agg #[.int .i64 sz, .slice a n cap]] w fun e w' => e = .returned (.bool true) ∧ Below w.heap.size w w' := by
  have Ho := Lib.hid ho; clear ho
  have H1 := Lib.hid (begin_any sz)
  obtain ⟨i1, hi1, hy0, hy1, hy2⟩ := info_parts info_ints
  go_enter Try.func16, Try.ntmps16
  go_wp2_with fail
  have hB0 := below_box w (.cells #[.int .i64 sz, .slice a n cap] 69)
  have y1 : (w.alloc (.cells #[.int .i64 sz, .slice a n cap] 69)).cell? ⟨w.heap.size, 1, none⟩ = some (.slice a n cap) := by simp
  have hs0 : w.heap.size + 1 ≤ (w.alloc (.cells #[.int .i64 sz, .slice a n cap] 69)).heap.size := by simp
  generalize w.alloc (.cells #[.int .i64 sz, .slice a n cap] 69) = w0 at hB0 y1 hs0 ⊢
  refine (H1.out _).mono ?_
  rintro e w1 ⟨p, q, size, d0, Z0, rfl, hT0, hZ0, hB1⟩
  have y0 := below_cell hB1 y1
  have hz1 := hB1.size
  have hB1 := hB0.trans (hB1.mono hB0.size)
  have hS0 : OwnSt (w.heap.size + 1) size p q d0 0 Z0 [] (fun _ => 0) (fun _ => []) (.slice none 0 0) w1 :=
    ⟨hT0, fun k hk => ⟨by have := (hZ0 k hk).1; omega, (hZ0 k hk).2⟩, ⟨fun k hk => (by cases hk), fun j k hj => (by cases hj)⟩, fun k hk => (by cases hk), World.ownsRow_nil _ _ _ _, fun b ⟨k, hk, _⟩ => (by cases hk), fun b hb => (by cases hb)⟩
  clear y1 hT0 hZ0
  go_wp2_with fail
  go_loopw [6, 7] (fun v6 v7 wr => ∃ (i m : Nat) (aa : Option Addr) (ca : Nat) (d : Dx) (Z : Nat → Prop) (vs : List Value) (L : Nat → Nat) (c : Nat → List Value), v7 = .int .i64 i ∧ v6 = .slice aa m ca ∧ m = 2 * i ∧ vs.length = m ∧ i ≤ n ∧ OwnSt (w.heap.size + 1) size p q d i Z vs L c v6 wr ∧ wr.cell? ⟨w.heap.size, 1, none⟩ = some (.slice a n cap) ∧ Below w.heap.size w wr ∧ w.heap.size + 1 ≤ wr.heap.size)
    (fun _ vi _ => n - (intOf vi).toNat)
  case atStart => exact ⟨0, 0, none, 0, d0, Z0, [], _, _, rfl, rfl, rfl, rfl, by omega, hS0, y0, hB1, by omega⟩
  case round =>
    obtain ⟨i, m, aa, ca, d, Z, vs, L, c, rfl, rfl, hm2, hvl, hin, hS, y1, hB, hsr⟩ := hrel
    clear y0 hS0 hB1
    have HV := Lib.hid (And.intro hm2 hvl); clear hm2 hvl
    by_cases hlt : i < n
    · obtain ⟨pb, po, hpa, p0, p1, p2, p3⟩ := Ho.out i hlt
      have hpl : pb < w.heap.size := World.block_lt_of_cell? w _ p0
      have o0 := below_cell hB p0
      have o1 := below_cell hB p1
      have o2 := below_cell hB p2
      have o3 := below_cell hB p3
      have hii : (i : Int) < (n : Int) := by omega
      have y2 := y1
      rw [hpa] at y2
      have HA := twin_ask hS.tw (by omega) (ops i) (hok i hlt)
      unfold agg at HA
      have HA' := Lib.hid (And.intro HA hS); clear HA hS hpa p0 p1 p2 p3
      have hy1' := Lib.hid y1; clear y1
      go_wp2_with fail
      refine HA'.out.1.mono ?_
      rintro e w2 ⟨v1, Z1, rfl, hH, hX1, hZ1⟩
      obtain ⟨a1, n1, c1, rfl⟩ := half_slice hH
      have HD := half_doc hH (by omega) (hok i hlt)
      unfold agg at HD
      have nz : ∀ k, k < w.heap.size + 1 → ¬ Z k := fun k hk h => by have := (HA'.out.2.zl k h).1; omega
      have o0 := hX1.cell_some o0 (nz _ (by show pb < _; omega))
      have o1 := hX1.cell_some o1 (nz _ (by show pb < _; omega))
      have o2 := hX1.cell_some o2 (nz _ (by show pb < _; omega))
      have o3 := hX1.cell_some o3 (nz _ (by show pb < _; omega))
      have y2 := hX1.cell_some y2 (nz _ (by simp))
      have HD' := Lib.hid (And.intro HD (And.intro hX1 hZ1)); clear HD hX1 hZ1 hH nz
      go_wp2_with fail
      refine HD'.out.1.mono ?_
      rintro e w3 hP
      obtain ⟨⟨v2, rfl, a2, n2, c2, rfl⟩, Z3, hS3, hB3⟩ := HA'.out.2.both hsr HD'.out.2.1 HD'.out.2.2 hP
      have y3 := (hB3.cell (p := ⟨w.heap.size, 1, none⟩) (by simp)).trans hy1'.out
      have hB4 := hB.trans (hB3.mono (by omega))
      have hs3 := hB3.size
      have hlS := shp_len hS3.tw.1
      obtain ⟨d', hd'⟩ : ∃ d', stepD size d (ops i) = d' := ⟨_, rfl⟩
      rw [hd'] at hS3 hlS
      obtain ⟨l1, hl1⟩ : ∃ l1, shp d' = l1 := ⟨_, rfl⟩
      rw [hl1] at hlS
      obtain ⟨m1, hm1⟩ : ∃ m1, l1.length = m1 := ⟨_, rfl⟩
      rw [hm1] at hlS
      have HLM := Lib.hid (And.intro hl1 hm1); clear hl1 hm1 hd'
      have HS3 := Lib.hid hS3; clear hP hS3 o0 o1 o2 o3 y2 hB3
      go_wp2_with fail
      refine (twin_pgx HS3.out.tw (by omega)).mono ?_
      rintro e w4 ⟨va, rfl, hoa, hb4⟩
      rw [HLM.out.1, HLM.out.2] at hoa
      obtain ⟨aa4, ca4, rfl, -⟩ := owns_shape hoa
      have Hoa := Lib.hid hoa; clear hoa
      go_wp2_with fail
      refine (twin_pgx (HS3.out.tw.below hb4) (by omega)).mono ?_
      rintro e w5 ⟨vb, rfl, hob, hb5⟩
      rw [HLM.out.1, HLM.out.2] at hob
      obtain ⟨aa5, ca5, rfl, -⟩ := owns_shape hob
      have Hob := Lib.hid hob; clear hob
      go_wp2_with fail
      refine (twin_pgy ((HS3.out.tw.below hb4).below hb5) (by omega)).mono ?_
      rintro e w6 ⟨vw, rfl, how, hb6⟩
      rw [HLM.out.1, HLM.out.2] at how
      obtain ⟨aa6, ca6, rfl, -⟩ := owns_shape how
      have How := Lib.hid how; clear how
      have y4 := below_cell hb6 (below_cell hb5 (below_cell hb4 y3))
      have hs4 := hb4.size
      have hs5 := hb5.size
      have hs6 := hb6.size
      go_wp2_with fail
      go_loopw [11] (fun vj wj => ∃ j : Nat, vj = .int .i64 j ∧ j ≤ m1 ∧ Below w6.heap.size w6 wj) (fun vj _ => m1 - (intOf vj).toNat)
      case atStart => exact ⟨0, rfl, by omega, Below.refl _ _⟩
      case round =>
        obtain ⟨j, rfl, hjl, hBj⟩ := hrel
        by_cases hj : j < m1
        · have hjj : (j : Int) < (m1 : Int) := by omega
          obtain ⟨ga, _, e1, -, hga, -, -, hca, -⟩ := owns_parts Hoa.out (by omega)
          obtain ⟨gb, _, e2, -, hgb, -, -, hcb, -⟩ := owns_parts Hob.out (by omega)
          obtain ⟨gw, _, e3, -, hgw, -, -, hcw, -⟩ := owns_parts How.out (by omega)
          injection e1 with e1 _ f1
          injection e2 with e2 _ f2
          injection e3 with e3 _ f3
          subst e1 e2 e3 f1 f2 f3
          have hj1 : j < l1.length := by rw [HLM.out.2]; exact hj
          have z1 := hca j (by omega)
          have z2 := hcb j (by omega)
          have z3 := hcw j (by omega)
          rw [nums_get hj1] at z1 z2 z3
          have z1 := below_cell hBj (below_cell hb6 (below_cell hb5 z1))
          have z2 := below_cell hBj (below_cell hb6 z2)
          have z3 := below_cell hBj z3
          generalize l1[j] = x at z1 z2 z3
          clear hca hcb hcw
          go_wp2_with fail
          refine wp_region_rg (fun _ => none) fol (by kernel_rfl) (fun W hW hh => ?_)
          clear hh
          have q0 : ∀ w1, Below W.heap.size W w1 → w1.cell? ⟨ga, j, none⟩ = some (.int .i64 (x : Int)) := fun w1 h => below_cell (below_trans hW h) z1
          have q1 : ∀ w1, Below W.heap.size W w1 → w1.cell? ⟨gb, j, none⟩ = some (.int .i64 (x : Int)) := fun w1 h => below_cell (below_trans hW h) z2
          have q2 : ∀ w1, Below W.heap.size W w1 → w1.cell? ⟨gw, j, none⟩ = some (.int .i64 (x : Int)) := fun w1 h => below_cell (below_trans hW h) z3
          repeat (first
            | (refine lex_move _ (by first | exact Or.inl rfl | exact Or.inr rfl) rfl rfl ?_
               simp only [Act.put, Act.eval, Array.getD_eq_getD_getElem?, List.getElem?_toArray, List.getElem?_cons_zero, List.getElem?_cons_succ, Option.getD_some, List.setIfInBounds_toArray, List.set_cons_succ, List.set_cons_zero]
              )
            | (refine lex_float ?_ rfl rfl (fun w1 hb1 hf1 => ?_) ?_
               rotate_left
               (go_simp; (try simp (disch := omega) only [IntWalk.i64_quo, IntWalk.rem_in, IntWalk.i64_in, IntWalk.u64_in, IntWalk.u32_in, IntWalk.u8_in, IntWalk.toNatUp, IntWalk.iteOmega]); (try go_simp); rfl)
               simp only [Act.put, Act.eval, Array.getD_eq_getD_getElem?, List.getElem?_toArray, List.getElem?_cons_zero, List.getElem?_cons_succ, Option.getD_some, List.setIfInBounds_toArray, List.set_cons_succ, List.set_cons_zero]
              )
            | (refine lex_skip rfl ?_
               simp only [Act.put, Act.eval, Array.getD_eq_getD_getElem?, List.getElem?_toArray, List.getElem?_cons_zero, List.getElem?_cons_succ, Option.getD_some, List.setIfInBounds_toArray, List.set_cons_succ, List.set_cons_zero]
              ))
          clear q0 q1 q2
          refine lex_nil ?_
          go_wp2_with fail
          refine ⟨⟨j + 1, by simp, by omega, hBj.trans (hW.mono hBj.size)⟩, ?_⟩
          show m1 - (((j : Int) + 1).toNat) < m1 - ((j : Int).toNat)
          omega
        · obtain rfl : j = m1 := by omega
          have hbx := below_box wr (.cells #[.slice aa4 j ca4, .slice aa5 j ca5] 52)
          have hb36 := below_trans (below_trans (below_trans hb4 hb5) hb6) (below_trans hBj hbx)
          have hS6 := HS3.out.below hb36
          have hroa := owns_below Hoa.out (below_trans (below_trans hb5 hb6) (below_trans hBj hbx))
          have hrob := owns_below Hob.out (below_trans hb6 (below_trans hBj hbx))
          have Hown := Lib.hid (show (wr.alloc (.cells #[.slice aa4 j ca4, .slice aa5 j ca5] 52)).ownsRow (w.heap.size + 1) 52 1 (.slice aa m ca) m vs by have := hS6.row; rw [HV.out.2] at this; exact this)
          have Hsrc := Lib.hid (show ∀ (k : Nat) (u : Value), ([.slice aa4 j ca4, .slice aa5 j ca5] : List Value)[k]? = some u → (wr.alloc (.cells #[.slice aa4 j ca4, .slice aa5 j ca5] 52)).cell? ((⟨wr.heap.size, 0, none⟩ : Addr).add k) = some u from fun k u hu => by
            have hr : Row (wr.alloc (.cells #[.slice aa4 j ca4, .slice aa5 j ca5] 52)) wr.heap.size 52 [.slice aa4 j ca4, .slice aa5 j ca5] := row_new wr [.slice aa4 j ca4, .slice aa5 j ca5] 52
            rw [Addr.add_lit, Nat.zero_add, hr.cell]; exact hu)
          have Q4 := Lib.hid (show ∀ u ∈ ([.slice aa4 j ca4, .slice aa5 j ca5] : List Value), u.oneCell' = true from fun u hu => by
            simp only [List.mem_cons, List.not_mem_nil, or_false] at hu
            rcases hu with rfl | rfl <;> rfl)
          have hsj := hBj.size
          have hmi := HV.out.1
          have q1 : m + 2 ≤ maxLen := by unfold maxLen; omega
          have q2 : (m + 2) * 24 ≤ 140737488355328 := by omega
          have q3 : w.heap.size + 1 ≤ (wr.alloc (.cells #[.slice aa4 j ca4, .slice aa5 j ca5] 52)).heap.size := by simp; omega
          have y5 := below_cell hbx (below_cell hBj y4)
          have HR := Lib.hid (And.intro hroa (And.intro hrob (And.intro hb36 y5)))
          clear hroa hrob hb36 hS6 y5 hmi
          go_wp2_with (at_builtin; go_loud (refine QA.wpList_append_own3 rfl _ _ 84 rfl (w.heap.size + 1) 52 i1 (.slice none 0 0) 1 24 und_rows hi1 hy0 hy1 hy2 rfl (by decide) _ _ _ rfl Hown.out ⟨wr.heap.size, 0, none⟩ 2 2 [.slice aa4 j ca4, .slice aa5 j ca5] rfl rfl Hsrc.out Q4.out q1 q2 q3 ?_; intro v' w9 hown' hgr hnew; obtain ⟨a9, c9, hv9, -⟩ := owns_shape hown'; subst hv9; have HW := Lib.hid (And.intro hown' (And.intro hgr hnew)); clear hown' hgr hnew))
          obtain ⟨hown', hgr, hnew⟩ := HW.out
          obtain ⟨hroa, hrob, hb36, y5⟩ := HR.out
          obtain ⟨hmi, hvl⟩ := HV.out
          have hoff := (HS3.out.below hb36).off2
          have hy9 := (hgr.cell (a := ⟨w.heap.size, 1, none⟩) y5 (fun e => by have h1 := (HS3.out.row.lt w.heap.size e.symm).1; omega))
          have hfin := HS3.out.add (n := j) (by omega) (by omega) hroa (fun k hk => owns_lt Hoa.out hk) hrob hb36 hs4 (by rw [hvl]; exact hown') hgr hnew
          have hs9 := hfin.2.size
          refine ⟨⟨i + 1, m + 2, a9, c9, d', Z3, _, _, _, by simp, rfl, by omega, by simp [hvl], by omega, hfin.1, hy9, ?_, ?_⟩, ?_⟩
          · exact (hB4.trans (hb36.mono (by omega))).trans (hfin.2.mono (by omega))
          · have := hb36.size; omega
          · show n - (((i : Int) + 1).toNat) < n - ((i : Int).toNat)
            omega
    · obtain rfl : i = n := by omega
      have hAp := apart_any (w.heap.size + 1) (.slice aa m ca) vs L c (by have h1 := HV.out; omega) hS.ll wr hsr hS.row hS.ls fun b h1 h2 => (hS.off2 b h2).2 h1
      have HAp := Lib.hid hAp
      have HS := Lib.hid hS; clear hS hAp
      go_wp2_with fail
      refine HAp.out.mono ?_
      rintro e w2 ⟨rfl, hX2⟩
      have hT2 := HS.out.tw.ext hX2 fun k hz hl => HS.out.off1 k hl hz
      have hB2 := hB.trans (hX2.to_belowAt (B := w.heap.size) hB.size fun k hk ⟨j, hj, hjk⟩ => by have := ((HS.out.ls.row j hj).lt k hjk).1; omega)
      have hs2 := hX2.size
      have hok5 : OpOk ⟨5, ⟨0, 0⟩, 0⟩ := ⟨by decide, by decide, by decide, by decide⟩
      have HA := twin_ask hT2 (by omega) ⟨5, ⟨0, 0⟩, 0⟩ hok5
      unfold agg at HA
      have HA' := Lib.hid (And.intro HA hT2); clear HA hT2 hX2
      go_wp2_with fail
      refine HA'.out.1.mono ?_
      rintro e w3 ⟨v1, Z1, rfl, hH, hX1, hZ1⟩
      obtain ⟨a1, n1, c1, rfl⟩ := half_slice hH
      have HD := half_doc hH (by omega) hok5
      unfold agg at HD
      have hB3 := hB2.trans (hX1.to_belowAt (B := w.heap.size) hB2.size fun k hk hz => by have := (HS.out.zl k hz).1; omega)
      have HD' := Lib.hid (And.intro HD hZ1); clear HD hX1 hZ1 hH
      go_wp2_with fail
      refine HD'.out.1.mono ?_
      rintro e w4 ⟨v2, Z2, b1, b2, rfl, hn1, hn2, hT4, hX4, hZ4⟩
      have HSm := Lib.hid (same_any b1 b2 _ v2 _ (ans_len (show DGood size d i from HA'.out.2.1) (by omega) ⟨5, ⟨0, 0⟩, 0⟩) w4 hn1 hn2)
      obtain ⟨a4, c4, hv4, -⟩ := owns_shape hn2
      obtain ⟨n4, hn4⟩ : ∃ n4, n4 = (ansD d ⟨5, ⟨0, 0⟩, 0⟩).length := ⟨_, rfl⟩
      rw [← hn4] at hv4
      subst hv4
      have hB4 := hB3.trans (hX4.to_belowAt (B := w.heap.size) hB3.size fun k hk hz => by
        rcases (HD'.out.2 k hz).1 with h | h
        · have := (HS.out.zl k h).1; omega
        · omega)
      clear hn1 hn2 hT4 hX4 hZ4 hn4
      go_wp2_with fail
      refine HSm.out.mono ?_
      rintro e w5 ⟨rfl, hB5⟩
      go_wp2_with fail
      refine (U.small_any _).mono ?_
      rintro e w6 ⟨rfl, hB6⟩
      go_wp2_with fail
      go_ret
      exact ⟨rfl, (hB4.trans (hB5.mono hB4.size)).trans (hB6.mono (by have := hB4.size; have := hB5.size; omega))⟩
end Go.Proofs.Ytagcohpghgnalaa.OW
