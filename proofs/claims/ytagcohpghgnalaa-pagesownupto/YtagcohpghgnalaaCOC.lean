/-
  ApartInts: the walk.
-/
import Derived.Test.YtagcohpghgnalaaCOB
set_option linter.unusedSimpArgs false
set_option linter.unusedVariables false
namespace Go.Proofs.Ytagcohpghgnalaa.OW
open Go.RowKit Go.RG Go.Hp Go.Pg Go.Proofs.Ytagcohpghgnalaa

theorem und_ints : Try.prog.underlying 52 = some (.slice 3) := by kernel_rfl
theorem und_rows : Try.prog.underlying 84 = some (.slice 52) := by kernel_rfl
theorem info_int : (Try.prog.info? 3).map (fun i => (i.zero, i.size, i.bytes)) = some (some (.int .i64 0), 1, 8) := by kernel_rfl
theorem info_ints : (Try.prog.info? 52).map (fun i => (i.zero, i.size, i.bytes)) = some (some (.slice none 0 0), 1, 24) := by kernel_rfl

theorem slice_one {u : Value} (h : ∃ a n c, u = .slice a n c) : ∀ x ∈ ([u] : List Value), x.oneCell' = true := fun x hx => by
  obtain rfl := List.mem_singleton.1 hx
  obtain ⟨a, n, c, rfl⟩ := h
  rfl
theorem box_src (w : World) (u : Value) (T : TypeId) : ∀ (j : Nat) (x : Value), ([u] : List Value)[j]? = some x → (w.alloc (.cells #[u] T)).cell? ((⟨w.heap.size, 0, none⟩ : Addr).add j) = some x := fun j x hx => by
  have hr : Row (w.alloc (.cells #[u] T)) w.heap.size T [u] := row_new w [u] T
  rw [Addr.add_lit, Nat.zero_add, hr.cell]; exact hx

set_option maxHeartbeats 2000000 in
set_option maxRecDepth 100000 in
theorem apart_any (B : Nat) (vl : Value) (vs : List Value) (L : Nat → Nat) (c : Nat → List Value) (hN : vs.length ≤ 4194304) (hL : ∀ k, k < vs.length → L k ≤ 1099511) (w : World) (hB : B ≤ w.heap.size) (hl : w.ownsRow B 52 1 vl vs.length vs)
    (hr : Lists B w vs L c) (hoff : ∀ b, LB vs b → vl.ownBlock ≠ some b) :
    Calls Try.prog 49 #[vl] w fun e w' => e = .returned (.bool true) ∧ Ext (LB vs) w w' := by
  have hlt : ∀ b, LB vs b → b < w.heap.size := fun b ⟨k, hk, hb⟩ => owns_lt (hr.row k hk) hb
  obtain ⟨al, cl, rfl, -⟩ := owns_shape hl
  obtain ⟨N, hNl⟩ : ∃ N, vs.length = N := ⟨_, rfl⟩
  have HR := Lib.hid (And.intro hr (And.intro hoff (And.intro hlt hl))); clear hr hoff hlt hl
  rw [hNl] at hN hL ⊢
  have HN := Lib.hid hNl; clear hNl
  go_enter Try.func49, Try.ntmps49
  go_wp2_with fail
  go_loopw [4] (fun vi wr => ∃ (i : Nat) (c' : Nat → List Value), vi = .int .i64 i ∧ i ≤ N ∧ Lists B wr vs L c' ∧ (∀ k, k < i → c' k = marks k (L k)) ∧ Ext (LB vs) w wr) (fun vi _ => N - (intOf vi).toNat)
  case atStart => exact ⟨0, c, rfl, by omega, HR.out.1, fun k hk => by omega, Ext.refl _ _⟩
  case round =>
    obtain ⟨i, c', rfl, hin, hLs, hm, hX⟩ := hrel
    by_cases hlt : i < N
    · have hii : (i : Int) < (N : Int) := by omega
      have hiv : i < vs.length := by rw [HN.out]; exact hlt
      have hLi := hL i hlt
      have hlr := owns_ext HR.out.2.2.2 hX fun b hb hs => HR.out.2.1 b hs hb
      obtain ⟨gl, cl', e1, -, hgl, -, -, hlc, -⟩ := owns_parts hlr (by omega)
      injection e1 with e1 e2 e3
      subst e1 e3
      have z0 := hlc i (by omega)
      rw [List.getElem?_eq_getElem hiv] at z0
      obtain ⟨ai, ci, hvi, -⟩ := owns_shape (hLs.row i hiv)
      have hvi' : vs[i] = .slice ai (L i) ci := by rw [← hvi]; simp [val, hiv]
      rw [hvi'] at z0
      have HL := Lib.hid (And.intro hLs (And.intro hm (And.intro hvi hlc))); clear hLs hm hvi hvi' hlc e2 hlr
      go_wp2_with fail
      go_loopw [5] (fun vj w5 => ∃ (j : Nat) (c5 : Nat → List Value), vj = .int .i64 j ∧ j ≤ L i ∧ Lists B w5 vs L c5 ∧ (∀ k, k < i → c5 k = marks k (L k)) ∧ (∀ t, t < j → (c5 i)[t]? = some (mark i)) ∧ Ext (LB vs) w w5 ∧ w5.cell? ⟨gl, i, none⟩ = some (.slice ai (L i) ci)) (fun vj _ => L i - (intOf vj).toNat)
      case atStart => exact ⟨0, c', rfl, by omega, HL.out.1, HL.out.2.1, fun t ht => by omega, hX, z0⟩
      case round =>
        obtain ⟨j, c5, rfl, hjl, hLs, hm5, hmi, hX5, z5⟩ := hrel
        by_cases hj : j < L i
        · have hjj : (j : Int) < (L i : Int) := by omega
          obtain ⟨g, cap, hv, hg, hBg, hcell, hfr, hcap⟩ := hLs.cell hiv hj
          rw [HL.out.2.2.1] at hv
          injection hv with hv _ hv2
          subst hv hv2
          have hcl := hLs.len hiv
          rw [List.getElem?_eq_getElem (by omega)] at hcell
          generalize (c5 i)[j]'(by omega) = old at hcell
          have HF := Lib.hid (And.intro hLs (And.intro hm5 (And.intro hmi hcl))); clear hLs hm5 hmi z0 hcl
          go_wp2_with fail
          refine wp_region_rg_tail 7 (fun k => if k = 6 then some (fun u _ => u = mark i) else none) fol (by kernel_rfl) (fun W hW hh => ?_)
          clear hh
          have q0 : ∀ w1, Below W.heap.size W w1 → w1.cell? ⟨gl, i, none⟩ = some (.slice (some ⟨g, 0, none⟩) (L i) ci) := fun w1 h => below_cell (below_trans hW h) z5
          have hfW : W.frozen? ⟨g, j, none⟩ = false := by rw [hW.frozen (p := ⟨g, j, none⟩) hg]; exact hfr
          have z6 := below_cell hW z5
          simp only [List.take_succ_cons, List.take_zero, List.drop_succ_cons, List.drop_zero]
          repeat (first
            | (refine lex_move _ (by first | exact Or.inl rfl | exact Or.inr rfl) rfl rfl ?_
               simp only [Act.put, Act.eval, Array.getD_eq_getD_getElem?, List.getElem?_toArray, List.getElem?_cons_zero, List.getElem?_cons_succ, Option.getD_some, List.setIfInBounds_toArray, List.set_cons_succ, List.set_cons_zero]
              )
            | (refine lex_float ?_ rfl rfl (fun w1 hb1 hf1 => ?_) ?_
               rotate_left
               (go_simp; (try simp (disch := omega) only [IntWalk.i64_quo, IntWalk.rem_in, IntWalk.i64_in, IntWalk.u64_in, IntWalk.u32_in, IntWalk.u8_in, IntWalk.toNatUp, IntWalk.iteOmega]); (try go_simp); rfl)
               simp only [Act.put, Act.eval, Array.getD_eq_getD_getElem?, List.getElem?_toArray, List.getElem?_cons_zero, List.getElem?_cons_succ, Option.getD_some, List.setIfInBounds_toArray, List.set_cons_succ, List.set_cons_zero]
              )
            | (refine lex_skip rfl ?_
               simp only [Act.put, Act.eval, Array.getD_eq_getD_getElem?, List.getElem?_toArray, List.getElem?_cons_zero, List.getElem?_cons_succ, Option.getD_some, List.setIfInBounds_toArray, List.set_cons_succ, List.set_cons_zero]
              ))
          refine lex_make _ rfl (by exact fun _ _ _ h _ => h) rfl (fun w1 hb1 hf1 => ?_) ?_
          · (unfold makes; go_simp; simp only [makesUpon])
            refine (mark_any i (by omega) _).mono ?_
            rintro e w' ⟨rfl, rfl⟩
            exact ⟨_, rfl, Below.refl _ _, rfl⟩
          rintro u w3 hB3 rfl
          simp only [Act.put, Act.eval, Array.getD_eq_getD_getElem?, List.getElem?_toArray, List.getElem?_cons_zero, List.getElem?_cons_succ, Option.getD_some, List.setIfInBounds_toArray, List.set_cons_succ, List.set_cons_zero]
          repeat (first
            | (refine lex_move _ (by first | exact Or.inl rfl | exact Or.inr rfl) rfl rfl ?_
               simp only [Act.put, Act.eval, Array.getD_eq_getD_getElem?, List.getElem?_toArray, List.getElem?_cons_zero, List.getElem?_cons_succ, Option.getD_some, List.setIfInBounds_toArray, List.set_cons_succ, List.set_cons_zero]
              )
            | (refine lex_float ?_ rfl rfl (fun w1 hb1 hf1 => ?_) ?_
               rotate_left
               (go_simp; (try simp (disch := omega) only [IntWalk.i64_quo, IntWalk.rem_in, IntWalk.i64_in, IntWalk.u64_in, IntWalk.u32_in, IntWalk.u8_in, IntWalk.toNatUp, IntWalk.iteOmega]); (try go_simp); rfl)
               simp only [Act.put, Act.eval, Array.getD_eq_getD_getElem?, List.getElem?_toArray, List.getElem?_cons_zero, List.getElem?_cons_succ, Option.getD_some, List.setIfInBounds_toArray, List.set_cons_succ, List.set_cons_zero]
              )
            | (refine lex_skip rfl ?_
               simp only [Act.put, Act.eval, Array.getD_eq_getD_getElem?, List.getElem?_toArray, List.getElem?_cons_zero, List.getElem?_cons_succ, Option.getD_some, List.setIfInBounds_toArray, List.set_cons_succ, List.set_cons_zero]
              ))
          refine lex_nil ?_
          have hW3 := below_trans hW hB3
          have hfz : w3.frozen? ⟨g, j, none⟩ = false := by rw [hW3.frozen (p := ⟨g, j, none⟩) hg]; exact hfr
          have hc3 := below_cell hW3 hcell
          have z7 := below_cell hW3 z5
          have hs3 := hW3.size
          clear q0 hfW z6 hfr hcell z5
          unfold mark
          go_wp2_with fail
          obtain ⟨hLs, hm5, hmi, hcl⟩ := HF.out
          have hvi := HL.out.2.2.1
          refine ⟨⟨j + 1, fun k => if k = i then (c5 i).set j (mark i) else c5 k, by simp, by omega, (hLs.below hW3).set hiv (by rw [hvi]; rfl) (mark i), fun k hk => ?_, fun t ht => ?_, ?_, ?_⟩, ?_⟩
          · dsimp only
            rw [if_neg (by omega)]
            exact hm5 k hk
          · dsimp only
            rw [if_pos rfl, List.getElem?_set]
            by_cases e : j = t
            · rw [if_pos e, if_pos (by omega)]
            · rw [if_neg e]
              exact hmi t (by omega)
          · refine (hX5.trans (Ext.of_below (S := LB vs) hW3) fun _ _ h => h).trans (Ext.setCell (p := ⟨g, j, none⟩) (S := LB vs) ?_ _) fun _ _ h => h
            exact ⟨i, hiv, by rw [hvi]; rfl⟩
          · rw [World.cell?_of_block (w := w3) (heap_setCell_ne _ _ _ _ ?_)]
            · exact z7
            · intro e
              have e : gl = g := e
              subst e
              exact HR.out.2.1 gl ⟨i, hiv, by rw [hvi]; rfl⟩ rfl
          · show L i - (((j : Int) + 1).toNat) < L i - ((j : Int).toNat)
            omega
        · obtain rfl : j = L i := by omega
          have HF := Lib.hid (And.intro hLs (And.intro hm5 hmi)); clear hLs hm5 hmi
          go_wp2_with fail
          obtain ⟨hLs, hm5, hmi⟩ := HF.out
          refine ⟨⟨i + 1, c5, by simp, by omega, hLs, fun k hk => ?_, hX5⟩, ?_⟩
          · by_cases e : k = i
            · subst e
              have hcl := hLs.len hiv
              refine List.ext_getElem? fun t => ?_
              by_cases ht : t < L k
              · rw [hmi t ht, marks_get ht]
              · rw [List.getElem?_eq_none (by omega), List.getElem?_eq_none (by simp [marks]; omega)]
            · exact hm5 k (by omega)
          · show N - (((i : Int) + 1).toNat) < N - ((i : Int).toNat)
            omega
    · obtain rfl : i = N := by omega
      have hLs : Lists B wr vs L (fun k => marks k (L k)) := ⟨fun k hk => by rw [← hm k (by rw [HN.out] at hk; exact hk)]; exact hLs.row k hk, hLs.off⟩
      have HG0 := Lib.hid (show Grown B w vs L 0 [] (.slice none 0 0) wr from ⟨hLs, rfl, World.ownsRow_nil _ _ _ _, fun k hk => (by omega), fun k hk => (by omega), fun b hb => (by cases hb), hX⟩)
      clear hLs hm hX
      obtain ⟨i0, hi0, hz0, hz1, hz2⟩ := info_parts info_int
      obtain ⟨i1, hi1, hy0, hy1, hy2⟩ := info_parts info_ints
      go_wp2_with fail
      go_loopw [3, 6] (fun v3 v6 w6 => ∃ (k : Nat) (a3 : Option Addr) (c3 : Nat) (gs : List Value), v6 = .int .i64 k ∧ v3 = .slice a3 k c3 ∧ k ≤ i ∧ Grown B w vs L k gs v3 w6) (fun _ v6 _ => i - (intOf v6).toNat)
      case atStart => exact ⟨0, none, 0, [], rfl, rfl, by omega, HG0.out⟩
      case round =>
        obtain ⟨k, a3, c3, gs, rfl, rfl, hki, hG⟩ := hrel
        by_cases hk : k < i
        · have hkk : (k : Int) < (i : Int) := by omega
          have hkv : k < vs.length := by rw [HN.out]; exact hk
          have hLk := hL k hk
          have hlr := owns_ext HR.out.2.2.2 hG.ext fun b hb hs => HR.out.2.1 b hs hb
          obtain ⟨gl, cl', e1, -, hgl, -, -, hlc, -⟩ := owns_parts hlr (by omega)
          injection e1 with e1 e2 e3
          subst e1 e3
          have z0 := hlc k (by omega)
          rw [List.getElem?_eq_getElem hkv] at z0
          obtain ⟨ai, ci, hvi, -⟩ := owns_shape (hG.lists.row k hkv)
          have hvi' : vs[k] = .slice ai (L k) ci := by rw [← hvi]; simp [val, hkv]
          rw [hvi'] at z0
          have hS := hG.start hkv HR.out.2.2.1
          rw [hvi] at hS
          have HS := Lib.hid hS
          clear hS hG hlr hlc hvi hvi' e2
          go_wp2_with fail
          go_loopw [7, 8] (fun v7 v8 w7 => ∃ (n : Nat) (ag : Option Addr) (cg : Nat), v8 = .int .i64 n ∧ v7 = .slice ag (L k + n) cg ∧ n ≤ 64 ∧ Growing B w vs L k gs (.slice a3 k c3) n v7 w7) (fun _ v8 _ => 64 - (intOf v8).toNat)
          case atStart => exact ⟨0, ai, ci, rfl, rfl, by omega, HS.out⟩
          case round =>
            obtain ⟨n, ag, cg, rfl, rfl, hn, hGn⟩ := hrel
            by_cases hn64 : n < 64
            · have hnn : (n : Int) < 64 := by omega
              have hGb := hGn.below (below_box wr (.cells #[.int .i64 (-1000 - (k : Int))] 3))
              have Hown := Lib.hid hGb.row
              have Hsrc := Lib.hid (box_src wr (.int .i64 (-1000 - (k : Int))) 3)
              have Q4 := Lib.hid (show ∀ u ∈ ([.int .i64 (-1000 - (k : Int))] : List Value), u.oneCell' = true from fun u hu => by obtain rfl := List.mem_singleton.1 hu; rfl)
              have q1 : L k + n + 1 ≤ maxLen := by unfold maxLen; omega
              have q2 : (L k + n + 1) * 8 ≤ 140737488355328 := by omega
              have q3 : B ≤ (wr.alloc (.cells #[.int .i64 (-1000 - (k : Int))] 3)).heap.size := by have := hGn.base.ext.size; simp; omega
              have HGb := Lib.hid hGb
              clear hGb hGn
              go_wp2_with fail
              refine (mark_any k (by omega) _).mono ?_
              rintro e w' ⟨rfl, rfl⟩
              unfold mark
              go_wp2_with (at_builtin; go_loud (refine wpList_append_own4 rfl _ _ 52 rfl B 3 i0 (.int .i64 0) 1 8 und_ints hi0 hz0 hz1 hz2 rfl (by decide) _ _ _ rfl Hown.out ⟨wr.heap.size, 0, none⟩ 1 1 [.int .i64 (-1000 - (k : Int))] rfl rfl Hsrc.out Q4.out q1 q2 q3 ?_; intro v' w8 hown' hgr hnew hold; have HGn := Lib.hid (HGb.out.step hkv HR.out.2.2.1 hown' hgr hnew hold); clear hgr hnew hold; obtain ⟨a8, c8, hv8, -⟩ := owns_shape hown'; clear hown'; subst hv8))
              refine ⟨⟨n + 1, a8, c8, by simp, rfl, by omega, HGn.out⟩, ?_⟩
              show 64 - (((n : Int) + 1).toNat) < 64 - ((n : Int).toNat)
              omega
            · obtain rfl : n = 64 := by omega
              have hGb := hGn.below (below_box wr (.cells #[.slice ag (L k + 64) cg] 52))
              have Hown := Lib.hid hGb.base.row
              have Hsrc := Lib.hid (box_src wr (.slice ag (L k + 64) cg) 52)
              have Q4 := Lib.hid (slice_one (u := .slice ag (L k + 64) cg) ⟨_, _, _, rfl⟩)
              have q1 : k + 1 ≤ maxLen := by unfold maxLen; omega
              have q2 : (k + 1) * 24 ≤ 140737488355328 := by omega
              have q3 : B ≤ (wr.alloc (.cells #[.slice ag (L k + 64) cg] 52)).heap.size := by have := hGn.base.ext.size; simp; omega
              have HGb := Lib.hid hGb
              clear hGb hGn
              go_wp2_with (at_builtin; go_loud (refine QA.wpList_append_own3 rfl _ _ 84 rfl B 52 i1 (.slice none 0 0) 1 24 und_rows hi1 hy0 hy1 hy2 rfl (by decide) _ _ _ rfl Hown.out ⟨wr.heap.size, 0, none⟩ 1 1 [.slice ag (L k + 64) cg] rfl rfl Hsrc.out Q4.out q1 q2 q3 ?_; intro v' w9 hown' hgr hnew; have HGn := Lib.hid (HGb.out.done hkv HR.out.2.2.1 hown' hgr hnew); clear hgr hnew; obtain ⟨a9, c9, hv9, -⟩ := owns_shape hown'; clear hown'; subst hv9))
              refine ⟨⟨k + 1, a9, c9, _, by simp, rfl, by omega, HGn.out⟩, ?_⟩
              show i - (((k : Int) + 1).toNat) < i - ((k : Int).toNat)
              omega
        · obtain rfl : k = i := by omega
          obtain ⟨w6, hw6⟩ : ∃ w6, w6 = wr := ⟨_, rfl⟩
          rw [← hw6]
          have HG := Lib.hid (hw6 ▸ hG); clear hG hw6
          go_wp2_with fail
          go_loopw [9] (fun vi wr => ∃ i : Nat, vi = .int .i64 i ∧ i ≤ k ∧ Below w6.heap.size w6 wr) (fun vi _ => k - (intOf vi).toNat)
          case atStart => exact ⟨0, rfl, by omega, Below.refl _ _⟩
          case round =>
            obtain ⟨i, rfl, hin, hB9⟩ := hrel
            by_cases hi : i < k
            · have hii : (i : Int) < (k : Int) := by omega
              have hiv : i < vs.length := by rw [HN.out]; exact hi
              have hLi := hL i hi
              obtain ⟨gg, cgg, e1, -, hgg, -, -, hgc, -⟩ := owns_parts HG.out.row (by omega)
              injection e1 with e1 _ e3
              subst e1 e3
              have hlen := HG.out.len
              have y0 := hgc i (by omega)
              rw [List.getElem?_eq_getElem (by omega)] at y0
              obtain ⟨g, cap, hv, -, hg, -, -, hcell, -⟩ := owns_parts (HG.out.grow i hi) (by omega)
              have hv' : gs[i]'(by omega) = .slice (some ⟨g, 0, none⟩) (L i + 64) cap := by rw [← hv]; simp [val, show i < gs.length by omega]
              rw [hv'] at y0
              have hlr := owns_ext HR.out.2.2.2 HG.out.ext fun b hb hs => HR.out.2.1 b hs hb
              obtain ⟨gl, cl', e1, -, hgl, -, -, hlc, -⟩ := owns_parts hlr (by omega)
              injection e1 with e1 e2 e3
              subst e1 e3
              have z0 := hlc i (by omega)
              rw [List.getElem?_eq_getElem hiv] at z0
              obtain ⟨ai, ci, hvi, -⟩ := owns_shape (HG.out.lists.row i hiv)
              have hvi' : vs[i] = .slice ai (L i) ci := by rw [← hvi]; simp [val, hiv]
              rw [hvi'] at z0
              have y1 := below_cell hB9 y0
              have z1 := below_cell hB9 z0
              have HC := Lib.hid (And.intro hcell hvi)
              clear y0 z0 hgc hlen hv hv' hlr hlc hvi' hvi e2 hcell
              go_wp2_with fail
              go_loopw [10] (fun vj w5 => ∃ j : Nat, vj = .int .i64 j ∧ j ≤ L i + 64 ∧ Below w6.heap.size w6 w5 ∧ w5.cell? ⟨gg, i, none⟩ = some (.slice (some ⟨g, 0, none⟩) (L i + 64) cap) ∧ w5.cell? ⟨gl, i, none⟩ = some (.slice ai (L i) ci)) (fun vj _ => L i + 64 - (intOf vj).toNat)
              case atStart => exact ⟨0, rfl, by omega, hB9, y1, z1⟩
              case round =>
                obtain ⟨j, rfl, hjl, hB5, y2, z2⟩ := hrel
                clear y1 z1
                by_cases hj : j < L i + 64
                · have hjj : (j : Int) < ((L i + 64 : Nat) : Int) := by omega
                  have y3 := HC.out.1 j (by omega)
                  rw [marks_get hj] at y3
                  have y3 := below_cell hB5 y3
                  unfold mark at y3
                  by_cases hjs : j < L i
                  · have hjs' : (j : Int) < (L i : Int) := by omega
                    obtain ⟨g2, cap2, hv2, hg2, -, hc2, -⟩ := HG.out.lists.cell hiv hjs
                    rw [HC.out.2] at hv2
                    injection hv2 with hv2 _ hv3
                    subst hv2 hv3
                    rw [marks_get hjs] at hc2
                    have z3 := below_cell hB5 hc2
                    unfold mark at z3
                    clear hc2
                    go_wp2_with fail
                    refine wp_region_rg (fun k => if k = 8 then some (fun u _ => u = .int .i64 (-1000 - (i : Int))) else if k = 27 then some (fun u _ => u = .int .i64 (-1000 - (i : Int))) else none) fol (by kernel_rfl) (fun W hW hh => ?_)
                    clear hh
                    have q0 : ∀ w1, Below W.heap.size W w1 → w1.cell? ⟨gg, i, none⟩ = some (.slice (some ⟨g, 0, none⟩) (L i + 64) cap) := fun w1 h => below_cell (below_trans hW h) y2
                    have q1 : ∀ w1, Below W.heap.size W w1 → w1.cell? ⟨gl, i, none⟩ = some (.slice (some ⟨g2, 0, none⟩) (L i) ci) := fun w1 h => below_cell (below_trans hW h) z2
                    have q2 : ∀ w1, Below W.heap.size W w1 → w1.cell? ⟨g, j, none⟩ = some (.int .i64 (-1000 - (i : Int))) := fun w1 h => below_cell (below_trans hW h) y3
                    have q3 : ∀ w1, Below W.heap.size W w1 → w1.cell? ⟨g2, j, none⟩ = some (.int .i64 (-1000 - (i : Int))) := fun w1 h => below_cell (below_trans hW h) z3
                    repeat (first
                      | (refine lex_move _ (by first | exact Or.inl rfl | exact Or.inr rfl) rfl rfl ?_
                         simp only [Act.put, Act.eval, Array.getD_eq_getD_getElem?, List.getElem?_toArray, List.getElem?_cons_zero, List.getElem?_cons_succ, Option.getD_some, List.setIfInBounds_toArray, List.set_cons_succ, List.set_cons_zero]
                        )
                      | (refine lex_float ?_ rfl rfl (fun w1 hb1 hf1 => ?_) ?_
                         rotate_left
                         (go_simp; (try simp (disch := omega) only [IntWalk.i64_quo, IntWalk.rem_in, IntWalk.i64_in, IntWalk.u64_in, IntWalk.u32_in, IntWalk.u8_in, IntWalk.toNatUp, IntWalk.iteOmega]); (try go_simp); rfl)
                         simp only [Act.put, Act.eval, Array.getD_eq_getD_getElem?, List.getElem?_toArray, List.getElem?_cons_zero, List.getElem?_cons_succ, Option.getD_some, List.setIfInBounds_toArray, List.set_cons_succ, List.set_cons_zero]
                        )
                      | (refine lex_skip rfl ?_
                         simp only [Act.put, Act.eval, Array.getD_eq_getD_getElem?, List.getElem?_toArray, List.getElem?_cons_zero, List.getElem?_cons_succ, Option.getD_some, List.setIfInBounds_toArray, List.set_cons_succ, List.set_cons_zero]
                        ))
                    refine lex_make _ rfl (by exact fun _ _ _ h _ => h) rfl (fun w1 hb1 hf1 => ?_) ?_
                    · (unfold makes; go_simp; simp only [makesUpon])
                      refine (mark_any i (by omega) _).mono ?_
                      rintro e w' ⟨rfl, rfl⟩
                      exact ⟨_, rfl, Below.refl _ _, rfl⟩
                    rintro u wA hBA rfl
                    simp only [Act.put, Act.eval, Array.getD_eq_getD_getElem?, List.getElem?_toArray, List.getElem?_cons_zero, List.getElem?_cons_succ, Option.getD_some, List.setIfInBounds_toArray, List.set_cons_succ, List.set_cons_zero]
                    repeat (first
                      | (refine lex_move _ (by first | exact Or.inl rfl | exact Or.inr rfl) rfl rfl ?_
                         simp only [Act.put, Act.eval, Array.getD_eq_getD_getElem?, List.getElem?_toArray, List.getElem?_cons_zero, List.getElem?_cons_succ, Option.getD_some, List.setIfInBounds_toArray, List.set_cons_succ, List.set_cons_zero]
                        )
                      | (refine lex_float ?_ rfl rfl (fun w1 hb1 hf1 => ?_) ?_
                         rotate_left
                         (go_simp; (try simp (disch := omega) only [IntWalk.i64_quo, IntWalk.rem_in, IntWalk.i64_in, IntWalk.u64_in, IntWalk.u32_in, IntWalk.u8_in, IntWalk.toNatUp, IntWalk.iteOmega]); (try go_simp); rfl)
                         simp only [Act.put, Act.eval, Array.getD_eq_getD_getElem?, List.getElem?_toArray, List.getElem?_cons_zero, List.getElem?_cons_succ, Option.getD_some, List.setIfInBounds_toArray, List.set_cons_succ, List.set_cons_zero]
                        )
                      | (refine lex_skip rfl ?_
                         simp only [Act.put, Act.eval, Array.getD_eq_getD_getElem?, List.getElem?_toArray, List.getElem?_cons_zero, List.getElem?_cons_succ, Option.getD_some, List.setIfInBounds_toArray, List.set_cons_succ, List.set_cons_zero]
                        ))
                    refine lex_make _ rfl (by exact fun _ _ _ h _ => h) rfl (fun w1 hb1 hf1 => ?_) ?_
                    · (unfold makes; go_simp; simp only [makesUpon])
                      refine (mark_any i (by omega) _).mono ?_
                      rintro e w' ⟨rfl, rfl⟩
                      exact ⟨_, rfl, Below.refl _ _, rfl⟩
                    rintro u wC hBC rfl
                    simp only [Act.put, Act.eval, Array.getD_eq_getD_getElem?, List.getElem?_toArray, List.getElem?_cons_zero, List.getElem?_cons_succ, Option.getD_some, List.setIfInBounds_toArray, List.set_cons_succ, List.set_cons_zero]
                    repeat (first
                      | (refine lex_move _ (by first | exact Or.inl rfl | exact Or.inr rfl) rfl rfl ?_
                         simp only [Act.put, Act.eval, Array.getD_eq_getD_getElem?, List.getElem?_toArray, List.getElem?_cons_zero, List.getElem?_cons_succ, Option.getD_some, List.setIfInBounds_toArray, List.set_cons_succ, List.set_cons_zero]
                        )
                      | (refine lex_float ?_ rfl rfl (fun w1 hb1 hf1 => ?_) ?_
                         rotate_left
                         (go_simp; (try simp (disch := omega) only [IntWalk.i64_quo, IntWalk.rem_in, IntWalk.i64_in, IntWalk.u64_in, IntWalk.u32_in, IntWalk.u8_in, IntWalk.toNatUp, IntWalk.iteOmega]); (try go_simp); rfl)
                         simp only [Act.put, Act.eval, Array.getD_eq_getD_getElem?, List.getElem?_toArray, List.getElem?_cons_zero, List.getElem?_cons_succ, Option.getD_some, List.setIfInBounds_toArray, List.set_cons_succ, List.set_cons_zero]
                        )
                      | (refine lex_skip rfl ?_
                         simp only [Act.put, Act.eval, Array.getD_eq_getD_getElem?, List.getElem?_toArray, List.getElem?_cons_zero, List.getElem?_cons_succ, Option.getD_some, List.setIfInBounds_toArray, List.set_cons_succ, List.set_cons_zero]
                        ))
                    refine lex_nil ?_
                    clear q3
                    have hW9 := below_trans hW (below_trans hBA hBC)
                    clear q0 q1 q2
                    have y2 := below_cell hW9 y2
                    have z2 := below_cell hW9 z2
                    go_wp2_with fail
                    refine ⟨⟨j + 1, by simp, by omega, hB5.trans (hW9.mono hB5.size), y2, z2⟩, ?_⟩
                    show L i + 64 - (((j : Int) + 1).toNat) < L i + 64 - ((j : Int).toNat)
                    omega
                  · have hjs' : ¬ (j : Int) < (L i : Int) := by omega
                    go_wp2_with fail
                    refine wp_region_rg (fun k => if k = 8 then some (fun u _ => u = .int .i64 (-1000 - (i : Int))) else none) fol (by kernel_rfl) (fun W hW hh => ?_)
                    clear hh
                    have q0 : ∀ w1, Below W.heap.size W w1 → w1.cell? ⟨gg, i, none⟩ = some (.slice (some ⟨g, 0, none⟩) (L i + 64) cap) := fun w1 h => below_cell (below_trans hW h) y2
                    have q1 : ∀ w1, Below W.heap.size W w1 → w1.cell? ⟨gl, i, none⟩ = some (.slice ai (L i) ci) := fun w1 h => below_cell (below_trans hW h) z2
                    have q2 : ∀ w1, Below W.heap.size W w1 → w1.cell? ⟨g, j, none⟩ = some (.int .i64 (-1000 - (i : Int))) := fun w1 h => below_cell (below_trans hW h) y3
                    repeat (first
                      | (refine lex_move _ (by first | exact Or.inl rfl | exact Or.inr rfl) rfl rfl ?_
                         simp only [Act.put, Act.eval, Array.getD_eq_getD_getElem?, List.getElem?_toArray, List.getElem?_cons_zero, List.getElem?_cons_succ, Option.getD_some, List.setIfInBounds_toArray, List.set_cons_succ, List.set_cons_zero]
                        )
                      | (refine lex_float ?_ rfl rfl (fun w1 hb1 hf1 => ?_) ?_
                         rotate_left
                         (go_simp; (try simp (disch := omega) only [IntWalk.i64_quo, IntWalk.rem_in, IntWalk.i64_in, IntWalk.u64_in, IntWalk.u32_in, IntWalk.u8_in, IntWalk.toNatUp, IntWalk.iteOmega]); (try go_simp); rfl)
                         simp only [Act.put, Act.eval, Array.getD_eq_getD_getElem?, List.getElem?_toArray, List.getElem?_cons_zero, List.getElem?_cons_succ, Option.getD_some, List.setIfInBounds_toArray, List.set_cons_succ, List.set_cons_zero]
                        )
                      | (refine lex_skip rfl ?_
                         simp only [Act.put, Act.eval, Array.getD_eq_getD_getElem?, List.getElem?_toArray, List.getElem?_cons_zero, List.getElem?_cons_succ, Option.getD_some, List.setIfInBounds_toArray, List.set_cons_succ, List.set_cons_zero]
                        ))
                    refine lex_make _ rfl (by exact fun _ _ _ h _ => h) rfl (fun w1 hb1 hf1 => ?_) ?_
                    · (unfold makes; go_simp; simp only [makesUpon])
                      refine (mark_any i (by omega) _).mono ?_
                      rintro e w' ⟨rfl, rfl⟩
                      exact ⟨_, rfl, Below.refl _ _, rfl⟩
                    rintro u wA hBA rfl
                    simp only [Act.put, Act.eval, Array.getD_eq_getD_getElem?, List.getElem?_toArray, List.getElem?_cons_zero, List.getElem?_cons_succ, Option.getD_some, List.setIfInBounds_toArray, List.set_cons_succ, List.set_cons_zero]
                    repeat (first
                      | (refine lex_move _ (by first | exact Or.inl rfl | exact Or.inr rfl) rfl rfl ?_
                         simp only [Act.put, Act.eval, Array.getD_eq_getD_getElem?, List.getElem?_toArray, List.getElem?_cons_zero, List.getElem?_cons_succ, Option.getD_some, List.setIfInBounds_toArray, List.set_cons_succ, List.set_cons_zero]
                        )
                      | (refine lex_float ?_ rfl rfl (fun w1 hb1 hf1 => ?_) ?_
                         rotate_left
                         (go_simp; (try simp (disch := omega) only [IntWalk.i64_quo, IntWalk.rem_in, IntWalk.i64_in, IntWalk.u64_in, IntWalk.u32_in, IntWalk.u8_in, IntWalk.toNatUp, IntWalk.iteOmega]); (try go_simp); rfl)
                         simp only [Act.put, Act.eval, Array.getD_eq_getD_getElem?, List.getElem?_toArray, List.getElem?_cons_zero, List.getElem?_cons_succ, Option.getD_some, List.setIfInBounds_toArray, List.set_cons_succ, List.set_cons_zero]
                        )
                      | (refine lex_skip rfl ?_
                         simp only [Act.put, Act.eval, Array.getD_eq_getD_getElem?, List.getElem?_toArray, List.getElem?_cons_zero, List.getElem?_cons_succ, Option.getD_some, List.setIfInBounds_toArray, List.set_cons_succ, List.set_cons_zero]
                        ))
                    refine lex_nil ?_
                    have hW9 := below_trans hW hBA
                    clear q0 q1 q2
                    have y2 := below_cell hW9 y2
                    have z2 := below_cell hW9 z2
                    go_wp2_with fail
                    refine ⟨⟨j + 1, by simp, by omega, hB5.trans (hW9.mono hB5.size), y2, z2⟩, ?_⟩
                    show L i + 64 - (((j : Int) + 1).toNat) < L i + 64 - ((j : Int).toNat)
                    omega
                · obtain rfl : j = L i + 64 := by omega
                  go_wp2_with fail
                  refine ⟨⟨i + 1, by simp, by omega, hB5⟩, ?_⟩
                  show k - (((i : Int) + 1).toNat) < k - ((i : Int).toNat)
                  omega
            · obtain rfl : i = k := by omega
              go_wp2_with fail
              go_ret
              exact ⟨rfl, HG.out.ext.trans (Ext.of_below (S := LB vs) hB9) fun _ _ h => h⟩
end Go.Proofs.Ytagcohpghgnalaa.OW
