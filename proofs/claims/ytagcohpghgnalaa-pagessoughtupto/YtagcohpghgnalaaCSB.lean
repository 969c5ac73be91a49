/-
  PagesSought: the walk.
-/
import Derived.Test.YtagcohpghgnalaaCSA
import Derived.Test.YtagcohpghgnalaaCGQ4
import Derived.Test.YtagcohpghgnalaaCLO
import Derived.Test.YtagcohpghgnalaaCRGI
import Derived.Test.YtagcohpghgnalaaCBA
import Derived.Deep.CutRange
set_option linter.unusedSimpArgs false
set_option linter.unusedVariables false
namespace Go.Proofs.Ytagcohpghgnalaa.SO
open Go.RowKit Go.RG Go.Hp Go.Pg Go.Shelf Go.Proofs.Ytagcohpghgnalaa Go.Proofs.Ytagcohpghgnalaa.RF Go.Proofs.Ytagcohpghgnalaa.U Go.Proofs.Ytagcohpghgnalaa.LB Go.Proofs.Ytagcohpghgnalaa.BK Go.Proofs.Ytagcohpghgnalaa.QA
attribute [local go_sem] Oper.semAt_some

-- the facts behind more memory; 1: what lies below
-- a row of one entry, laid by the region; 1: its place, 2 the world before, 3 the world behind
-- the end of a round; 1 the upper value, 2 the lower one
-- the lower row; 1 the world, 2 the upper value, 3 the equation of the upper row
/-- a row of one entry -/
def One (z : Nat) (cs : List Value) : RG.Spec := fun u w => ∃ g, u = .slice (some ⟨g, 0, none⟩) 1 1 ∧ z ≤ g ∧ g < w.heap.size ∧ w.ownsRow z 60 3 u 1 cs
theorem One.st (z : Nat) (cs : List Value) : RG.Spec.stable (One z cs) := fun _ _ _ ⟨g, h1, h2, h3, h4⟩ hb => ⟨g, h1, h2, Nat.lt_of_lt_of_le h3 hb.size, owns_below h4 hb⟩
theorem one_new (z : Nat) (w : World) {cs : List Value} (hz : z ≤ w.heap.size) (hl : cs.length = 3) : z ≤ w.heap.size ∧ w.heap.size < (w.alloc (.cells cs.toArray 60)).heap.size ∧ (w.alloc (.cells cs.toArray 60)).ownsRow z 60 3 (.slice (some ⟨w.heap.size, 0, none⟩) 1 1) 1 cs :=
  ⟨hz, by simp, owns_of_row (row_new w cs 60) hl (Nat.le_refl _) (by decide) (List.take_of_length_le (by omega)) hz⟩
theorem one_src {z g : Nat} {cs : List Value} {w : World} (h : w.ownsRow z 60 3 (.slice (some ⟨g, 0, none⟩) 1 1) 1 cs) : ∀ (j : Nat) (u : Value), cs[j]? = some u → w.cell? ((⟨g, 0, none⟩ : Addr).add j) = some u := h.cells (g := g) rfl

-- the first entry held against a row; 1 the world, 2 the row, 3 is there one, 4 5 6 the row's slice, 7 its box, 8 9 the slots, A its cells, B its numbers, C its length, D is there one, E the stamp's box
-- a range over an iterator, held against a row; 1 the iterator, 2 the row, 3 4 5 its slice, 6 its box, 7 8 9 A the loop's slots, B the row's cells in the world C before, D its numbers, E its length, F the iterator's contract, G the frame, H its name's equation, I the world at the loop
/-- the iterator f over the pointer p gives E, to a loop that turns no block but T's -/
def SeqT (f : Nat) (p : Option Addr) (s : St) (E : List Ev) (T : Nat → Prop) (w : World) : Prop :=
  ∀ (Bx Bs : Nat), w.cell? ⟨Bx, 0, none⟩ = some (.pointer p) → w.cell? ⟨Bs, 0, none⟩ = some (.int .u64 s.t) → w.cell? ⟨Bs, 1, none⟩ = some (.int .u64 s.s) →
    SeqO Fence.wide 2 Try.prog f #[.pointer (some ⟨Bx, 0, none⟩), .pointer (some ⟨Bs, 0, none⟩)] (fun e : Ev => #[.agg #[.int .u64 e.k.t, .int .u64 e.k.s], .int .u64 e.n]) (KeepC T) (fun xs => xs = E) (fun pre => pre <+: E) (fun pre x => pre ++ [x] <+: E ∨ pre.length < E.length) w
/-- the first entry, in words that need no case -/
def hdK : List Ent → St
  | [] => ⟨0, 0⟩
  | e :: _ => e.k
def hdV : List Ent → Int
  | [] => 0
  | e :: _ => numOf e.v
theorem hd_ent {l : List Ent} (h : 0 < l.length) : hdK l = (ent l 0).k ∧ hdV l = numOf (ent l 0).v := by
  cases l with
  | nil => cases h
  | cons e r => exact ⟨rfl, rfl⟩
theorem total_le_of (R : List (List Ent)) (j : Nat) : total (R.take j) ≤ total R := by
  have := total_append (R.take j) (R.drop j)
  rw [List.take_append_drop] at this
  omega
theorem total_take' {R : List (List Ent)} {j : Nat} (h : j < R.length) : total (R.take (j + 1)) = total (R.take j) + (pageAt R j).length := by
  have e : R.take (j + 1) = R.take j ++ [pageAt R j] := by rw [List.take_add_one, List.getElem?_eq_getElem h]; simp [pageAt, h]
  rw [e, total_append, total_cons, total_nil]
  omega
theorem first_eq (l : List Ent) : firstOf (evs l) = #[(hdK l).v, .int .u64 (hdV l), .bool (decide (0 < l.length))] := by cases l <;> rfl
theorem two_new {bx size : Nat} {B : Nat} {w : World} {vr : Value} (hM : U.MemV w bx size [] (· = bx) vr []) (hb : B ≤ bx) : Two B bx size [] (.slice none 0 0) [] (· = bx) w where
  mem := ⟨vr, [], hM⟩
  lim := fun k hk => by have := block_lt_of_heap hM.str; omega
  good := ⟨by simp, by simp [keys, Rising]⟩
  num := fun e he => by simp at he
  row := World.ownsRow_nil _ _ _ _
  off := fun k hk => by cases hk
  pnum := fun e he => by cases he

set_option maxHeartbeats 4000000 in
set_option maxRecDepth 100000 in
theorem sought_any (sz : Int) (a : Option Addr) (n cap : Nat) (hn : n ≤ 1048576) (ops : Nat → Opd) (hok : ∀ i, i < n → OpOk (ops i)) (s : St) (w : World) (ho : OpsAt w a n ops) :
    Calls Try.prog 8 #[.int .i64 sz, .slice a n cap, s.v] w fun e w' => e = .returned (.bool true) ∧ Below w.heap.size w w' := by
  have Ho := Lib.hid ho; clear ho
  unfold St.v
  refine (callsIn_wide (n := 3)).1 ?_
  refine callsIn_of_wp_marks Try.func8 rfl trivial ?_ rfl
  refine wpIn_wide.2 ?_
  simp only [Try.ntmps8, List.size_toArray, List.length_cons, List.length_nil, Nat.reduceAdd, Nat.reduceSub, Array.replicate_succ, Array.replicate_zero, List.push_toArray, List.append_toArray, List.nil_append, List.cons_append]
  go_wp2_with fail
  have hB0 : Below w.heap.size w ((w.alloc (.cells #[.int .u64 s.t, .int .u64 s.s] 38)).alloc (.cells #[.bool false] 4)) := (below_box w _).alloc (by simp) _
  have g0 : ((w.alloc (.cells #[.int .u64 s.t, .int .u64 s.s] 38)).alloc (.cells #[.bool false] 4)).heap[w.heap.size]? = some (.cells #[.int .u64 s.t, .int .u64 s.s] 38 (0, 0)) := allocs_get [.cells #[.int .u64 s.t, .int .u64 s.s] 38, .cells #[.bool false] 4] w 0 _ rfl
  have g1 : ((w.alloc (.cells #[.int .u64 s.t, .int .u64 s.s] 38)).alloc (.cells #[.bool false] 4)).heap[w.heap.size + 1]? = some (.cells #[.bool false] 4 (0, 0)) := allocs_get [.cells #[.int .u64 s.t, .int .u64 s.s] 38, .cells #[.bool false] 4] w 1 _ rfl
  have hs0 : w.heap.size + 2 ≤ ((w.alloc (.cells #[.int .u64 s.t, .int .u64 s.s] 38)).alloc (.cells #[.bool false] 4)).heap.size := by simp
  generalize (w.alloc (.cells #[.int .u64 s.t, .int .u64 s.s] 38)).alloc (.cells #[.bool false] 4) = w0 at hB0 g0 g1 hs0 ⊢
  refine (sized_any _ _).mono ?_
  rintro e w' ⟨size, h4, h64, rfl, rfl⟩
  go_wp2_with fail
  refine (U.new_any size h4 h64 _).mono ?_
  rintro e w1 ⟨bx, vr, rfl, hbx, hM1, hB1⟩
  go_wp2_with fail
  refine (U.num_any _ _).mono ?_
  rintro e w' ⟨rfl, rfl⟩
  go_wp2_with fail
  refine (U.small_any _).mono ?_
  rintro e w2 ⟨rfl, hB2⟩
  have hT0 := (two_new (B := w.heap.size + 2) hM1 (by omega)).below hB2
  have g0 := below_heap hB2 (below_heap hB1 g0)
  have g1 := below_heap hB2 (below_heap hB1 g1)
  have hBs := (hB0.trans (hB1.mono hB0.size)).trans (hB2.mono (Nat.le_trans hB0.size hB1.size))
  clear hM1 hB1 hB2 hB0
  go_wp2_with fail
  go_loopw [9, 10] (fun v9 vi wr => ∃ (i : Nat) (R : List (List Ent)) (Z : Nat → Prop) (m : Nat) (ab : Option Addr) (cb : Nat), vi = .int .i64 i ∧ v9 = .slice ab m cb ∧ R.flatten.length = m ∧ i ≤ n ∧ Two (w.heap.size + 2) bx size R v9 R.flatten Z wr ∧ total R ≤ i ∧ wr.heap[w.heap.size]? = some (.cells #[.int .u64 s.t, .int .u64 s.s] 38 (0, 0)) ∧ wr.heap[w.heap.size + 1]? = some (.cells #[.bool false] 4 (0, 0)) ∧ Below w.heap.size w wr)
    (fun _ vi _ => n - (intOf vi).toNat)
  case atStart => exact ⟨0, [], _, 0, none, 0, rfl, rfl, rfl, by omega, hT0, by simp [total], g0, g1, hBs⟩
  case round =>
    obtain ⟨i, R, Z, m, ab, cb, rfl, rfl, hm, hin, hT, htot, g0, g1, hB⟩ := hrel
    clear hT0 hBs
    have htm := total_flat R
    by_cases hlt : i < n
    · obtain ⟨pb, po, hpa, p0, p1, p2, p3⟩ := Ho.out i hlt
      have o0 := below_cell hB p0
      have o1 := below_cell hB p1
      have o2 := below_cell hB p2
      have o3 := below_cell hB p3
      have hii : (i : Int) < (n : Int) := by omega
      have HTu := Lib.hid (turns_any (w.heap.size + 2) bx size i h4 h64 R (.slice ab m cb) R.flatten (ops i) Z wr hT htot (by omega) (by omega))
      have hlim := hT.lim
      have htot' := stepR_total hT.good (ops i)
      have hB2 := hT.bx_lt
      have Hst := Lib.hid (step_flat hT.good (ops i))
      have HTT := Lib.hid hT
      have HG := Lib.hid (And.intro g0 g1)
      have Hm := Lib.hid hm
      subst hpa
      clear p0 p1 p2 p3 hT g0 g1 hm htm
      go_wp2_with fail
      refine HTu.out.mono ?_
      rintro e w3 ⟨bv', Z', rfl, hT3, hX3, hZ3, -⟩
      rw [Hst.out] at hT3
      have hB3 := hB.trans (hX3.to_belowAt (B := w.heap.size) hB.size (fun k hk h => by have := (hlim k h).1; omega))
      have g0 := hX3.heap HG.out.1 fun h => by have := (hlim _ h).1; omega
      have g1 := hX3.heap HG.out.2 fun h => by have := (hlim _ h).1; omega
      obtain ⟨a3, c3, hv3, -⟩ := owns_shape hT3.row
      obtain ⟨m3, hm3⟩ : ∃ m3, (stepR size R (ops i)).flatten.length = m3 := ⟨_, rfl⟩
      rw [hm3] at hv3
      subst hv3
      have Hm3 := Lib.hid hm3; clear hm3
      clear hX3 hZ3 HTu o0 o1 o2 o3 hlim
      have HT3 := Lib.hid (And.intro hT3 (And.intro g0 g1)); clear hT3 g0 g1
      go_wp2_with fail
      obtain ⟨hT3, g0, g1⟩ := HT3.out
      refine ⟨⟨i + 1, stepR size R (ops i), Z', m3, a3, c3, by simp, rfl, Hm3.out, by omega, hT3, by omega, g0, g1, hB3⟩, ?_⟩
      show n - (((i : Int) + 1).toNat) < n - ((i : Int).toNat)
      omega
    · obtain rfl : i = n := by omega
      have hmi : m ≤ i := by omega
      have HT := Lib.hid hT; clear hT
      have Hm := Lib.hid (And.intro hm htm); clear hm htm
      obtain ⟨i0, hi, hz0, hz1, hz2⟩ := info_parts info_Entry
      go_wp2_with fail
      have hW0 : Below wr.heap.size wr ((wr.alloc (.cells #[.slice none 0 0] 35)).alloc (.cells #[.slice none 0 0] 35)) := (below_box wr _).alloc (by simp) _
      have hR0 : Rows2 (wr.heap.size + 2) wr.heap.size (wr.heap.size + 1) (.slice none 0 0) (.slice none 0 0) (upR s (R.flatten.take 0)) (dnR s (R.flatten.take 0)) ((wr.alloc (.cells #[.slice none 0 0] 35)).alloc (.cells #[.slice none 0 0] 35)) :=
        ⟨allocs_get [.cells #[.slice none 0 0] 35, .cells #[.slice none 0 0] 35] wr 0 _ rfl, allocs_get [.cells #[.slice none 0 0] 35, .cells #[.slice none 0 0] 35] wr 1 _ rfl, World.ownsRow_nil _ _ _ _, World.ownsRow_nil _ _ _ _, fun k h => (by cases h), fun _ => rfl⟩
      generalize (wr.alloc (.cells #[.slice none 0 0] 35)).alloc (.cells #[.slice none 0 0] 35) = W0 at hW0 hR0 ⊢
      obtain ⟨wB, hwB⟩ : ∃ wB, wB = wr := ⟨_, rfl⟩
      rw [← hwB] at hW0 hR0 HT g0 g1 hB ⊢
      clear hwB
      go_loopw [13] (fun vj wj => ∃ (j : Nat) (vu vd : Value), vj = .int .i64 j ∧ j ≤ m ∧ Rows2 (wB.heap.size + 2) wB.heap.size (wB.heap.size + 1) vu vd (upR s (R.flatten.take j)) (dnR s (R.flatten.take j)) wj ∧ Below wB.heap.size wB wj) (fun vj _ => m - (intOf vj).toNat)
      case atStart => exact ⟨0, _, _, rfl, by omega, hR0, hW0⟩
      case round =>
        obtain ⟨j, vu, vd, rfl, hjm, hR, hBj⟩ := hrel
        clear hR0
        by_cases hj : j < m
        · have hjj : (j : Int) < (m : Int) := by omega
          have hjl : j < R.flatten.length := by rw [Hm.out.1]; exact hj
          obtain ⟨g, cap', e1, -, hgl, -⟩ := owns_parts HT.out.row (by omega)
          rw [Hm.out.1] at e1
          injection e1 with e1 _ f1
          subst e1 f1
          have hrow := HT.out.row
          rw [Hm.out.1] at hrow
          obtain ⟨z0, z1, z2⟩ := book_cells hrow hjl
          clear hrow
          obtain ⟨num, hnum⟩ := HT.out.num (ent R.flatten j) (ent_mem hjl)
          rw [hnum] at z2
          have hut := upR_take s hjl
          have hdt := dnR_take s hjl
          have hul : (upR s (R.flatten.take j)).length ≤ j := by have := upR_len s (R.flatten.take j); rw [List.length_take] at this; omega
          have hdl : (dnR s (R.flatten.take j)).length ≤ j := by have := dnR_len s (R.flatten.take j); rw [List.length_take] at this; omega
          obtain ⟨s0, s1, -, -⟩ := heap2 g0
          have HdN := Lib.hid (show ∀ e ∈ dnR s (R.flatten.take j), NumV e.v from fun e he => HT.out.num e (List.mem_of_mem_take (List.mem_filter.1 (List.mem_reverse.1 he)).1))
          obtain ⟨en, hen⟩ : ∃ en, ent R.flatten j = en := ⟨_, rfl⟩
          rw [hen] at z0 z1 hut hdt hnum
          generalize upR s (R.flatten.take j) = up at hR hut hul
          generalize dnR s (R.flatten.take j) = dn at hR hdt hdl HdN
          have hzj : wB.heap.size + 2 ≤ wr.heap.size := by have := block_lt_of_heap hR.bd; omega
          have HU := Lib.hid (And.intro hut (And.intro hdt (And.intro hnum hen))); clear hut hdt hnum hen
          obtain ⟨au, cu, hvu, -⟩ := owns_shape hR.ru
          obtain ⟨nu, hnu⟩ : ∃ nu, up.length = nu := ⟨_, rfl⟩
          obtain ⟨ad, cd, hvd, -⟩ := owns_shape hR.rd
          obtain ⟨nd, hnd⟩ : ∃ nd, dn.length = nd := ⟨_, rfl⟩
          rw [hnu] at hvu hul
          rw [hnd] at hvd hdl
          subst hvu hvd
          have HN := Lib.hid (And.intro hnu hnd); clear hnu hnd
          have HR := Lib.hid hR; clear hR
          have HZ := Lib.hid (And.intro z0 (And.intro z1 (And.intro z2 (And.intro s0 s1)))); clear z0 z1 z2 s0 s1
          have z0 := below_cell hBj HZ.out.1
          have z1 := below_cell hBj HZ.out.2.1
          have z2 := below_cell hBj HZ.out.2.2.1
          have s0 := below_cell hBj HZ.out.2.2.2.1
          have s1 := below_cell hBj HZ.out.2.2.2.2
          obtain ⟨u0, u1⟩ := heap1 HR.out.bu
          obtain ⟨d0, d1⟩ := heap1 HR.out.bd
          go_wp2_with fail
          refine wp_region_rg (fun k => if k = 6 then some (fun u _ => u = .bool (St.lt (en.k) (s))) else none) fol (by kernel_rfl) (fun W hW hh => ?_)
          clear hh
          have q0 : ∀ w1, Below (W).heap.size W w1 → w1.cell? ⟨g, j * 3, none⟩ = some (.int .u64 en.k.t) := fun w1 h => below_cell (below_trans hW h) z0
          have q1 : ∀ w1, Below (W).heap.size W w1 → w1.cell? ⟨g, j * 3 + 1, none⟩ = some (.int .u64 en.k.s) := fun w1 h => below_cell (below_trans hW h) z1
          have q2 : ∀ w1, Below (W).heap.size W w1 → w1.cell? ⟨w.heap.size, 0, none⟩ = some (.int .u64 s.t) := fun w1 h => below_cell (below_trans hW h) s0
          have q3 : ∀ w1, Below (W).heap.size W w1 → w1.cell? ⟨w.heap.size, 1, none⟩ = some (.int .u64 s.s) := fun w1 h => below_cell (below_trans hW h) s1
          repeat (first
            | (refine lex_move _ (by first | exact Or.inl rfl | exact Or.inr rfl) rfl rfl ?_
               simp only [Act.put, Act.eval, Array.getD_eq_getD_getElem?, List.getElem?_toArray, List.getElem?_cons_zero, List.getElem?_cons_succ, Option.getD_some, List.setIfInBounds_toArray, List.set_cons_succ, List.set_cons_zero]
              )
            | (refine lex_float ?_ rfl rfl (fun w1 hb1 hf1 => ?_) ?_
               rotate_left
               (go_simp; (try simp (disch := omega) only [IntWalk.i64_quo, IntWalk.rem_in, IntWalk.i64_in, IntWalk.u64_in, IntWalk.u32_in, IntWalk.u8_in, IntWalk.toNatUp, IntWalk.iteOmega]); (try go_simp); rfl)
               simp only [Act.put, Act.eval, Array.getD_eq_getD_getElem?, List.getElem?_toArray, List.getElem?_cons_zero, List.getElem?_cons_succ, Option.getD_some, List.setIfInBounds_toArray, List.set_cons_succ, List.set_cons_zero]
              )
            | (refine lex_skip rfl ?_
               simp only [Act.put, Act.eval, Array.getD_eq_getD_getElem?, List.getElem?_toArray, List.getElem?_cons_zero, List.getElem?_cons_succ, Option.getD_some, List.setIfInBounds_toArray, List.set_cons_succ, List.set_cons_zero]
              ))
          refine lex_make _ rfl (by exact fun _ _ _ h _ => h) rfl (fun w1 hb1 hf1 => ?_) ?_
          · (unfold makes; go_simp; simp only [makesUpon])
            have HL := less_any (en.k) (s)
            unfold St.v at HL
            refine (HL _).mono ?_
            rintro e w' ⟨rfl, hb⟩
            exact ⟨_, rfl, hb, rfl⟩
          rintro u wK hB9 rfl
          simp only [Act.put, Act.eval, Array.getD_eq_getD_getElem?, List.getElem?_toArray, List.getElem?_cons_zero, List.getElem?_cons_succ, Option.getD_some, List.setIfInBounds_toArray, List.set_cons_succ, List.set_cons_zero]
          repeat (first
            | (refine lex_move _ (by first | exact Or.inl rfl | exact Or.inr rfl) rfl rfl ?_
               simp only [Act.put, Act.eval, Array.getD_eq_getD_getElem?, List.getElem?_toArray, List.getElem?_cons_zero, List.getElem?_cons_succ, Option.getD_some, List.setIfInBounds_toArray, List.set_cons_succ, List.set_cons_zero]
              )
            | (refine lex_float ?_ rfl rfl (fun w1 hb1 hf1 => ?_) ?_
               rotate_left
               (go_simp; (try simp (disch := omega) only [IntWalk.i64_quo, IntWalk.rem_in, IntWalk.i64_in, IntWalk.u64_in, IntWalk.u32_in, IntWalk.u8_in, IntWalk.toNatUp, IntWalk.iteOmega]); (try go_simp); rfl)
               simp only [Act.put, Act.eval, Array.getD_eq_getD_getElem?, List.getElem?_toArray, List.getElem?_cons_zero, List.getElem?_cons_succ, Option.getD_some, List.setIfInBounds_toArray, List.set_cons_succ, List.set_cons_zero]
              )
            | (refine lex_skip rfl ?_
               simp only [Act.put, Act.eval, Array.getD_eq_getD_getElem?, List.getElem?_toArray, List.getElem?_cons_zero, List.getElem?_cons_succ, Option.getD_some, List.setIfInBounds_toArray, List.set_cons_succ, List.set_cons_zero]
              ))
          refine lex_nil ?_
          clear q0 q1 q2 q3
          have hY := below_trans hW hB9
          have hBj := hBj.trans (hY.mono hBj.size)
          have hzj := Nat.le_trans hzj hY.size
          have HR := Lib.hid (HR.out.below hY); clear hY
          clear z0 z1 z2 s0 s1 u0 u1 d0 d1 hW hB9
          have z0 := below_cell hBj HZ.out.1
          have z1 := below_cell hBj HZ.out.2.1
          have z2 := below_cell hBj HZ.out.2.2.1
          have s0 := below_cell hBj HZ.out.2.2.2.1
          have s1 := below_cell hBj HZ.out.2.2.2.2
          obtain ⟨u0, u1⟩ := heap1 HR.out.bu
          obtain ⟨d0, d1⟩ := heap1 HR.out.bd
          cases hc1 : St.lt en.k s
          · have Hc1 := Lib.hid hc1; clear hc1
            go_wp2_with fail
            refine wp_region_rg_tail 6 (fun k => if k = 5 then some (One (wK).heap.size [.int .u64 en.k.t, .int .u64 en.k.s, .int .u64 num]) else none) fol (by kernel_rfl) (fun W hW hh => ?_)
            clear hh
            have q0 : ∀ w1, Below W.heap.size W w1 → w1.cell? ⟨g, j * 3, none⟩ = some (.int .u64 en.k.t) := fun w1 h => below_cell (below_trans hW h) z0
            have q1 : ∀ w1, Below W.heap.size W w1 → w1.cell? ⟨g, j * 3 + 1, none⟩ = some (.int .u64 en.k.s) := fun w1 h => below_cell (below_trans hW h) z1
            have q2 : ∀ w1, Below W.heap.size W w1 → w1.cell? ⟨g, j * 3 + 2, none⟩ = some (.int .u64 num) := fun w1 h => below_cell (below_trans hW h) z2
            have q3 : ∀ w1, Below W.heap.size W w1 → w1.cell? ⟨wB.heap.size, 0, none⟩ = some _ := fun w1 h => below_cell (below_trans hW h) u0
            have q4 : ∀ w1, Below W.heap.size W w1 → w1.cell? ⟨wB.heap.size + 1, 0, none⟩ = some (.slice ad nd cd) := fun w1 h => below_cell (below_trans hW h) d0
            simp only [List.take_succ_cons, List.take_zero, List.drop_succ_cons, List.drop_zero]
            repeat (first
              | (refine lex_move _ (by first | exact Or.inl rfl | exact Or.inr rfl) rfl rfl ?_
                 simp only [Act.put, Act.eval, Array.getD_eq_getD_getElem?, List.getElem?_toArray, List.getElem?_cons_zero, List.getElem?_cons_succ, Option.getD_some, List.setIfInBounds_toArray, List.set_cons_succ, List.set_cons_zero]
                )
              | (refine lex_float ?_ rfl rfl (fun w1 hb1 hf1 => ?_) ?_
                 rotate_left
                 (go_simp; (try simp (disch := omega) only [IntWalk.i64_quo, IntWalk.rem_in, IntWalk.i64_in, IntWalk.u64_in, IntWalk.u32_in, IntWalk.u8_in, IntWalk.toNatUp, IntWalk.iteOmega]); (try go_simp); rfl)
                 simp only [Act.put, Act.eval, Array.getD_eq_getD_getElem?, List.getElem?_toArray, List.getElem?_cons_zero, List.getElem?_cons_succ, Option.getD_some, List.setIfInBounds_toArray, List.set_cons_succ, List.set_cons_zero]
                )
              | (refine lex_skip rfl ?_
                 simp only [Act.put, Act.eval, Array.getD_eq_getD_getElem?, List.getElem?_toArray, List.getElem?_cons_zero, List.getElem?_cons_succ, Option.getD_some, List.setIfInBounds_toArray, List.set_cons_succ, List.set_cons_zero]
                ))
            refine lex_make _ rfl (by exact One.st _ _) rfl (fun w1 hb1 hf1 => ?_) ?_
            · have hb1' := hb1
              (unfold makes; go_simp; simp only [makesUpon])
              refine ⟨below_box _ _, _, rfl, one_new _ _ ?_ (by simp)⟩
              have h1 := hW.size
              have h2 := hb1'.size
              omega
            rintro u wO hB9 ⟨gn, rfl, hgn, hgn2, hsrc⟩
            simp only [Act.put, Act.eval, Array.getD_eq_getD_getElem?, List.getElem?_toArray, List.getElem?_cons_zero, List.getElem?_cons_succ, Option.getD_some, List.setIfInBounds_toArray, List.set_cons_succ, List.set_cons_zero]
            repeat (first
              | (refine lex_move _ (by first | exact Or.inl rfl | exact Or.inr rfl) rfl rfl ?_
                 simp only [Act.put, Act.eval, Array.getD_eq_getD_getElem?, List.getElem?_toArray, List.getElem?_cons_zero, List.getElem?_cons_succ, Option.getD_some, List.setIfInBounds_toArray, List.set_cons_succ, List.set_cons_zero]
                )
              | (refine lex_float ?_ rfl rfl (fun w1 hb1 hf1 => ?_) ?_
                 rotate_left
                 (go_simp; (try simp (disch := omega) only [IntWalk.i64_quo, IntWalk.rem_in, IntWalk.i64_in, IntWalk.u64_in, IntWalk.u32_in, IntWalk.u8_in, IntWalk.toNatUp, IntWalk.iteOmega]); (try go_simp); rfl)
                 simp only [Act.put, Act.eval, Array.getD_eq_getD_getElem?, List.getElem?_toArray, List.getElem?_cons_zero, List.getElem?_cons_succ, Option.getD_some, List.setIfInBounds_toArray, List.set_cons_succ, List.set_cons_zero]
                )
              | (refine lex_skip rfl ?_
                 simp only [Act.put, Act.eval, Array.getD_eq_getD_getElem?, List.getElem?_toArray, List.getElem?_cons_zero, List.getElem?_cons_succ, Option.getD_some, List.setIfInBounds_toArray, List.set_cons_succ, List.set_cons_zero]
                ))
            refine lex_nil ?_
            clear q0 q1 q2 q3 q4
            have hY := below_trans hW hB9
            have hBj := hBj.trans (hY.mono hBj.size)
            have hzj := Nat.le_trans hzj hY.size
            have HR := Lib.hid (HR.out.below hY); clear hY
            have Hown := Lib.hid (show wO.ownsRow (wB.heap.size + 2) 60 3 (.slice au nu cu) nu (cellsOf up) by have := HR.out.ru; rw [HN.out.1] at this; exact this)
            have Hsrc := Lib.hid (one_src hsrc)
            have Q4 := Lib.hid (one3 en.k num)
            have p1 : nu + 1 ≤ maxLen := by unfold maxLen; omega
            have p2 : (nu + 1) * 24 ≤ 140737488355328 := by omega
            clear z0 z1 z2 s0 s1 u0 u1 d0 d1 hW hB9 hsrc
            go_wp2_with (at_builtin; go_loud (refine QA.wpList_append_own3 rfl _ _ 35 rfl (wB.heap.size + 2) 60 i0 (.agg #[.int .u64 0, .int .u64 0, .int .u64 0]) 3 24 und_book hi hz0 hz1 hz2 rfl (by decide) (.slice au nu cu) nu (cellsOf up) rfl Hown.out ⟨gn, 0, none⟩ 1 1 [.int .u64 en.k.t, .int .u64 en.k.s, .int .u64 num] rfl rfl Hsrc.out Q4.out p1 p2 hzj ?_; intro v' wA hown' hgr hnew; have hXA : Ext (fun k => (Value.slice au nu cu).ownBlock = some k) wO wA := Ext.grown hgr fun k hk _ => hk; obtain ⟨u0, u1⟩ := heap1 (hXA.heap HR.out.bu (fun e => by have := (HR.out.ru.lt _ e).1; omega)); have HA := Lib.hid (And.intro hown' (And.intro hgr (And.intro hnew hXA))); obtain ⟨a2, c2, hv2, -⟩ := owns_shape hown'; clear hown' hgr hnew hXA; subst hv2))
            obtain ⟨hown', hgr, hnew, hXA⟩ := HA.out
            have hup : upR s (R.flatten.take (j + 1)) = up ++ [en] := by rw [HU.out.1, Hc1.out, if_neg (by decide)]
            have hec : cellsOf up ++ [.int .u64 en.k.t, .int .u64 en.k.s, .int .u64 num] = cellsOf (up ++ [en]) := by rw [cells_snoc, ← HU.out.2.2.1]
            have hlu : nu + 1 = (up ++ [en]).length := by rw [List.length_append, HN.out.1]; rfl
            rw [hlu] at hnew
            rw [hec, hlu] at hown'
            have hR2 := HR.out.up (by omega) (by omega) (by omega) hown' hgr hnew
            have hsA := hXA.size
            have hBj := (hBj.trans (hXA.to_belowAt hBj.size fun k hk e => by have := (HR.out.ru.lt _ e).1; omega)).setCell (p := ⟨wB.heap.size, 0, none⟩) (Nat.le_refl _) (.slice a2 (up ++ [en]).length c2)
            have hzj : wB.heap.size + 2 ≤ (wA.setCell ⟨wB.heap.size, 0, none⟩ (.slice a2 (up ++ [en]).length c2)).heap.size := by simp; omega
            have Hup := Lib.hid hup
            obtain ⟨nu2, hnu2⟩ : ∃ n, (up ++ [en]).length = n := ⟨_, rfl⟩
            rw [show nu + 1 = nu2 by rw [← hnu2, List.length_append, HN.out.1]; rfl]
            rw [hnu2] at hR2 hBj hzj
            generalize wA.setCell ⟨wB.heap.size, 0, none⟩ (.slice a2 nu2 c2) = wS at hR2 hBj hzj ⊢
            have HR := Lib.hid hR2
            clear hR2 hup hec hlu hown' hgr hnew hXA HA Hown Hsrc Q4 u0 u1 hnu2
            have z0 := below_cell hBj HZ.out.1
            have z1 := below_cell hBj HZ.out.2.1
            have z2 := below_cell hBj HZ.out.2.2.1
            have s0 := below_cell hBj HZ.out.2.2.2.1
            have s1 := below_cell hBj HZ.out.2.2.2.2
            obtain ⟨u0, u1⟩ := heap1 HR.out.bu
            obtain ⟨d0, d1⟩ := heap1 HR.out.bd
            go_wp2_with fail
            refine wp_region_rg (fun k => if k = 6 then some (fun u _ => u = .bool (St.lt (s) (en.k))) else none) fol (by kernel_rfl) (fun W hW hh => ?_)
            clear hh
            have q0 : ∀ w1, Below (W).heap.size W w1 → w1.cell? ⟨g, j * 3, none⟩ = some (.int .u64 en.k.t) := fun w1 h => below_cell (below_trans hW h) z0
            have q1 : ∀ w1, Below (W).heap.size W w1 → w1.cell? ⟨g, j * 3 + 1, none⟩ = some (.int .u64 en.k.s) := fun w1 h => below_cell (below_trans hW h) z1
            have q2 : ∀ w1, Below (W).heap.size W w1 → w1.cell? ⟨w.heap.size, 0, none⟩ = some (.int .u64 s.t) := fun w1 h => below_cell (below_trans hW h) s0
            have q3 : ∀ w1, Below (W).heap.size W w1 → w1.cell? ⟨w.heap.size, 1, none⟩ = some (.int .u64 s.s) := fun w1 h => below_cell (below_trans hW h) s1
            repeat (first
              | (refine lex_move _ (by first | exact Or.inl rfl | exact Or.inr rfl) rfl rfl ?_
                 simp only [Act.put, Act.eval, Array.getD_eq_getD_getElem?, List.getElem?_toArray, List.getElem?_cons_zero, List.getElem?_cons_succ, Option.getD_some, List.setIfInBounds_toArray, List.set_cons_succ, List.set_cons_zero]
                )
              | (refine lex_float ?_ rfl rfl (fun w1 hb1 hf1 => ?_) ?_
                 rotate_left
                 (go_simp; (try simp (disch := omega) only [IntWalk.i64_quo, IntWalk.rem_in, IntWalk.i64_in, IntWalk.u64_in, IntWalk.u32_in, IntWalk.u8_in, IntWalk.toNatUp, IntWalk.iteOmega]); (try go_simp); rfl)
                 simp only [Act.put, Act.eval, Array.getD_eq_getD_getElem?, List.getElem?_toArray, List.getElem?_cons_zero, List.getElem?_cons_succ, Option.getD_some, List.setIfInBounds_toArray, List.set_cons_succ, List.set_cons_zero]
                )
              | (refine lex_skip rfl ?_
                 simp only [Act.put, Act.eval, Array.getD_eq_getD_getElem?, List.getElem?_toArray, List.getElem?_cons_zero, List.getElem?_cons_succ, Option.getD_some, List.setIfInBounds_toArray, List.set_cons_succ, List.set_cons_zero]
                ))
            refine lex_make _ rfl (by exact fun _ _ _ h _ => h) rfl (fun w1 hb1 hf1 => ?_) ?_
            · (unfold makes; go_simp; simp only [makesUpon])
              have HL := less_any (s) (en.k)
              unfold St.v at HL
              refine (HL _).mono ?_
              rintro e w' ⟨rfl, hb⟩
              exact ⟨_, rfl, hb, rfl⟩
            rintro u wL hB9 rfl
            simp only [Act.put, Act.eval, Array.getD_eq_getD_getElem?, List.getElem?_toArray, List.getElem?_cons_zero, List.getElem?_cons_succ, Option.getD_some, List.setIfInBounds_toArray, List.set_cons_succ, List.set_cons_zero]
            repeat (first
              | (refine lex_move _ (by first | exact Or.inl rfl | exact Or.inr rfl) rfl rfl ?_
                 simp only [Act.put, Act.eval, Array.getD_eq_getD_getElem?, List.getElem?_toArray, List.getElem?_cons_zero, List.getElem?_cons_succ, Option.getD_some, List.setIfInBounds_toArray, List.set_cons_succ, List.set_cons_zero]
                )
              | (refine lex_float ?_ rfl rfl (fun w1 hb1 hf1 => ?_) ?_
                 rotate_left
                 (go_simp; (try simp (disch := omega) only [IntWalk.i64_quo, IntWalk.rem_in, IntWalk.i64_in, IntWalk.u64_in, IntWalk.u32_in, IntWalk.u8_in, IntWalk.toNatUp, IntWalk.iteOmega]); (try go_simp); rfl)
                 simp only [Act.put, Act.eval, Array.getD_eq_getD_getElem?, List.getElem?_toArray, List.getElem?_cons_zero, List.getElem?_cons_succ, Option.getD_some, List.setIfInBounds_toArray, List.set_cons_succ, List.set_cons_zero]
                )
              | (refine lex_skip rfl ?_
                 simp only [Act.put, Act.eval, Array.getD_eq_getD_getElem?, List.getElem?_toArray, List.getElem?_cons_zero, List.getElem?_cons_succ, Option.getD_some, List.setIfInBounds_toArray, List.set_cons_succ, List.set_cons_zero]
                ))
            refine lex_nil ?_
            clear q0 q1 q2 q3
            have hY := below_trans hW hB9
            have hBj := hBj.trans (hY.mono hBj.size)
            have hzj := Nat.le_trans hzj hY.size
            have HR := Lib.hid (HR.out.below hY); clear hY
            clear z0 z1 z2 s0 s1 u0 u1 d0 d1 hW hB9
            have z0 := below_cell hBj HZ.out.1
            have z1 := below_cell hBj HZ.out.2.1
            have z2 := below_cell hBj HZ.out.2.2.1
            have s0 := below_cell hBj HZ.out.2.2.2.1
            have s1 := below_cell hBj HZ.out.2.2.2.2
            obtain ⟨u0, u1⟩ := heap1 HR.out.bu
            obtain ⟨d0, d1⟩ := heap1 HR.out.bd
            cases hc2 : St.lt s en.k
            · have Hc2 := Lib.hid hc2; clear hc2
              go_wp2_with fail
              refine wp_region_rg_tail 6 (fun k => if k = 4 then some (One (wL).heap.size [.int .u64 en.k.t, .int .u64 en.k.s, .int .u64 num]) else none) fol (by kernel_rfl) (fun W hW hh => ?_)
              clear hh
              have q0 : ∀ w1, Below W.heap.size W w1 → w1.cell? ⟨g, j * 3, none⟩ = some (.int .u64 en.k.t) := fun w1 h => below_cell (below_trans hW h) z0
              have q1 : ∀ w1, Below W.heap.size W w1 → w1.cell? ⟨g, j * 3 + 1, none⟩ = some (.int .u64 en.k.s) := fun w1 h => below_cell (below_trans hW h) z1
              have q2 : ∀ w1, Below W.heap.size W w1 → w1.cell? ⟨g, j * 3 + 2, none⟩ = some (.int .u64 num) := fun w1 h => below_cell (below_trans hW h) z2
              have q3 : ∀ w1, Below W.heap.size W w1 → w1.cell? ⟨wB.heap.size, 0, none⟩ = some _ := fun w1 h => below_cell (below_trans hW h) u0
              have q4 : ∀ w1, Below W.heap.size W w1 → w1.cell? ⟨wB.heap.size + 1, 0, none⟩ = some (.slice ad nd cd) := fun w1 h => below_cell (below_trans hW h) d0
              simp only [List.take_succ_cons, List.take_zero, List.drop_succ_cons, List.drop_zero]
              repeat (first
                | (refine lex_move _ (by first | exact Or.inl rfl | exact Or.inr rfl) rfl rfl ?_
                   simp only [Act.put, Act.eval, Array.getD_eq_getD_getElem?, List.getElem?_toArray, List.getElem?_cons_zero, List.getElem?_cons_succ, Option.getD_some, List.setIfInBounds_toArray, List.set_cons_succ, List.set_cons_zero]
                  )
                | (refine lex_float ?_ rfl rfl (fun w1 hb1 hf1 => ?_) ?_
                   rotate_left
                   (go_simp; (try simp (disch := omega) only [IntWalk.i64_quo, IntWalk.rem_in, IntWalk.i64_in, IntWalk.u64_in, IntWalk.u32_in, IntWalk.u8_in, IntWalk.toNatUp, IntWalk.iteOmega]); (try go_simp); rfl)
                   simp only [Act.put, Act.eval, Array.getD_eq_getD_getElem?, List.getElem?_toArray, List.getElem?_cons_zero, List.getElem?_cons_succ, Option.getD_some, List.setIfInBounds_toArray, List.set_cons_succ, List.set_cons_zero]
                  )
                | (refine lex_skip rfl ?_
                   simp only [Act.put, Act.eval, Array.getD_eq_getD_getElem?, List.getElem?_toArray, List.getElem?_cons_zero, List.getElem?_cons_succ, Option.getD_some, List.setIfInBounds_toArray, List.set_cons_succ, List.set_cons_zero]
                  ))
              refine lex_make _ rfl (by exact One.st _ _) rfl (fun w1 hb1 hf1 => ?_) ?_
              · have hb1' := hb1
                (unfold makes; go_simp; simp only [makesUpon])
                refine ⟨below_box _ _, _, rfl, one_new _ _ ?_ (by simp)⟩
                have h1 := hW.size
                have h2 := hb1'.size
                omega
              rintro u wO hB9 ⟨gn, rfl, hgn, hgn2, hsrc⟩
              simp only [Act.put, Act.eval, Array.getD_eq_getD_getElem?, List.getElem?_toArray, List.getElem?_cons_zero, List.getElem?_cons_succ, Option.getD_some, List.setIfInBounds_toArray, List.set_cons_succ, List.set_cons_zero]
              repeat (first
                | (refine lex_move _ (by first | exact Or.inl rfl | exact Or.inr rfl) rfl rfl ?_
                   simp only [Act.put, Act.eval, Array.getD_eq_getD_getElem?, List.getElem?_toArray, List.getElem?_cons_zero, List.getElem?_cons_succ, Option.getD_some, List.setIfInBounds_toArray, List.set_cons_succ, List.set_cons_zero]
                  )
                | (refine lex_float ?_ rfl rfl (fun w1 hb1 hf1 => ?_) ?_
                   rotate_left
                   (go_simp; (try simp (disch := omega) only [IntWalk.i64_quo, IntWalk.rem_in, IntWalk.i64_in, IntWalk.u64_in, IntWalk.u32_in, IntWalk.u8_in, IntWalk.toNatUp, IntWalk.iteOmega]); (try go_simp); rfl)
                   simp only [Act.put, Act.eval, Array.getD_eq_getD_getElem?, List.getElem?_toArray, List.getElem?_cons_zero, List.getElem?_cons_succ, Option.getD_some, List.setIfInBounds_toArray, List.set_cons_succ, List.set_cons_zero]
                  )
                | (refine lex_skip rfl ?_
                   simp only [Act.put, Act.eval, Array.getD_eq_getD_getElem?, List.getElem?_toArray, List.getElem?_cons_zero, List.getElem?_cons_succ, Option.getD_some, List.setIfInBounds_toArray, List.set_cons_succ, List.set_cons_zero]
                  ))
              refine lex_nil ?_
              clear q0 q1 q2 q3 q4
              have Hy := Lib.hid (And.intro (below_trans hW hB9) hsrc)
              clear z0 z1 z2 s0 s1 u0 u1 d0 d1
              have d2 := heap1 (HR.out.below Hy.out.1).bd
              obtain ⟨d0, d1⟩ := d2
              clear hW hB9 hsrc
              have hdd : dnR s (R.flatten.take (j + 1)) = en :: dn := by rw [HU.out.2.1, Hc2.out, if_neg (by decide)]
              have hec : [.int .u64 en.k.t, .int .u64 en.k.s, .int .u64 num] ++ cellsOf dn = cellsOf (en :: dn) := by rw [cellsOf_cons]; unfold Ent.cells; rw [HU.out.2.2.1]
              have HE := Lib.hid (And.intro hdd hec); clear hdd hec
              by_cases hnd : nd = 0
              · have hdn : dn = [] := List.eq_nil_of_length_eq_zero (by rw [HN.out.2]; exact hnd)
                have hv := HR.out.nil hdn
                injection hv with hv1 hv2 hv3
                subst hv1 hnd hv3
                have Hdn := Lib.hid hdn; clear hdn hv2
                go_wp2_with fail
                obtain ⟨hdd, hec⟩ := HE.out
                have hfR := HR.out.dn (dn' := en :: dn) (by omega) (by omega) (by omega) Hy.out.1 (by rw [← hec, Hdn.out]; exact Hy.out.2) hzj (by simp)
                rw [← Hup.out, ← hdd] at hfR
                have hBj := (hBj.trans (Hy.out.1.mono hBj.size)).setCell (p := ⟨wB.heap.size + 1, 0, none⟩) (by simp) (.slice (some ⟨gn, 0, none⟩) 1 1)
                refine ⟨⟨j + 1, _, _, by simp, by omega, hfR, hBj⟩, ?_⟩
                show m - (((j : Int) + 1).toNat) < m - ((j : Int).toNat)
                omega
              · obtain ⟨gd, cd', e1, -, hgd, -, -, hcd, -⟩ := owns_parts (HR.out.below Hy.out.1).rd (by rw [HN.out.2]; omega)
                rw [HN.out.2] at e1
                injection e1 with e1 _ e2
                subst e1 e2
                have hdl2 : (cellsOf dn).length = nd * 3 := by rw [length_cellsOf, HN.out.2]
                have Hsrc := Lib.hid (show ∀ (k : Nat) (u : Value), (cellsOf dn)[k]? = some u → wO.cell? ((⟨gd, 0, none⟩ : Addr).add k) = some u from (HR.out.below Hy.out.1).rd.cells (g := gd) rfl)
                have Q4 := Lib.hid (show ∀ u ∈ cellsOf dn, u.oneCell' = true from cellsOf_one fun e he => by obtain ⟨x, hx⟩ := HdN.out e he; rw [hx]; rfl)
                have Hown := Lib.hid Hy.out.2
                have p1 : 1 + nd ≤ maxLen := by unfold maxLen; omega
                have p2 : (1 + nd) * 24 ≤ 140737488355328 := by omega
                have p3 : wL.heap.size ≤ wO.heap.size := Hy.out.1.size
                have Hl2 := Lib.hid hdl2; clear hdl2 hcd
                go_wp2_with (at_builtin; go_loud (refine QA.wpList_append_own3 rfl _ _ 35 rfl wL.heap.size 60 i0 (.agg #[.int .u64 0, .int .u64 0, .int .u64 0]) 3 24 und_book hi hz0 hz1 hz2 rfl (by decide) (.slice (some ⟨gn, 0, none⟩) 1 1) 1 [.int .u64 en.k.t, .int .u64 en.k.s, .int .u64 num] rfl Hown.out ⟨gd, 0, none⟩ nd cd (cellsOf dn) rfl Hl2.out Hsrc.out Q4.out p1 p2 p3 ?_; intro v' wA hown' hgr hnew; have hBA := Hy.out.1.grown hgr p3 (fun k hk => (Hown.out.lt k hk).1); obtain ⟨d0, d1⟩ := heap1 (HR.out.below hBA).bd; have HA := Lib.hid (And.intro hown' hBA); obtain ⟨a2, c2, hv2, -⟩ := owns_shape hown'; clear hown' hgr hnew hBA; subst hv2))
                obtain ⟨hown', hBA⟩ := HA.out
                obtain ⟨hdd, hec⟩ := HE.out
                rw [hec, show 1 + nd = (en :: dn).length by rw [List.length_cons, HN.out.2]; omega] at hown'
                have hfR := HR.out.dn (dn' := en :: dn) (by omega) (by omega) (by omega) hBA hown' hzj (by simp)
                rw [← (show 1 + nd = (en :: dn).length by rw [List.length_cons, HN.out.2]; omega), ← Hup.out, ← hdd] at hfR
                have hBj := (hBj.trans (hBA.mono hBj.size)).setCell (p := ⟨wB.heap.size + 1, 0, none⟩) (by simp) (.slice a2 (1 + nd) c2)
                refine ⟨⟨j + 1, _, _, by simp, by omega, hfR, hBj⟩, ?_⟩
                show m - (((j : Int) + 1).toNat) < m - ((j : Int).toNat)
                omega
            · have Hc2 := Lib.hid hc2; clear hc2
              go_wp2_with fail
              have hfR := HR.out
              rw [← Hup.out, ← (show dnR s (R.flatten.take (j + 1)) = dn by rw [HU.out.2.1, Hc2.out, if_pos rfl])] at hfR
              refine ⟨⟨j + 1, _, _, by simp, by omega, hfR, hBj⟩, ?_⟩
              show m - (((j : Int) + 1).toNat) < m - ((j : Int).toNat)
              omega
          · have Hc1 := Lib.hid hc1; clear hc1
            have Hup := Lib.hid (show upR s (R.flatten.take (j + 1)) = up by rw [HU.out.1, Hc1.out, if_pos rfl])
            clear z0 z1 z2 s0 s1 u0 u1 d0 d1
            have z0 := below_cell hBj HZ.out.1
            have z1 := below_cell hBj HZ.out.2.1
            have z2 := below_cell hBj HZ.out.2.2.1
            have s0 := below_cell hBj HZ.out.2.2.2.1
            have s1 := below_cell hBj HZ.out.2.2.2.2
            obtain ⟨u0, u1⟩ := heap1 HR.out.bu
            obtain ⟨d0, d1⟩ := heap1 HR.out.bd
            go_wp2_with fail
            refine wp_region_rg (fun k => if k = 6 then some (fun u _ => u = .bool (St.lt (s) (en.k))) else none) fol (by kernel_rfl) (fun W hW hh => ?_)
            clear hh
            have q0 : ∀ w1, Below (W).heap.size W w1 → w1.cell? ⟨g, j * 3, none⟩ = some (.int .u64 en.k.t) := fun w1 h => below_cell (below_trans hW h) z0
            have q1 : ∀ w1, Below (W).heap.size W w1 → w1.cell? ⟨g, j * 3 + 1, none⟩ = some (.int .u64 en.k.s) := fun w1 h => below_cell (below_trans hW h) z1
            have q2 : ∀ w1, Below (W).heap.size W w1 → w1.cell? ⟨w.heap.size, 0, none⟩ = some (.int .u64 s.t) := fun w1 h => below_cell (below_trans hW h) s0
            have q3 : ∀ w1, Below (W).heap.size W w1 → w1.cell? ⟨w.heap.size, 1, none⟩ = some (.int .u64 s.s) := fun w1 h => below_cell (below_trans hW h) s1
            repeat (first
              | (refine lex_move _ (by first | exact Or.inl rfl | exact Or.inr rfl) rfl rfl ?_
                 simp only [Act.put, Act.eval, Array.getD_eq_getD_getElem?, List.getElem?_toArray, List.getElem?_cons_zero, List.getElem?_cons_succ, Option.getD_some, List.setIfInBounds_toArray, List.set_cons_succ, List.set_cons_zero]
                )
              | (refine lex_float ?_ rfl rfl (fun w1 hb1 hf1 => ?_) ?_
                 rotate_left
                 (go_simp; (try simp (disch := omega) only [IntWalk.i64_quo, IntWalk.rem_in, IntWalk.i64_in, IntWalk.u64_in, IntWalk.u32_in, IntWalk.u8_in, IntWalk.toNatUp, IntWalk.iteOmega]); (try go_simp); rfl)
                 simp only [Act.put, Act.eval, Array.getD_eq_getD_getElem?, List.getElem?_toArray, List.getElem?_cons_zero, List.getElem?_cons_succ, Option.getD_some, List.setIfInBounds_toArray, List.set_cons_succ, List.set_cons_zero]
                )
              | (refine lex_skip rfl ?_
                 simp only [Act.put, Act.eval, Array.getD_eq_getD_getElem?, List.getElem?_toArray, List.getElem?_cons_zero, List.getElem?_cons_succ, Option.getD_some, List.setIfInBounds_toArray, List.set_cons_succ, List.set_cons_zero]
                ))
            refine lex_make _ rfl (by exact fun _ _ _ h _ => h) rfl (fun w1 hb1 hf1 => ?_) ?_
            · (unfold makes; go_simp; simp only [makesUpon])
              have HL := less_any (s) (en.k)
              unfold St.v at HL
              refine (HL _).mono ?_
              rintro e w' ⟨rfl, hb⟩
              exact ⟨_, rfl, hb, rfl⟩
            rintro u wL hB9 rfl
            simp only [Act.put, Act.eval, Array.getD_eq_getD_getElem?, List.getElem?_toArray, List.getElem?_cons_zero, List.getElem?_cons_succ, Option.getD_some, List.setIfInBounds_toArray, List.set_cons_succ, List.set_cons_zero]
            repeat (first
              | (refine lex_move _ (by first | exact Or.inl rfl | exact Or.inr rfl) rfl rfl ?_
                 simp only [Act.put, Act.eval, Array.getD_eq_getD_getElem?, List.getElem?_toArray, List.getElem?_cons_zero, List.getElem?_cons_succ, Option.getD_some, List.setIfInBounds_toArray, List.set_cons_succ, List.set_cons_zero]
                )
              | (refine lex_float ?_ rfl rfl (fun w1 hb1 hf1 => ?_) ?_
                 rotate_left
                 (go_simp; (try simp (disch := omega) only [IntWalk.i64_quo, IntWalk.rem_in, IntWalk.i64_in, IntWalk.u64_in, IntWalk.u32_in, IntWalk.u8_in, IntWalk.toNatUp, IntWalk.iteOmega]); (try go_simp); rfl)
                 simp only [Act.put, Act.eval, Array.getD_eq_getD_getElem?, List.getElem?_toArray, List.getElem?_cons_zero, List.getElem?_cons_succ, Option.getD_some, List.setIfInBounds_toArray, List.set_cons_succ, List.set_cons_zero]
                )
              | (refine lex_skip rfl ?_
                 simp only [Act.put, Act.eval, Array.getD_eq_getD_getElem?, List.getElem?_toArray, List.getElem?_cons_zero, List.getElem?_cons_succ, Option.getD_some, List.setIfInBounds_toArray, List.set_cons_succ, List.set_cons_zero]
                ))
            refine lex_nil ?_
            clear q0 q1 q2 q3
            have hY := below_trans hW hB9
            have hBj := hBj.trans (hY.mono hBj.size)
            have hzj := Nat.le_trans hzj hY.size
            have HR := Lib.hid (HR.out.below hY); clear hY
            clear z0 z1 z2 s0 s1 u0 u1 d0 d1 hW hB9
            have z0 := below_cell hBj HZ.out.1
            have z1 := below_cell hBj HZ.out.2.1
            have z2 := below_cell hBj HZ.out.2.2.1
            have s0 := below_cell hBj HZ.out.2.2.2.1
            have s1 := below_cell hBj HZ.out.2.2.2.2
            obtain ⟨u0, u1⟩ := heap1 HR.out.bu
            obtain ⟨d0, d1⟩ := heap1 HR.out.bd
            cases hc2 : St.lt s en.k
            · have Hc2 := Lib.hid hc2; clear hc2
              go_wp2_with fail
              refine wp_region_rg_tail 6 (fun k => if k = 4 then some (One (wL).heap.size [.int .u64 en.k.t, .int .u64 en.k.s, .int .u64 num]) else none) fol (by kernel_rfl) (fun W hW hh => ?_)
              clear hh
              have q0 : ∀ w1, Below W.heap.size W w1 → w1.cell? ⟨g, j * 3, none⟩ = some (.int .u64 en.k.t) := fun w1 h => below_cell (below_trans hW h) z0
              have q1 : ∀ w1, Below W.heap.size W w1 → w1.cell? ⟨g, j * 3 + 1, none⟩ = some (.int .u64 en.k.s) := fun w1 h => below_cell (below_trans hW h) z1
              have q2 : ∀ w1, Below W.heap.size W w1 → w1.cell? ⟨g, j * 3 + 2, none⟩ = some (.int .u64 num) := fun w1 h => below_cell (below_trans hW h) z2
              have q3 : ∀ w1, Below W.heap.size W w1 → w1.cell? ⟨wB.heap.size, 0, none⟩ = some _ := fun w1 h => below_cell (below_trans hW h) u0
              have q4 : ∀ w1, Below W.heap.size W w1 → w1.cell? ⟨wB.heap.size + 1, 0, none⟩ = some (.slice ad nd cd) := fun w1 h => below_cell (below_trans hW h) d0
              simp only [List.take_succ_cons, List.take_zero, List.drop_succ_cons, List.drop_zero]
              repeat (first
                | (refine lex_move _ (by first | exact Or.inl rfl | exact Or.inr rfl) rfl rfl ?_
                   simp only [Act.put, Act.eval, Array.getD_eq_getD_getElem?, List.getElem?_toArray, List.getElem?_cons_zero, List.getElem?_cons_succ, Option.getD_some, List.setIfInBounds_toArray, List.set_cons_succ, List.set_cons_zero]
                  )
                | (refine lex_float ?_ rfl rfl (fun w1 hb1 hf1 => ?_) ?_
                   rotate_left
                   (go_simp; (try simp (disch := omega) only [IntWalk.i64_quo, IntWalk.rem_in, IntWalk.i64_in, IntWalk.u64_in, IntWalk.u32_in, IntWalk.u8_in, IntWalk.toNatUp, IntWalk.iteOmega]); (try go_simp); rfl)
                   simp only [Act.put, Act.eval, Array.getD_eq_getD_getElem?, List.getElem?_toArray, List.getElem?_cons_zero, List.getElem?_cons_succ, Option.getD_some, List.setIfInBounds_toArray, List.set_cons_succ, List.set_cons_zero]
                  )
                | (refine lex_skip rfl ?_
                   simp only [Act.put, Act.eval, Array.getD_eq_getD_getElem?, List.getElem?_toArray, List.getElem?_cons_zero, List.getElem?_cons_succ, Option.getD_some, List.setIfInBounds_toArray, List.set_cons_succ, List.set_cons_zero]
                  ))
              refine lex_make _ rfl (by exact One.st _ _) rfl (fun w1 hb1 hf1 => ?_) ?_
              · have hb1' := hb1
                (unfold makes; go_simp; simp only [makesUpon])
                refine ⟨below_box _ _, _, rfl, one_new _ _ ?_ (by simp)⟩
                have h1 := hW.size
                have h2 := hb1'.size
                omega
              rintro u wO hB9 ⟨gn, rfl, hgn, hgn2, hsrc⟩
              simp only [Act.put, Act.eval, Array.getD_eq_getD_getElem?, List.getElem?_toArray, List.getElem?_cons_zero, List.getElem?_cons_succ, Option.getD_some, List.setIfInBounds_toArray, List.set_cons_succ, List.set_cons_zero]
              repeat (first
                | (refine lex_move _ (by first | exact Or.inl rfl | exact Or.inr rfl) rfl rfl ?_
                   simp only [Act.put, Act.eval, Array.getD_eq_getD_getElem?, List.getElem?_toArray, List.getElem?_cons_zero, List.getElem?_cons_succ, Option.getD_some, List.setIfInBounds_toArray, List.set_cons_succ, List.set_cons_zero]
                  )
                | (refine lex_float ?_ rfl rfl (fun w1 hb1 hf1 => ?_) ?_
                   rotate_left
                   (go_simp; (try simp (disch := omega) only [IntWalk.i64_quo, IntWalk.rem_in, IntWalk.i64_in, IntWalk.u64_in, IntWalk.u32_in, IntWalk.u8_in, IntWalk.toNatUp, IntWalk.iteOmega]); (try go_simp); rfl)
                   simp only [Act.put, Act.eval, Array.getD_eq_getD_getElem?, List.getElem?_toArray, List.getElem?_cons_zero, List.getElem?_cons_succ, Option.getD_some, List.setIfInBounds_toArray, List.set_cons_succ, List.set_cons_zero]
                  )
                | (refine lex_skip rfl ?_
                   simp only [Act.put, Act.eval, Array.getD_eq_getD_getElem?, List.getElem?_toArray, List.getElem?_cons_zero, List.getElem?_cons_succ, Option.getD_some, List.setIfInBounds_toArray, List.set_cons_succ, List.set_cons_zero]
                  ))
              refine lex_nil ?_
              clear q0 q1 q2 q3 q4
              have Hy := Lib.hid (And.intro (below_trans hW hB9) hsrc)
              clear z0 z1 z2 s0 s1 u0 u1 d0 d1
              have d2 := heap1 (HR.out.below Hy.out.1).bd
              obtain ⟨d0, d1⟩ := d2
              clear hW hB9 hsrc
              have hdd : dnR s (R.flatten.take (j + 1)) = en :: dn := by rw [HU.out.2.1, Hc2.out, if_neg (by decide)]
              have hec : [.int .u64 en.k.t, .int .u64 en.k.s, .int .u64 num] ++ cellsOf dn = cellsOf (en :: dn) := by rw [cellsOf_cons]; unfold Ent.cells; rw [HU.out.2.2.1]
              have HE := Lib.hid (And.intro hdd hec); clear hdd hec
              by_cases hnd : nd = 0
              · have hdn : dn = [] := List.eq_nil_of_length_eq_zero (by rw [HN.out.2]; exact hnd)
                have hv := HR.out.nil hdn
                injection hv with hv1 hv2 hv3
                subst hv1 hnd hv3
                have Hdn := Lib.hid hdn; clear hdn hv2
                go_wp2_with fail
                obtain ⟨hdd, hec⟩ := HE.out
                have hfR := HR.out.dn (dn' := en :: dn) (by omega) (by omega) (by omega) Hy.out.1 (by rw [← hec, Hdn.out]; exact Hy.out.2) hzj (by simp)
                rw [← Hup.out, ← hdd] at hfR
                have hBj := (hBj.trans (Hy.out.1.mono hBj.size)).setCell (p := ⟨wB.heap.size + 1, 0, none⟩) (by simp) (.slice (some ⟨gn, 0, none⟩) 1 1)
                refine ⟨⟨j + 1, _, _, by simp, by omega, hfR, hBj⟩, ?_⟩
                show m - (((j : Int) + 1).toNat) < m - ((j : Int).toNat)
                omega
              · obtain ⟨gd, cd', e1, -, hgd, -, -, hcd, -⟩ := owns_parts (HR.out.below Hy.out.1).rd (by rw [HN.out.2]; omega)
                rw [HN.out.2] at e1
                injection e1 with e1 _ e2
                subst e1 e2
                have hdl2 : (cellsOf dn).length = nd * 3 := by rw [length_cellsOf, HN.out.2]
                have Hsrc := Lib.hid (show ∀ (k : Nat) (u : Value), (cellsOf dn)[k]? = some u → wO.cell? ((⟨gd, 0, none⟩ : Addr).add k) = some u from (HR.out.below Hy.out.1).rd.cells (g := gd) rfl)
                have Q4 := Lib.hid (show ∀ u ∈ cellsOf dn, u.oneCell' = true from cellsOf_one fun e he => by obtain ⟨x, hx⟩ := HdN.out e he; rw [hx]; rfl)
                have Hown := Lib.hid Hy.out.2
                have p1 : 1 + nd ≤ maxLen := by unfold maxLen; omega
                have p2 : (1 + nd) * 24 ≤ 140737488355328 := by omega
                have p3 : wL.heap.size ≤ wO.heap.size := Hy.out.1.size
                have Hl2 := Lib.hid hdl2; clear hdl2 hcd
                go_wp2_with (at_builtin; go_loud (refine QA.wpList_append_own3 rfl _ _ 35 rfl wL.heap.size 60 i0 (.agg #[.int .u64 0, .int .u64 0, .int .u64 0]) 3 24 und_book hi hz0 hz1 hz2 rfl (by decide) (.slice (some ⟨gn, 0, none⟩) 1 1) 1 [.int .u64 en.k.t, .int .u64 en.k.s, .int .u64 num] rfl Hown.out ⟨gd, 0, none⟩ nd cd (cellsOf dn) rfl Hl2.out Hsrc.out Q4.out p1 p2 p3 ?_; intro v' wA hown' hgr hnew; have hBA := Hy.out.1.grown hgr p3 (fun k hk => (Hown.out.lt k hk).1); obtain ⟨d0, d1⟩ := heap1 (HR.out.below hBA).bd; have HA := Lib.hid (And.intro hown' hBA); obtain ⟨a2, c2, hv2, -⟩ := owns_shape hown'; clear hown' hgr hnew hBA; subst hv2))
                obtain ⟨hown', hBA⟩ := HA.out
                obtain ⟨hdd, hec⟩ := HE.out
                rw [hec, show 1 + nd = (en :: dn).length by rw [List.length_cons, HN.out.2]; omega] at hown'
                have hfR := HR.out.dn (dn' := en :: dn) (by omega) (by omega) (by omega) hBA hown' hzj (by simp)
                rw [← (show 1 + nd = (en :: dn).length by rw [List.length_cons, HN.out.2]; omega), ← Hup.out, ← hdd] at hfR
                have hBj := (hBj.trans (hBA.mono hBj.size)).setCell (p := ⟨wB.heap.size + 1, 0, none⟩) (by simp) (.slice a2 (1 + nd) c2)
                refine ⟨⟨j + 1, _, _, by simp, by omega, hfR, hBj⟩, ?_⟩
                show m - (((j : Int) + 1).toNat) < m - ((j : Int).toNat)
                omega
            · have Hc2 := Lib.hid hc2; clear hc2
              go_wp2_with fail
              have hfR := HR.out
              rw [← Hup.out, ← (show dnR s (R.flatten.take (j + 1)) = dn by rw [HU.out.2.1, Hc2.out, if_pos rfl])] at hfR
              refine ⟨⟨j + 1, _, _, by simp, by omega, hfR, hBj⟩, ?_⟩
              show m - (((j : Int) + 1).toNat) < m - ((j : Int).toNat)
              omega
        · obtain rfl : j = m := by omega
          have hups : upR s (R.flatten.take j) = behind' R s := by rw [← up_flat HT.out.good, List.take_of_length_le (by rw [Hm.out.1]; omega)]
          have hdns : dnR s (R.flatten.take j) = downs R s := by rw [← down_flat HT.out.good, List.take_of_length_le (by rw [Hm.out.1]; omega)]
          rw [hups, hdns] at hR
          have hul : (behind' R s).length ≤ j := by rw [← hups]; have := upR_len s (R.flatten.take j); rw [List.length_take] at this; omega
          have hdl : (downs R s).length ≤ j := by rw [← hdns]; have := dnR_len s (R.flatten.take j); rw [List.length_take] at this; omega
          have hNU : ∀ e ∈ behind' R s, NumV e.v := fun e he => by rw [← up_flat HT.out.good] at he; exact HT.out.num e (List.mem_filter.1 he).1
          have hND : ∀ e ∈ downs R s, NumV e.v := fun e he => by rw [← down_flat HT.out.good] at he; exact HT.out.num e (List.mem_filter.1 (List.mem_reverse.1 he)).1
          have hrl := rows_le_total HT.out.good
          have hO := HT.out.good.ordered
          have hpg : ∀ i, i < R.length → (pageAt R i).length ≤ 64 := fun i hi => by have := (HT.out.good.full _ (pageAt_mem hi)).2; omega
          obtain ⟨ups, hup⟩ : ∃ l, behind' R s = l := ⟨_, rfl⟩
          obtain ⟨dns, hdn⟩ : ∃ l, downs R s = l := ⟨_, rfl⟩
          have HLe := Lib.hid (fun w' (hb : Below wB.heap.size wB w') => show Calls Try.prog _ #[.pointer (some ⟨bx, 0, none⟩), s.v] w' _ from by
            obtain ⟨vr', pvs', hM⟩ := (HT.out.below hb).mem
            have := least_of (some ⟨bx, 0, none⟩) s (evs (behind' R s)) w' (up_f bx size (by omega) R (by omega) hO hpg HT.out.num s Z vr' pvs' w' hM)
            rw [hup, first_eq] at this
            exact this)
          have HGr := Lib.hid (fun w' (hb : Below wB.heap.size wB w') => show Calls Try.prog _ #[.pointer (some ⟨bx, 0, none⟩), s.v] w' _ from by
            obtain ⟨vr', pvs', hM⟩ := (HT.out.below hb).mem
            have := greatest_of (some ⟨bx, 0, none⟩) s (evs (downs R s)) w' (down_f bx size (by omega) R (by omega) hO hpg HT.out.num s Z vr' pvs' w' hM)
            rw [hdn, first_eq] at this
            exact this)
          have HUp := Lib.hid (fun w' (hb : Below wB.heap.size wB w') (T : Nat → Prop) (hT : ∀ k, T k → wB.heap.size ≤ k ∧ k < w'.heap.size) => show SeqT 75 (some ⟨bx, 0, none⟩) s (evs ups) T w' from by
            obtain ⟨vr', pvs', hM⟩ := (HT.out.below hb).mem
            rw [← hup]
            intro Bx Bs hx h0 h1
            exact SeqO.of_K (fun pre x h => Or.inr h) (up_seq 2 bx size (by omega) R (by omega) hO hpg HT.out.num s Z vr' pvs' Bx Bs w'.heap.size w' hM hx h0 h1 T (fun k h => (hT k h).2) (Nat.le_refl _) (fun k h h' => by have := (HT.out.lim k h).2; have := (hT k h').1; omega)))
          have HDn := Lib.hid (fun w' (hb : Below wB.heap.size wB w') (T : Nat → Prop) (hT : ∀ k, T k → wB.heap.size ≤ k ∧ k < w'.heap.size) => show SeqT 77 (some ⟨bx, 0, none⟩) s (evs dns) T w' from by
            obtain ⟨vr', pvs', hM⟩ := (HT.out.below hb).mem
            rw [← hdn]
            intro Bx Bs hx h0 h1
            have h := down_seq 2 bx size (by omega) R (by omega) hO hpg HT.out.num s Z vr' pvs' Bx Bs w'.heap.size w' hM hx h0 h1 T (fun k h => (hT k h).2) (Nat.le_refl _) (fun k h h' => by have := (HT.out.lim k h).2; have := (hT k h').1; omega)
            exact fun l J Jx W hW hJ hJx hY h0 => h l J Jx W hW hJ hJx (fun pre x W1 hj hok => hY pre x W1 hj (Or.inl hok)) h0)
          have HPg := Lib.hid (fun w' (hb : Below wB.heap.size wB w') => show Calls Try.prog _ #[.pointer (some ⟨bx, 0, none⟩)] w' _ from by
            obtain ⟨vr', pvs', hM⟩ := (HT.out.below hb).mem
            exact U.pages_any bx size (by omega) R (by omega) Z vr' pvs' w' hM)
          have hRle : total R ≤ 1099511 := by omega
          have hRR : R.length ≤ 1099511 := by omega
          have HPl := Lib.hid (fun w' (hb : Below wB.heap.size wB w') => show ∃ (pg en : Nat) (th : Bool), pg ≤ R.length ∧ en + total (R.take pg) + ups.length = j ∧ th = (decide (0 < ups.length) && decide (hdK ups = s)) ∧
              Calls Try.prog _ #[.pointer (some ⟨bx, 0, none⟩), .agg #[.int .u64 s.t, .int .u64 s.s]] w' fun e w'' => e = .returned (.tuple #[.int .i64 pg, .int .i64 en, .bool th]) ∧ Below w'.heap.size w' w'' from by
            obtain ⟨vr', pvs', hM⟩ := (HT.out.below hb).mem
            rcases Nat.eq_zero_or_pos R.length with h0 | hR0
            · obtain rfl := List.eq_nil_of_length_eq_zero h0
              have hu0 : ups = [] := by rw [← hup]; rfl
              refine ⟨0, 0, false, by simp, ?_, by rw [hu0]; rfl, U.place_none s bx size Z vr' pvs' w' hM⟩
              rw [hu0, ← Hm.out.1]
              rfl
            · refine ⟨pageOf R s, entOf R s, there R s, Nat.le_of_lt (pageOf_lt hR0), ?_, ?_, U.place_some s bx size (by omega) R hR0 (by omega) hO (fun i hi => by have := hpg i hi; omega) Z vr' pvs' w' hM⟩
              · rw [← Hm.out.1, flat_parts s hR0, List.length_append, ahead_len s hR0, hup]
                omega
              · rw [there_is HT.out.good s hR0, hup]
                cases ups with
                | nil => rfl
                | cons e l => rfl)
          rw [hup] at hR hul hNU
          rw [hdn] at hR hdl hND
          obtain ⟨au, cu, hvu, -⟩ := owns_shape hR.ru
          obtain ⟨nu, hnu⟩ : ∃ nu, ups.length = nu := ⟨_, rfl⟩
          obtain ⟨ad, cd, hvd, -⟩ := owns_shape hR.rd
          obtain ⟨nd, hnd⟩ : ∃ nd, dns.length = nd := ⟨_, rfl⟩
          rw [hnu] at hvu hul
          rw [hnd] at hvd hdl
          subst hvu hvd
          have HN := Lib.hid (And.intro hnu (And.intro hnd (And.intro hNU (And.intro hND (And.intro hup hdn))))); clear hnu hnd hNU hND hup hdn hups hdns hO hpg hrl
          have HR := Lib.hid hR
          have hwB := hB.size
          have hgB : w.heap.size < wB.heap.size := block_lt_of_heap g0
          have hDr := block_lt_of_heap hR.bd
          have hRr : (∀ k, (Value.slice au nu cu).ownBlock = some k → k < wr.heap.size) ∧ ∀ k, (Value.slice ad nd cd).ownBlock = some k → k < wr.heap.size := ⟨fun k hk => (hR.ru.lt k hk).2, fun k hk => (hR.rd.lt k hk).2⟩
          obtain ⟨s0, s1, -, -⟩ := heap2 (below_heap hBj g0)
          obtain ⟨u0, u1⟩ := heap1 hR.bu
          obtain ⟨d0, d1⟩ := heap1 hR.bd
          clear hR
          have hL1 := HLe.out wr hBj
          unfold St.v at hL1
          have HL1 := Lib.hid hL1; clear hL1
          go_wp2_with fail
          refine HL1.out.mono ?_
          rintro e w2 ⟨rfl, hb2⟩
          have hBb := hBj.trans (hb2.mono hBj.size)
          have hs2 := hb2.size
          have hRlt : (∀ k, (Value.slice au nu cu).ownBlock = some k → k < w2.heap.size) ∧ ∀ k, (Value.slice ad nd cd).ownBlock = some k → k < w2.heap.size := ⟨fun k hk => Nat.lt_of_lt_of_le (hRr.1 k hk) hs2, fun k hk => Nat.lt_of_lt_of_le (hRr.2 k hk) hs2⟩
          have HRl := Lib.hid (And.intro hRlt hRr); clear hRlt hRr
          have HR := Lib.hid (HR.out.below hb2)
          have s0 := below_cell hb2 s0
          have s1 := below_cell hb2 s1
          have u0 := below_cell hb2 u0
          have d0 := below_cell hb2 d0
          rw [HN.out.1]
          obtain ⟨lb, hlb⟩ : ∃ lb, decide (0 < nu) = lb := ⟨_, rfl⟩
          rw [hlb]
          have Hlb := Lib.hid hlb; clear hlb
          have hE1 := U.neq_stamp
          have hE2 := U.guard_stamp
          go_upto_region 18 with fail
          have hcW := below_box w2 (.cells #[.int .u64 (hdK ups).t, .int .u64 (hdK ups).s] 38)
          have h14 := World.alloc_heap_new w2 (.cells #[.int .u64 (hdK ups).t, .int .u64 (hdK ups).s] 38)
          have hlt14 : w2.heap.size < (w2.alloc (.cells #[.int .u64 (hdK ups).t, .int .u64 (hdK ups).s] 38)).heap.size := by simp
          generalize w2.alloc (.cells #[.int .u64 (hdK ups).t, .int .u64 (hdK ups).s] 38) = W2 at hcW h14 hlt14 ⊢
          have HR := Lib.hid (HR.out.below hcW)
          have s0 := below_cell hcW s0
          have s1 := below_cell hcW s1
          have u0 := below_cell hcW u0
          have d0 := below_cell hcW d0
          have hBc := hBb.trans (hcW.mono hBb.size)
          have e0 := u0
          obtain ⟨k0, k1, k2, k3⟩ := heap2 h14
          go_cut [124] from 101 to 124 (fun t wx => t = .bool false ∧ Below (W2).heap.size W2 wx)
          case first =>
            cases lb
            · obtain hz : nu = 0 := by have := Hlb.out; rw [decide_eq_false_iff_not] at this; omega
              subst hz
              refine wp_region_rg (fun _ => none) fol (by kernel_rfl) (fun W hW hh => ?_)
              clear hh
              have q0 : ∀ w1, Below W.heap.size W w1 → w1.cell? ⟨wB.heap.size, 0, none⟩ = _ := fun w1 h => below_cell (below_trans hW h) e0
              repeat (first
                | (refine lex_move _ (by first | exact Or.inl rfl | exact Or.inr rfl) rfl rfl ?_
                   simp only [Act.put, Act.eval, Array.getD_eq_getD_getElem?, List.getElem?_toArray, List.getElem?_cons_zero, List.getElem?_cons_succ, Option.getD_some, List.setIfInBounds_toArray, List.set_cons_succ, List.set_cons_zero]
                  )
                | (refine lex_float ?_ rfl rfl (fun w1 hb1 hf1 => ?_) ?_
                   rotate_left
                   (go_simp; (try simp (disch := omega) only [IntWalk.i64_quo, IntWalk.rem_in, IntWalk.i64_in, IntWalk.u64_in, IntWalk.u32_in, IntWalk.u8_in, IntWalk.toNatUp, IntWalk.iteOmega]); (try go_simp); rfl)
                   simp only [Act.put, Act.eval, Array.getD_eq_getD_getElem?, List.getElem?_toArray, List.getElem?_cons_zero, List.getElem?_cons_succ, Option.getD_some, List.setIfInBounds_toArray, List.set_cons_succ, List.set_cons_zero]
                  )
                | (refine lex_skip rfl ?_
                   simp only [Act.put, Act.eval, Array.getD_eq_getD_getElem?, List.getElem?_toArray, List.getElem?_cons_zero, List.getElem?_cons_succ, Option.getD_some, List.setIfInBounds_toArray, List.set_cons_succ, List.set_cons_zero]
                  ))
              refine lex_nil ?_
              go_wp2_with fail
              go_meet
              exact ⟨rfl, hW⟩
            · have hz0 : 0 < nu := by have := Hlb.out; rw [decide_eq_true_iff] at this; exact this
              have hz : (0 : Int) < (nu : Int) := by omega
              obtain ⟨gr, cr, e1, -, hgr, -⟩ := owns_parts HR.out.ru (by rw [HN.out.1]; exact hz0)
              rw [HN.out.1] at e1
              injection e1 with e1 _ f1
              subst e1 f1
              have hrw := HR.out.ru
              rw [HN.out.1] at hrw
              obtain ⟨z0, z1, z2⟩ := book_cells (i := 0) hrw (by rw [HN.out.1]; exact hz0)
              obtain ⟨h1, h2⟩ := hd_ent (l := ups) (by rw [HN.out.1]; exact hz0)
              obtain ⟨num, hnum⟩ := HN.out.2.2.1 (ent ups 0) (ent_mem (by rw [HN.out.1]; exact hz0))
              rw [hnum] at z2 h2
              rw [← h1] at z0 z1
              rw [show num = hdV ups from h2.symm] at z2
              simp only [Nat.zero_mul, Nat.zero_add] at z0 z1 z2
              clear hrw h1 h2 hnum
              have hs1 : sEq (hdK ups).t (hdK ups).s (hdK ups).t (hdK ups).s = true := by rw [stamp_beq, decide_eq_true rfl]
              refine wp_region_rg (fun _ => none) fol (by kernel_rfl) (fun W hW hh => ?_)
              clear hh
              have q0 : ∀ w1, Below W.heap.size W w1 → w1.cell? ⟨wB.heap.size, 0, none⟩ = _ := fun w1 h => below_cell (below_trans hW h) e0
              have q1 : ∀ w1, Below W.heap.size W w1 → w1.cell? ⟨gr, 0, none⟩ = _ := fun w1 h => below_cell (below_trans hW h) z0
              have q2 : ∀ w1, Below W.heap.size W w1 → w1.cell? ⟨gr, 1, none⟩ = _ := fun w1 h => below_cell (below_trans hW h) z1
              have q3 : ∀ w1, Below W.heap.size W w1 → w1.cell? ⟨gr, 2, none⟩ = _ := fun w1 h => below_cell (below_trans hW h) z2
              have q4 : ∀ w1, Below W.heap.size W w1 → w1.cell? ⟨w2.heap.size, 0, none⟩ = _ := fun w1 h => below_cell (below_trans hW h) k0
              have q5 : ∀ w1, Below W.heap.size W w1 → w1.cell? ⟨w2.heap.size, 1, none⟩ = _ := fun w1 h => below_cell (below_trans hW h) k1
              repeat (first
                | (refine lex_move _ (by first | exact Or.inl rfl | exact Or.inr rfl) rfl rfl ?_
                   simp only [Act.put, Act.eval, Array.getD_eq_getD_getElem?, List.getElem?_toArray, List.getElem?_cons_zero, List.getElem?_cons_succ, Option.getD_some, List.setIfInBounds_toArray, List.set_cons_succ, List.set_cons_zero]
                  )
                | (refine lex_float ?_ rfl rfl (fun w1 hb1 hf1 => ?_) ?_
                   rotate_left
                   (go_simp; (try simp (disch := omega) only [IntWalk.i64_quo, IntWalk.rem_in, IntWalk.i64_in, IntWalk.u64_in, IntWalk.u32_in, IntWalk.u8_in, IntWalk.toNatUp, IntWalk.iteOmega]); (try go_simp); rfl)
                   simp only [Act.put, Act.eval, Array.getD_eq_getD_getElem?, List.getElem?_toArray, List.getElem?_cons_zero, List.getElem?_cons_succ, Option.getD_some, List.setIfInBounds_toArray, List.set_cons_succ, List.set_cons_zero]
                  )
                | (refine lex_skip rfl ?_
                   simp only [Act.put, Act.eval, Array.getD_eq_getD_getElem?, List.getElem?_toArray, List.getElem?_cons_zero, List.getElem?_cons_succ, Option.getD_some, List.setIfInBounds_toArray, List.set_cons_succ, List.set_cons_zero]
                  ))
              refine lex_nil ?_
              go_wp2_with fail
              go_meet
              exact ⟨rfl, hW⟩
          case rest =>
            obtain ⟨rfl, hb3⟩ := hcut
            have HR := Lib.hid (HR.out.below hb3)
            have s0 := below_cell hb3 s0
            have s1 := below_cell hb3 s1
            have u0 := below_cell hb3 u0
            have d0 := below_cell hb3 d0
            have hBd := hBc.trans (hb3.mono hBc.size)
            have h14 := below_heap hb3 h14
            have hlt14 := Nat.lt_of_lt_of_le hlt14 hb3.size
            have hL2 := HGr.out wc hBd
            unfold St.v at hL2
            have HL2 := Lib.hid hL2; clear hL2 e0 k0 k1 k2 k3
            go_wp2_with fail
            refine HL2.out.mono ?_
            rintro e w4 ⟨rfl, hb4⟩
            rw [HN.out.2.1]
            obtain ⟨lb2, hlb2⟩ : ∃ lb, decide (0 < nd) = lb := ⟨_, rfl⟩
            rw [hlb2]
            have Hlb2 := Lib.hid hlb2; clear hlb2
            have h14 := below_heap hb4 h14
            obtain ⟨k0, k1, k2, k3⟩ := heap2 h14
            have hBe := hBd.trans (hb4.mono hBd.size)
            have HR := Lib.hid (HR.out.below hb4)
            have hlt14 := Nat.lt_of_lt_of_le hlt14 hb4.size
            go_upto_region 21 with fail
            have hXs : Ext (· = w2.heap.size) w4 ((w4.setCell ⟨w2.heap.size, 0, none⟩ (.int .u64 (hdK dns).t)).setCell ⟨w2.heap.size, 1, none⟩ (.int .u64 (hdK dns).s)) := (Ext.setCell (S := (· = w2.heap.size)) (p := ⟨w2.heap.size, 0, none⟩) rfl _).trans (Ext.setCell (S := (· = w2.heap.size)) (p := ⟨w2.heap.size, 1, none⟩) rfl _) fun _ _ h => h
            have h14 := heap2_set1 (.int .u64 (hdK dns).s) (heap2_set0 (.int .u64 (hdK dns).t) h14)
            generalize (w4.setCell ⟨w2.heap.size, 0, none⟩ (.int .u64 (hdK dns).t)).setCell ⟨w2.heap.size, 1, none⟩ (.int .u64 (hdK dns).s) = W4 at hXs h14 ⊢
            have hRlt := HRl.out.1
            have hne : ∀ k, k < w2.heap.size → ¬ k = w2.heap.size := fun k h e => by omega
            have HR := Lib.hid (HR.out.ext hXs (hne _ (by omega)) (hne _ (by omega)) (fun k hk => hne k (hRlt.1 k hk)) (fun k hk => hne k (hRlt.2 k hk)))
            have s0 := hXs.cell_some (below_cell hb4 s0) (hne _ (by show w.heap.size < _; omega))
            have s1 := hXs.cell_some (below_cell hb4 s1) (hne _ (by show w.heap.size < _; omega))
            have hBf : Below wB.heap.size wB W4 := hBe.trans (hXs.to_belowAt (by have := hBe.size; omega) fun k hk h => by omega)
            obtain ⟨u0, u1⟩ := heap1 HR.out.bu
            obtain ⟨d0, d1⟩ := heap1 HR.out.bd
            obtain ⟨k0, k1, k2, k3⟩ := heap2 h14
            have e0 := d0
            go_cut [155] from 132 to 155 (fun t wx => t = .bool false ∧ Below (W4).heap.size W4 wx)
            case first =>
              cases lb2
              · obtain hz : nd = 0 := by have := Hlb2.out; rw [decide_eq_false_iff_not] at this; omega
                subst hz
                refine wp_region_rg (fun _ => none) fol (by kernel_rfl) (fun W hW hh => ?_)
                clear hh
                have q0 : ∀ w1, Below W.heap.size W w1 → w1.cell? ⟨wB.heap.size + 1, 0, none⟩ = _ := fun w1 h => below_cell (below_trans hW h) e0
                repeat (first
                  | (refine lex_move _ (by first | exact Or.inl rfl | exact Or.inr rfl) rfl rfl ?_
                     simp only [Act.put, Act.eval, Array.getD_eq_getD_getElem?, List.getElem?_toArray, List.getElem?_cons_zero, List.getElem?_cons_succ, Option.getD_some, List.setIfInBounds_toArray, List.set_cons_succ, List.set_cons_zero]
                    )
                  | (refine lex_float ?_ rfl rfl (fun w1 hb1 hf1 => ?_) ?_
                     rotate_left
                     (go_simp; (try simp (disch := omega) only [IntWalk.i64_quo, IntWalk.rem_in, IntWalk.i64_in, IntWalk.u64_in, IntWalk.u32_in, IntWalk.u8_in, IntWalk.toNatUp, IntWalk.iteOmega]); (try go_simp); rfl)
                     simp only [Act.put, Act.eval, Array.getD_eq_getD_getElem?, List.getElem?_toArray, List.getElem?_cons_zero, List.getElem?_cons_succ, Option.getD_some, List.setIfInBounds_toArray, List.set_cons_succ, List.set_cons_zero]
                    )
                  | (refine lex_skip rfl ?_
                     simp only [Act.put, Act.eval, Array.getD_eq_getD_getElem?, List.getElem?_toArray, List.getElem?_cons_zero, List.getElem?_cons_succ, Option.getD_some, List.setIfInBounds_toArray, List.set_cons_succ, List.set_cons_zero]
                    ))
                refine lex_nil ?_
                go_wp2_with fail
                go_meet
                exact ⟨rfl, hW⟩
              · have hz0 : 0 < nd := by have := Hlb2.out; rw [decide_eq_true_iff] at this; exact this
                have hz : (0 : Int) < (nd : Int) := by omega
                obtain ⟨gr, cr, e1, -, hgr, -⟩ := owns_parts HR.out.rd (by rw [HN.out.2.1]; exact hz0)
                rw [HN.out.2.1] at e1
                injection e1 with e1 _ f1
                subst e1 f1
                have hrw := HR.out.rd
                rw [HN.out.2.1] at hrw
                obtain ⟨z0, z1, z2⟩ := book_cells (i := 0) hrw (by rw [HN.out.2.1]; exact hz0)
                obtain ⟨h1, h2⟩ := hd_ent (l := dns) (by rw [HN.out.2.1]; exact hz0)
                obtain ⟨num, hnum⟩ := HN.out.2.2.2.1 (ent dns 0) (ent_mem (by rw [HN.out.2.1]; exact hz0))
                rw [hnum] at z2 h2
                rw [← h1] at z0 z1
                rw [show num = hdV dns from h2.symm] at z2
                simp only [Nat.zero_mul, Nat.zero_add] at z0 z1 z2
                clear hrw h1 h2 hnum
                have hs1 : sEq (hdK dns).t (hdK dns).s (hdK dns).t (hdK dns).s = true := by rw [stamp_beq, decide_eq_true rfl]
                refine wp_region_rg (fun _ => none) fol (by kernel_rfl) (fun W hW hh => ?_)
                clear hh
                have q0 : ∀ w1, Below W.heap.size W w1 → w1.cell? ⟨wB.heap.size + 1, 0, none⟩ = _ := fun w1 h => below_cell (below_trans hW h) e0
                have q1 : ∀ w1, Below W.heap.size W w1 → w1.cell? ⟨gr, 0, none⟩ = _ := fun w1 h => below_cell (below_trans hW h) z0
                have q2 : ∀ w1, Below W.heap.size W w1 → w1.cell? ⟨gr, 1, none⟩ = _ := fun w1 h => below_cell (below_trans hW h) z1
                have q3 : ∀ w1, Below W.heap.size W w1 → w1.cell? ⟨gr, 2, none⟩ = _ := fun w1 h => below_cell (below_trans hW h) z2
                have q4 : ∀ w1, Below W.heap.size W w1 → w1.cell? ⟨w2.heap.size, 0, none⟩ = _ := fun w1 h => below_cell (below_trans hW h) k0
                have q5 : ∀ w1, Below W.heap.size W w1 → w1.cell? ⟨w2.heap.size, 1, none⟩ = _ := fun w1 h => below_cell (below_trans hW h) k1
                repeat (first
                  | (refine lex_move _ (by first | exact Or.inl rfl | exact Or.inr rfl) rfl rfl ?_
                     simp only [Act.put, Act.eval, Array.getD_eq_getD_getElem?, List.getElem?_toArray, List.getElem?_cons_zero, List.getElem?_cons_succ, Option.getD_some, List.setIfInBounds_toArray, List.set_cons_succ, List.set_cons_zero]
                    )
                  | (refine lex_float ?_ rfl rfl (fun w1 hb1 hf1 => ?_) ?_
                     rotate_left
                     (go_simp; (try simp (disch := omega) only [IntWalk.i64_quo, IntWalk.rem_in, IntWalk.i64_in, IntWalk.u64_in, IntWalk.u32_in, IntWalk.u8_in, IntWalk.toNatUp, IntWalk.iteOmega]); (try go_simp); rfl)
                     simp only [Act.put, Act.eval, Array.getD_eq_getD_getElem?, List.getElem?_toArray, List.getElem?_cons_zero, List.getElem?_cons_succ, Option.getD_some, List.setIfInBounds_toArray, List.set_cons_succ, List.set_cons_zero]
                    )
                  | (refine lex_skip rfl ?_
                     simp only [Act.put, Act.eval, Array.getD_eq_getD_getElem?, List.getElem?_toArray, List.getElem?_cons_zero, List.getElem?_cons_succ, Option.getD_some, List.setIfInBounds_toArray, List.set_cons_succ, List.set_cons_zero]
                    ))
                refine lex_nil ?_
                go_wp2_with fail
                go_meet
                exact ⟨rfl, hW⟩
            case rest =>
              obtain ⟨rfl, hb5⟩ := hcut
              have HR := Lib.hid (HR.out.below hb5)
              have s0 := below_cell hb5 s0
              have s1 := below_cell hb5 s1
              have hBg := hBf.trans (hb5.mono hBf.size)
              clear e0 k0 k1 k2 k3 u0 u1 d0 d1 hXs h14
              have t0 := below_cell (below_box wc (.cells #[.int .i64 0] 3)) s0
              have t1 := below_cell (below_box wc (.cells #[.int .i64 0] 3)) s1
              have hUc := up_call (some ⟨bx, 0, none⟩) s
              unfold St.v at hUc
              have HUc := Lib.hid hUc; clear hUc
              go_wp2_with fail
              refine (HUc.out _).mono ?_
              rintro e w' ⟨rfl, rfl⟩
              have h17 := allocs_get [.cells #[.int .i64 0] 3, .cells #[.pointer (some ⟨bx, 0, none⟩)] 29, .cells #[.int .u64 s.t, .int .u64 s.s] 38] wc 0 _ rfl
              have hx := allocs_get [.cells #[.int .i64 0] 3, .cells #[.pointer (some ⟨bx, 0, none⟩)] 29, .cells #[.int .u64 s.t, .int .u64 s.s] 38] wc 1 _ rfl
              have hs := allocs_get [.cells #[.int .i64 0] 3, .cells #[.pointer (some ⟨bx, 0, none⟩)] 29, .cells #[.int .u64 s.t, .int .u64 s.s] 38] wc 2 _ rfl
              have hBw := allocs_below wc (B := wc.heap.size) [.cells #[.int .i64 0] 3, .cells #[.pointer (some ⟨bx, 0, none⟩)] 29, .cells #[.int .u64 s.t, .int .u64 s.s] 38] wc (Below.refl _ _) (Nat.le_refl _)
              unfold allocs at h17 hx hs hBw
              simp only [List.foldl_cons, List.foldl_nil, Nat.add_zero] at h17 hx hs hBw
              have hszI : (((wc.alloc (.cells #[.int .i64 0] 3)).alloc (.cells #[.pointer (some ⟨bx, 0, none⟩)] 29)).alloc (.cells #[.int .u64 s.t, .int .u64 s.s] 38)).heap.size = wc.heap.size + 3 := by simp
              have gR := below_heap hBg g1
              obtain ⟨bR, -⟩ := heap1 HR.out.bu
              go_wp2_with fail
              refine (wpIn_wide (n := 3)).1 ?_
              generalize hA0 : Act.mk _ [] = a0
              generalize ((wc.alloc (.cells #[.int .i64 0] 3)).alloc (.cells #[.pointer (some ⟨bx, 0, none⟩)] 29)).alloc (.cells #[.int .u64 s.t, .int .u64 s.s] 38) = WI at h17 hx hs hBw hszI ⊢
              have hBI := hBg.trans (hBw.mono hBg.size)
              have hTT : ∀ k, k = (wc).heap.size → wB.heap.size ≤ k ∧ k < (WI).heap.size := fun k h => by subst h; exact ⟨hBg.size, by omega⟩
              refine wpIn_range_own (F := Fence.wide) rfl (by decide) (gf := 75) (lb := #[.pointer (some ⟨(wc).heap.size + 1, 0, none⟩), .pointer (some ⟨(wc).heap.size + 2, 0, none⟩)]) (by rw [← hA0]; rfl) trivial (enters_of Try.func75 (by kernel_rfl) rfl)
                (HUp.out WI hBI (fun k => k = (wc).heap.size) hTT ((wc).heap.size + 1) ((wc).heap.size + 2) (by simp [World.cell?, hx]) (by simp [World.cell?, hs]) (by simp [World.cell?, hs]))
                (fun h k => h.trans k) (fun W l o o' h1 h2 h3 h4 => KeepC.putObj W l o o' h1 h2 h3 h4) (Below.refl _ _) (fun _ => rfl)
                (fun pre W => (pre <+: evs ups ∧ W.heap[(wc).heap.size]? = some (.cells #[.int .i64 pre.length] 3 (0, 0))) ∧ Below (wc).heap.size wc W)
                (fun c pre W => c = .ret ∧ ¬ pre <+: evs ups)
                (OwnFrom.and (fun pre A B row hs hg hr => ⟨hs.1, heap_keep hs.2 rfl hg fun r e => (hr r e).2⟩) (ownFrom_below (Nat.le_refl _) (by omega)))
                (fun c pre A B row hs hg hr => hs)
                ⟨⟨List.nil_prefix, h17⟩, hBw⟩
                (fun x a' W => ∃ B6, W.heap[B6]? = some (.cells #[.int .u64 x.k.t, .int .u64 x.k.s] 38 (0, 0)) ∧ a' = { tmps := ((((a0).tmps.setIfInBounds 159 (.agg #[.int .u64 x.k.t, .int .u64 x.k.s])).setIfInBounds 160 (.int .u64 x.n)).setIfInBounds 18 (.pointer (some ⟨B6, 0, none⟩))).setIfInBounds 19 (.int .u64 x.n), defers := [] })
                (fun x a' _ A B row hs hg hr => by obtain ⟨B6, h1, h2⟩ := hs; exact ⟨B6, heap_keep h1 rfl hg fun r e => (hr r e).2, h2⟩)
                ?assign ?body ?done ?stop
              case assign =>
                rintro l pre x W K ⟨⟨h1, h2⟩, hB1⟩ hok hK
                subst hA0
                gi_wp2_with fail
                exact hK _ _ ((KeepsOthers.alloc _ _).from _) (KeepC.below (below_box _ _)) ⟨⟨h1, U.heap_alloc_old _ h2⟩, hB1.alloc hB1.size _⟩ ⟨W.heap.size, World.alloc_heap_new W _, rfl⟩
              case body =>
                rintro l pre x a' W hl ⟨r, hr⟩ ⟨⟨h1, h2⟩, hB1⟩ ⟨B6, h6, rfl⟩ hlt
                subst hA0
                obtain ⟨k0, k1, -, -⟩ := heap2 h6
                obtain ⟨k2, k3⟩ := heap1 h2
                obtain ⟨k4, k5⟩ := heap1 (below_heap hB1 gR)
                have hz1 := hB1.size
                have hpx := pre_snoc (x := x) h1
                have hple := h1.length_le
                rw [evs_length, HN.out.1] at hple
                have k6 := below_cell hB1 bR
                gi_wp2_with fail
                by_cases hi : pre.length < nu
                · obtain ⟨gr, cr, e1, -, hgr, -⟩ := owns_parts HR.out.ru (by rw [HN.out.1]; omega)
                  rw [HN.out.1] at e1
                  injection e1 with e1 _ f1
                  subst e1 f1
                  have hrw := HR.out.ru
                  rw [HN.out.1] at hrw
                  obtain ⟨z0, z1, z2⟩ := book_cells (i := pre.length) hrw (by rw [HN.out.1]; exact hi)
                  obtain ⟨num, hnum⟩ := HN.out.2.2.1 (ent ups pre.length) (ent_mem (by rw [HN.out.1]; exact hi))
                  rw [evs_get (show pre.length < (ups).length by rw [HN.out.1]; exact hi), hnum] at hpx
                  rw [hnum] at z2
                  generalize (ent ups pre.length).k = ky at z0 z1 hpx
                  have z0 := below_cell hB1 z0
                  have z1 := below_cell hB1 z1
                  have z2 := below_cell hB1 z2
                  clear hrw hnum
                  have hii : ¬ (nu : Int) ≤ (pre.length : Int) := by omega
                  have hii' : (pre.length : Int) < (nu : Int) := by omega
                  by_cases hk : x.k = ky
                  · subst hk
                    have hs1 : sEq x.k.t x.k.s x.k.t x.k.s = true := by rw [stamp_beq, decide_eq_true rfl]
                    refine wpIn_region_rg (fun _ => none) fol (by kernel_rfl) (fun W1 hW hh => ?_)
                    clear hh
                    have q0 : ∀ w1, Below W1.heap.size W1 w1 → w1.cell? ⟨gr, pre.length * 3, none⟩ = _ := fun w1 h => below_cell (below_trans hW h) z0
                    have q1 : ∀ w1, Below W1.heap.size W1 w1 → w1.cell? ⟨gr, pre.length * 3 + 1, none⟩ = _ := fun w1 h => below_cell (below_trans hW h) z1
                    have q2 : ∀ w1, Below W1.heap.size W1 w1 → w1.cell? ⟨gr, pre.length * 3 + 2, none⟩ = _ := fun w1 h => below_cell (below_trans hW h) z2
                    have q3 : ∀ w1, Below W1.heap.size W1 w1 → w1.cell? ⟨B6, 0, none⟩ = some (.int .u64 x.k.t) := fun w1 h => below_cell (below_trans hW h) k0
                    have q4 : ∀ w1, Below W1.heap.size W1 w1 → w1.cell? ⟨B6, 1, none⟩ = some (.int .u64 x.k.s) := fun w1 h => below_cell (below_trans hW h) k1
                    have q5 : ∀ w1, Below W1.heap.size W1 w1 → w1.cell? ⟨(wc).heap.size, 0, none⟩ = _ := fun w1 h => below_cell (below_trans hW h) k2
                    have q6 : ∀ w1, Below W1.heap.size W1 w1 → w1.cell? ⟨wB.heap.size, 0, none⟩ = _ := fun w1 h => below_cell (below_trans hW h) k6
                    repeat (first
                      | (refine lex_move _ (by first | exact Or.inl rfl | exact Or.inr rfl) rfl rfl ?_
                         simp only [Act.put, Act.eval, Array.getD_eq_getD_getElem?, List.getElem?_toArray, List.getElem?_cons_zero, List.getElem?_cons_succ, Option.getD_some, List.setIfInBounds_toArray, List.set_cons_succ, List.set_cons_zero]
                        )
                      | (refine lex_float ?_ rfl rfl (fun w1 hb1 hf1 => ?_) ?_
                         rotate_left
                         (go_simp; (try simp (disch := omega) only [IntWalk.i64_quo, IntWalk.rem_in, IntWalk.i64_in, IntWalk.u64_in, IntWalk.u32_in, IntWalk.u8_in, IntWalk.toNatUp, IntWalk.iteOmega]); (try go_simp); rfl)
                         simp only [Act.put, Act.eval, Array.getD_eq_getD_getElem?, List.getElem?_toArray, List.getElem?_cons_zero, List.getElem?_cons_succ, Option.getD_some, List.setIfInBounds_toArray, List.set_cons_succ, List.set_cons_zero]
                        )
                      | (refine lex_skip rfl ?_
                         simp only [Act.put, Act.eval, Array.getD_eq_getD_getElem?, List.getElem?_toArray, List.getElem?_cons_zero, List.getElem?_cons_succ, Option.getD_some, List.setIfInBounds_toArray, List.set_cons_succ, List.set_cons_zero]
                        ))
                    refine lex_nil ?_
                    clear q0 q1 q2 q3 q4 q5 q6
                    have m2 := below_heap hW h2
                    obtain ⟨k2, k3⟩ := heap1 m2
                    obtain ⟨k4, k5⟩ := heap1 (below_heap hW (below_heap hB1 gR))
                    by_cases hv : x.n = num
                    · have hv' : (x.n != num) = false := by simp [hv]
                      rw [hv']
                      gi_wp2_with fail
                      refine ⟨((keepsOthers_below hW).trans (KeepsOthers.setCell _ _ _)).from _, (KeepC.below hW).trans (KeepC.ext (Ext.setCell (S := (· = (wc).heap.size)) (p := ⟨(wc).heap.size, 0, none⟩) rfl _)), ⟨⟨hpx.2 (by rw [← hv]; rfl), ?_⟩, (hB1.trans (hW.mono hz1)).setCell (p := ⟨(wc).heap.size, 0, none⟩) (Nat.le_refl _) _⟩⟩
                      have := heap1_set (.int .i64 ((pre.length : Int) + 1)) m2
                      simpa using this
                    · have hv' : (x.n != num) = true := by simp [hv]
                      rw [hv']
                      gi_wp2_with fail
                      refine ⟨((keepsOthers_below hW).trans (KeepsOthers.setCell _ _ _)).from _, rfl, fun h => ?_⟩
                      have h := hpx.1 h
                      injection h with h
                      exact hv (by rw [← h]; rfl)
                  · have hs1 : sEq x.k.t x.k.s ky.t ky.s = false := by rw [stamp_beq, decide_eq_false hk]
                    refine wpIn_region_rg (fun _ => none) fol (by kernel_rfl) (fun W1 hW hh => ?_)
                    clear hh
                    have q0 : ∀ w1, Below W1.heap.size W1 w1 → w1.cell? ⟨gr, pre.length * 3, none⟩ = _ := fun w1 h => below_cell (below_trans hW h) z0
                    have q1 : ∀ w1, Below W1.heap.size W1 w1 → w1.cell? ⟨gr, pre.length * 3 + 1, none⟩ = _ := fun w1 h => below_cell (below_trans hW h) z1
                    have q2 : ∀ w1, Below W1.heap.size W1 w1 → w1.cell? ⟨gr, pre.length * 3 + 2, none⟩ = _ := fun w1 h => below_cell (below_trans hW h) z2
                    have q3 : ∀ w1, Below W1.heap.size W1 w1 → w1.cell? ⟨B6, 0, none⟩ = some (.int .u64 x.k.t) := fun w1 h => below_cell (below_trans hW h) k0
                    have q4 : ∀ w1, Below W1.heap.size W1 w1 → w1.cell? ⟨B6, 1, none⟩ = some (.int .u64 x.k.s) := fun w1 h => below_cell (below_trans hW h) k1
                    have q5 : ∀ w1, Below W1.heap.size W1 w1 → w1.cell? ⟨(wc).heap.size, 0, none⟩ = _ := fun w1 h => below_cell (below_trans hW h) k2
                    have q6 : ∀ w1, Below W1.heap.size W1 w1 → w1.cell? ⟨wB.heap.size, 0, none⟩ = _ := fun w1 h => below_cell (below_trans hW h) k6
                    repeat (first
                      | (refine lex_move _ (by first | exact Or.inl rfl | exact Or.inr rfl) rfl rfl ?_
                         simp only [Act.put, Act.eval, Array.getD_eq_getD_getElem?, List.getElem?_toArray, List.getElem?_cons_zero, List.getElem?_cons_succ, Option.getD_some, List.setIfInBounds_toArray, List.set_cons_succ, List.set_cons_zero]
                        )
                      | (refine lex_float ?_ rfl rfl (fun w1 hb1 hf1 => ?_) ?_
                         rotate_left
                         (go_simp; (try simp (disch := omega) only [IntWalk.i64_quo, IntWalk.rem_in, IntWalk.i64_in, IntWalk.u64_in, IntWalk.u32_in, IntWalk.u8_in, IntWalk.toNatUp, IntWalk.iteOmega]); (try go_simp); rfl)
                         simp only [Act.put, Act.eval, Array.getD_eq_getD_getElem?, List.getElem?_toArray, List.getElem?_cons_zero, List.getElem?_cons_succ, Option.getD_some, List.setIfInBounds_toArray, List.set_cons_succ, List.set_cons_zero]
                        )
                      | (refine lex_skip rfl ?_
                         simp only [Act.put, Act.eval, Array.getD_eq_getD_getElem?, List.getElem?_toArray, List.getElem?_cons_zero, List.getElem?_cons_succ, Option.getD_some, List.setIfInBounds_toArray, List.set_cons_succ, List.set_cons_zero]
                        ))
                    refine lex_nil ?_
                    clear q0 q1 q2 q3 q4 q5 q6
                    have m2 := below_heap hW h2
                    obtain ⟨k2, k3⟩ := heap1 m2
                    obtain ⟨k4, k5⟩ := heap1 (below_heap hW (below_heap hB1 gR))
                    gi_wp2_with fail
                    refine ⟨((keepsOthers_below hW).trans (KeepsOthers.setCell _ _ _)).from _, rfl, fun h => ?_⟩
                    have h := hpx.1 h
                    injection h with h
                    exact hk (by rw [← h])
                · have hii : (nu : Int) ≤ (pre.length : Int) := by omega
                  refine wpIn_region_rg (fun _ => none) fol (by kernel_rfl) (fun W1 hW hh => ?_)
                  clear hh
                  have q5 : ∀ w1, Below W1.heap.size W1 w1 → w1.cell? ⟨(wc).heap.size, 0, none⟩ = _ := fun w1 h => below_cell (below_trans hW h) k2
                  have q6 : ∀ w1, Below W1.heap.size W1 w1 → w1.cell? ⟨wB.heap.size, 0, none⟩ = _ := fun w1 h => below_cell (below_trans hW h) k6
                  repeat (first
                    | (refine lex_move _ (by first | exact Or.inl rfl | exact Or.inr rfl) rfl rfl ?_
                       simp only [Act.put, Act.eval, Array.getD_eq_getD_getElem?, List.getElem?_toArray, List.getElem?_cons_zero, List.getElem?_cons_succ, Option.getD_some, List.setIfInBounds_toArray, List.set_cons_succ, List.set_cons_zero]
                      )
                    | (refine lex_float ?_ rfl rfl (fun w1 hb1 hf1 => ?_) ?_
                       rotate_left
                       (go_simp; (try simp (disch := omega) only [IntWalk.i64_quo, IntWalk.rem_in, IntWalk.i64_in, IntWalk.u64_in, IntWalk.u32_in, IntWalk.u8_in, IntWalk.toNatUp, IntWalk.iteOmega]); (try go_simp); rfl)
                       simp only [Act.put, Act.eval, Array.getD_eq_getD_getElem?, List.getElem?_toArray, List.getElem?_cons_zero, List.getElem?_cons_succ, Option.getD_some, List.setIfInBounds_toArray, List.set_cons_succ, List.set_cons_zero]
                      )
                    | (refine lex_skip rfl ?_
                       simp only [Act.put, Act.eval, Array.getD_eq_getD_getElem?, List.getElem?_toArray, List.getElem?_cons_zero, List.getElem?_cons_succ, Option.getD_some, List.setIfInBounds_toArray, List.set_cons_succ, List.set_cons_zero]
                      ))
                  refine lex_nil ?_
                  clear q5 q6
                  have m2 := below_heap hW h2
                  obtain ⟨k2, k3⟩ := heap1 m2
                  obtain ⟨k4, k5⟩ := heap1 (below_heap hW (below_heap hB1 gR))
                  gi_wp2_with fail
                  refine ⟨((keepsOthers_below hW).trans (KeepsOthers.setCell _ _ _)).from _, rfl, fun h => ?_⟩
                  have h := hpx.1 h
                  rw [List.getElem?_eq_none (by rw [evs_length, HN.out.1]; omega)] at h
                  cases h
              case stop =>
                rintro D1 c pre W hD1 hpre ⟨rfl, hn⟩ hK
                exact absurd hpre hn
              case done =>
                rintro D1 zs wU hD1 hzs ⟨⟨h1, h2⟩, hB1⟩ hK1
                replace hzs := hzs.symm
                subst hzs
                subst hA0
                rw [evs_length, HN.out.1] at h2
                have HR := Lib.hid (HR.out.below hB1)
                have s0 := below_cell hB1 s0
                have s1 := below_cell hB1 s1
                have hBh := hBg.trans (hB1.mono hBg.size)
                have hsW := hB1.size
                have t0 := below_cell (below_box wU (.cells #[.int .i64 0] 3)) s0
                have t1 := below_cell (below_box wU (.cells #[.int .i64 0] 3)) s1
                have hwD : w.heap.size ≤ D1 := by have := hBg.size; omega
                have H17 := Lib.hid (And.intro h17 (And.intro hx (And.intro hs (And.intro hBw hBI)))); clear h17 hx hs hBw hBI hszI bR gR
                have hDc := down_call (some ⟨bx, 0, none⟩) s
                unfold St.v at hDc
                have HDc := Lib.hid hDc; clear hDc
                have h20 := allocs_get [.cells #[.int .i64 0] 3, .cells #[.pointer (some ⟨bx, 0, none⟩)] 29, .cells #[.int .u64 s.t, .int .u64 s.s] 38] wU 0 _ rfl
                have hx := allocs_get [.cells #[.int .i64 0] 3, .cells #[.pointer (some ⟨bx, 0, none⟩)] 29, .cells #[.int .u64 s.t, .int .u64 s.s] 38] wU 1 _ rfl
                have hs := allocs_get [.cells #[.int .i64 0] 3, .cells #[.pointer (some ⟨bx, 0, none⟩)] 29, .cells #[.int .u64 s.t, .int .u64 s.s] 38] wU 2 _ rfl
                have hBw := allocs_below wU (B := wU.heap.size) [.cells #[.int .i64 0] 3, .cells #[.pointer (some ⟨bx, 0, none⟩)] 29, .cells #[.int .u64 s.t, .int .u64 s.s] 38] wU (Below.refl _ _) (Nat.le_refl _)
                unfold allocs at h20 hx hs hBw
                simp only [List.foldl_cons, List.foldl_nil, Nat.add_zero] at h20 hx hs hBw
                have hszI : (((wU.alloc (.cells #[.int .i64 0] 3)).alloc (.cells #[.pointer (some ⟨bx, 0, none⟩)] 29)).alloc (.cells #[.int .u64 s.t, .int .u64 s.s] 38)).heap.size = wU.heap.size + 3 := by simp
                have gR := below_heap hBh g1
                obtain ⟨bR, -⟩ := heap1 HR.out.bd
                have hBg := hBh
                have h17 := h20
                clear h20
                go_wp2_with fail
                refine (HDc.out _).mono ?_
                rintro e w' ⟨rfl, rfl⟩
                go_wp2_with fail
                refine (wpIn_wide (n := 3)).1 ?_
                generalize hA0 : Act.mk _ _ = a0
                generalize ((wU.alloc (.cells #[.int .i64 0] 3)).alloc (.cells #[.pointer (some ⟨bx, 0, none⟩)] 29)).alloc (.cells #[.int .u64 s.t, .int .u64 s.s] 38) = WI at h17 hx hs hBw hszI ⊢
                have hBI := hBg.trans (hBw.mono hBg.size)
                have hTT : ∀ k, k = (wU).heap.size → wB.heap.size ≤ k ∧ k < (WI).heap.size := fun k h => by subst h; exact ⟨hBg.size, by omega⟩
                refine wpIn_range_own (F := Fence.wide) rfl (by decide) (gf := 77) (lb := #[.pointer (some ⟨(wU).heap.size + 1, 0, none⟩), .pointer (some ⟨(wU).heap.size + 2, 0, none⟩)]) (by rw [← hA0]; rfl) trivial (enters_of Try.func77 (by kernel_rfl) rfl)
                  (HDn.out WI hBI (fun k => k = (wU).heap.size) hTT ((wU).heap.size + 1) ((wU).heap.size + 2) (by simp [World.cell?, hx]) (by simp [World.cell?, hs]) (by simp [World.cell?, hs]))
                  (fun h k => h.trans k) (fun W l o o' h1 h2 h3 h4 => KeepC.putObj W l o o' h1 h2 h3 h4) (Below.refl _ _) (fun _ => rfl)
                  (fun pre W => (pre <+: evs dns ∧ W.heap[(wU).heap.size]? = some (.cells #[.int .i64 pre.length] 3 (0, 0))) ∧ Below (wU).heap.size wU W)
                  (fun c pre W => c = .ret ∧ ¬ pre <+: evs dns)
                  (OwnFrom.and (fun pre A B row hs hg hr => ⟨hs.1, heap_keep hs.2 rfl hg fun r e => (hr r e).2⟩) (ownFrom_below (Nat.le_refl _) (by omega)))
                  (fun c pre A B row hs hg hr => hs)
                  ⟨⟨List.nil_prefix, h17⟩, hBw⟩
                  (fun x a' W => ∃ B6, W.heap[B6]? = some (.cells #[.int .u64 x.k.t, .int .u64 x.k.s] 38 (0, 0)) ∧ a' = { tmps := ((((a0).tmps.setIfInBounds 188 (.agg #[.int .u64 x.k.t, .int .u64 x.k.s])).setIfInBounds 189 (.int .u64 x.n)).setIfInBounds 21 (.pointer (some ⟨B6, 0, none⟩))).setIfInBounds 22 (.int .u64 x.n), defers := [] })
                  (fun x a' _ A B row hs hg hr => by obtain ⟨B6, h1, h2⟩ := hs; exact ⟨B6, heap_keep h1 rfl hg fun r e => (hr r e).2, h2⟩)
                  ?assign ?body ?done ?stop
                case assign =>
                  rintro l pre x W K ⟨⟨h1, h2⟩, hB1⟩ hok hK
                  subst hA0
                  gi_wp2_with fail
                  exact hK _ _ ((KeepsOthers.alloc _ _).from _) (KeepC.below (below_box _ _)) ⟨⟨h1, U.heap_alloc_old _ h2⟩, hB1.alloc hB1.size _⟩ ⟨W.heap.size, World.alloc_heap_new W _, rfl⟩
                case body =>
                  rintro l pre x a' W hl ⟨r, hr⟩ ⟨⟨h1, h2⟩, hB1⟩ ⟨B6, h6, rfl⟩ hlt
                  subst hA0
                  obtain ⟨k0, k1, -, -⟩ := heap2 h6
                  obtain ⟨k2, k3⟩ := heap1 h2
                  obtain ⟨k4, k5⟩ := heap1 (below_heap hB1 gR)
                  have hz1 := hB1.size
                  have hpx := pre_snoc (x := x) h1
                  have hple := h1.length_le
                  rw [evs_length, HN.out.2.1] at hple
                  have k6 := below_cell hB1 bR
                  gi_wp2_with fail
                  by_cases hi : pre.length < nd
                  · obtain ⟨gr, cr, e1, -, hgr, -⟩ := owns_parts HR.out.rd (by rw [HN.out.2.1]; omega)
                    rw [HN.out.2.1] at e1
                    injection e1 with e1 _ f1
                    subst e1 f1
                    have hrw := HR.out.rd
                    rw [HN.out.2.1] at hrw
                    obtain ⟨z0, z1, z2⟩ := book_cells (i := pre.length) hrw (by rw [HN.out.2.1]; exact hi)
                    obtain ⟨num, hnum⟩ := HN.out.2.2.2.1 (ent dns pre.length) (ent_mem (by rw [HN.out.2.1]; exact hi))
                    rw [evs_get (show pre.length < (dns).length by rw [HN.out.2.1]; exact hi), hnum] at hpx
                    rw [hnum] at z2
                    generalize (ent dns pre.length).k = ky at z0 z1 hpx
                    have z0 := below_cell hB1 z0
                    have z1 := below_cell hB1 z1
                    have z2 := below_cell hB1 z2
                    clear hrw hnum
                    have hii : ¬ (nd : Int) ≤ (pre.length : Int) := by omega
                    have hii' : (pre.length : Int) < (nd : Int) := by omega
                    by_cases hk : x.k = ky
                    · subst hk
                      have hs1 : sEq x.k.t x.k.s x.k.t x.k.s = true := by rw [stamp_beq, decide_eq_true rfl]
                      refine wpIn_region_rg (fun _ => none) fol (by kernel_rfl) (fun W1 hW hh => ?_)
                      clear hh
                      have q0 : ∀ w1, Below W1.heap.size W1 w1 → w1.cell? ⟨gr, pre.length * 3, none⟩ = _ := fun w1 h => below_cell (below_trans hW h) z0
                      have q1 : ∀ w1, Below W1.heap.size W1 w1 → w1.cell? ⟨gr, pre.length * 3 + 1, none⟩ = _ := fun w1 h => below_cell (below_trans hW h) z1
                      have q2 : ∀ w1, Below W1.heap.size W1 w1 → w1.cell? ⟨gr, pre.length * 3 + 2, none⟩ = _ := fun w1 h => below_cell (below_trans hW h) z2
                      have q3 : ∀ w1, Below W1.heap.size W1 w1 → w1.cell? ⟨B6, 0, none⟩ = some (.int .u64 x.k.t) := fun w1 h => below_cell (below_trans hW h) k0
                      have q4 : ∀ w1, Below W1.heap.size W1 w1 → w1.cell? ⟨B6, 1, none⟩ = some (.int .u64 x.k.s) := fun w1 h => below_cell (below_trans hW h) k1
                      have q5 : ∀ w1, Below W1.heap.size W1 w1 → w1.cell? ⟨(wU).heap.size, 0, none⟩ = _ := fun w1 h => below_cell (below_trans hW h) k2
                      have q6 : ∀ w1, Below W1.heap.size W1 w1 → w1.cell? ⟨wB.heap.size + 1, 0, none⟩ = _ := fun w1 h => below_cell (below_trans hW h) k6
                      repeat (first
                        | (refine lex_move _ (by first | exact Or.inl rfl | exact Or.inr rfl) rfl rfl ?_
                           simp only [Act.put, Act.eval, Array.getD_eq_getD_getElem?, List.getElem?_toArray, List.getElem?_cons_zero, List.getElem?_cons_succ, Option.getD_some, List.setIfInBounds_toArray, List.set_cons_succ, List.set_cons_zero]
                          )
                        | (refine lex_float ?_ rfl rfl (fun w1 hb1 hf1 => ?_) ?_
                           rotate_left
                           (go_simp; (try simp (disch := omega) only [IntWalk.i64_quo, IntWalk.rem_in, IntWalk.i64_in, IntWalk.u64_in, IntWalk.u32_in, IntWalk.u8_in, IntWalk.toNatUp, IntWalk.iteOmega]); (try go_simp); rfl)
                           simp only [Act.put, Act.eval, Array.getD_eq_getD_getElem?, List.getElem?_toArray, List.getElem?_cons_zero, List.getElem?_cons_succ, Option.getD_some, List.setIfInBounds_toArray, List.set_cons_succ, List.set_cons_zero]
                          )
                        | (refine lex_skip rfl ?_
                           simp only [Act.put, Act.eval, Array.getD_eq_getD_getElem?, List.getElem?_toArray, List.getElem?_cons_zero, List.getElem?_cons_succ, Option.getD_some, List.setIfInBounds_toArray, List.set_cons_succ, List.set_cons_zero]
                          ))
                      refine lex_nil ?_
                      clear q0 q1 q2 q3 q4 q5 q6
                      have m2 := below_heap hW h2
                      obtain ⟨k2, k3⟩ := heap1 m2
                      obtain ⟨k4, k5⟩ := heap1 (below_heap hW (below_heap hB1 gR))
                      by_cases hv : x.n = num
                      · have hv' : (x.n != num) = false := by simp [hv]
                        rw [hv']
                        gi_wp2_with fail
                        refine ⟨((keepsOthers_below hW).trans (KeepsOthers.setCell _ _ _)).from _, (KeepC.below hW).trans (KeepC.ext (Ext.setCell (S := (· = (wU).heap.size)) (p := ⟨(wU).heap.size, 0, none⟩) rfl _)), ⟨⟨hpx.2 (by rw [← hv]; rfl), ?_⟩, (hB1.trans (hW.mono hz1)).setCell (p := ⟨(wU).heap.size, 0, none⟩) (Nat.le_refl _) _⟩⟩
                        have := heap1_set (.int .i64 ((pre.length : Int) + 1)) m2
                        simpa using this
                      · have hv' : (x.n != num) = true := by simp [hv]
                        rw [hv']
                        gi_wp2_with fail
                        refine ⟨((keepsOthers_below hW).trans (KeepsOthers.setCell _ _ _)).from _, rfl, fun h => ?_⟩
                        have h := hpx.1 h
                        injection h with h
                        exact hv (by rw [← h]; rfl)
                    · have hs1 : sEq x.k.t x.k.s ky.t ky.s = false := by rw [stamp_beq, decide_eq_false hk]
                      refine wpIn_region_rg (fun _ => none) fol (by kernel_rfl) (fun W1 hW hh => ?_)
                      clear hh
                      have q0 : ∀ w1, Below W1.heap.size W1 w1 → w1.cell? ⟨gr, pre.length * 3, none⟩ = _ := fun w1 h => below_cell (below_trans hW h) z0
                      have q1 : ∀ w1, Below W1.heap.size W1 w1 → w1.cell? ⟨gr, pre.length * 3 + 1, none⟩ = _ := fun w1 h => below_cell (below_trans hW h) z1
                      have q2 : ∀ w1, Below W1.heap.size W1 w1 → w1.cell? ⟨gr, pre.length * 3 + 2, none⟩ = _ := fun w1 h => below_cell (below_trans hW h) z2
                      have q3 : ∀ w1, Below W1.heap.size W1 w1 → w1.cell? ⟨B6, 0, none⟩ = some (.int .u64 x.k.t) := fun w1 h => below_cell (below_trans hW h) k0
                      have q4 : ∀ w1, Below W1.heap.size W1 w1 → w1.cell? ⟨B6, 1, none⟩ = some (.int .u64 x.k.s) := fun w1 h => below_cell (below_trans hW h) k1
                      have q5 : ∀ w1, Below W1.heap.size W1 w1 → w1.cell? ⟨(wU).heap.size, 0, none⟩ = _ := fun w1 h => below_cell (below_trans hW h) k2
                      have q6 : ∀ w1, Below W1.heap.size W1 w1 → w1.cell? ⟨wB.heap.size + 1, 0, none⟩ = _ := fun w1 h => below_cell (below_trans hW h) k6
                      repeat (first
                        | (refine lex_move _ (by first | exact Or.inl rfl | exact Or.inr rfl) rfl rfl ?_
                           simp only [Act.put, Act.eval, Array.getD_eq_getD_getElem?, List.getElem?_toArray, List.getElem?_cons_zero, List.getElem?_cons_succ, Option.getD_some, List.setIfInBounds_toArray, List.set_cons_succ, List.set_cons_zero]
                          )
                        | (refine lex_float ?_ rfl rfl (fun w1 hb1 hf1 => ?_) ?_
                           rotate_left
                           (go_simp; (try simp (disch := omega) only [IntWalk.i64_quo, IntWalk.rem_in, IntWalk.i64_in, IntWalk.u64_in, IntWalk.u32_in, IntWalk.u8_in, IntWalk.toNatUp, IntWalk.iteOmega]); (try go_simp); rfl)
                           simp only [Act.put, Act.eval, Array.getD_eq_getD_getElem?, List.getElem?_toArray, List.getElem?_cons_zero, List.getElem?_cons_succ, Option.getD_some, List.setIfInBounds_toArray, List.set_cons_succ, List.set_cons_zero]
                          )
                        | (refine lex_skip rfl ?_
                           simp only [Act.put, Act.eval, Array.getD_eq_getD_getElem?, List.getElem?_toArray, List.getElem?_cons_zero, List.getElem?_cons_succ, Option.getD_some, List.setIfInBounds_toArray, List.set_cons_succ, List.set_cons_zero]
                          ))
                      refine lex_nil ?_
                      clear q0 q1 q2 q3 q4 q5 q6
                      have m2 := below_heap hW h2
                      obtain ⟨k2, k3⟩ := heap1 m2
                      obtain ⟨k4, k5⟩ := heap1 (below_heap hW (below_heap hB1 gR))
                      gi_wp2_with fail
                      refine ⟨((keepsOthers_below hW).trans (KeepsOthers.setCell _ _ _)).from _, rfl, fun h => ?_⟩
                      have h := hpx.1 h
                      injection h with h
                      exact hk (by rw [← h])
                  · have hii : (nd : Int) ≤ (pre.length : Int) := by omega
                    refine wpIn_region_rg (fun _ => none) fol (by kernel_rfl) (fun W1 hW hh => ?_)
                    clear hh
                    have q5 : ∀ w1, Below W1.heap.size W1 w1 → w1.cell? ⟨(wU).heap.size, 0, none⟩ = _ := fun w1 h => below_cell (below_trans hW h) k2
                    have q6 : ∀ w1, Below W1.heap.size W1 w1 → w1.cell? ⟨wB.heap.size + 1, 0, none⟩ = _ := fun w1 h => below_cell (below_trans hW h) k6
                    repeat (first
                      | (refine lex_move _ (by first | exact Or.inl rfl | exact Or.inr rfl) rfl rfl ?_
                         simp only [Act.put, Act.eval, Array.getD_eq_getD_getElem?, List.getElem?_toArray, List.getElem?_cons_zero, List.getElem?_cons_succ, Option.getD_some, List.setIfInBounds_toArray, List.set_cons_succ, List.set_cons_zero]
                        )
                      | (refine lex_float ?_ rfl rfl (fun w1 hb1 hf1 => ?_) ?_
                         rotate_left
                         (go_simp; (try simp (disch := omega) only [IntWalk.i64_quo, IntWalk.rem_in, IntWalk.i64_in, IntWalk.u64_in, IntWalk.u32_in, IntWalk.u8_in, IntWalk.toNatUp, IntWalk.iteOmega]); (try go_simp); rfl)
                         simp only [Act.put, Act.eval, Array.getD_eq_getD_getElem?, List.getElem?_toArray, List.getElem?_cons_zero, List.getElem?_cons_succ, Option.getD_some, List.setIfInBounds_toArray, List.set_cons_succ, List.set_cons_zero]
                        )
                      | (refine lex_skip rfl ?_
                         simp only [Act.put, Act.eval, Array.getD_eq_getD_getElem?, List.getElem?_toArray, List.getElem?_cons_zero, List.getElem?_cons_succ, Option.getD_some, List.setIfInBounds_toArray, List.set_cons_succ, List.set_cons_zero]
                        ))
                    refine lex_nil ?_
                    clear q5 q6
                    have m2 := below_heap hW h2
                    obtain ⟨k2, k3⟩ := heap1 m2
                    obtain ⟨k4, k5⟩ := heap1 (below_heap hW (below_heap hB1 gR))
                    gi_wp2_with fail
                    refine ⟨((keepsOthers_below hW).trans (KeepsOthers.setCell _ _ _)).from _, rfl, fun h => ?_⟩
                    have h := hpx.1 h
                    rw [List.getElem?_eq_none (by rw [evs_length, HN.out.2.1]; omega)] at h
                    cases h
                case stop =>
                  rintro D1 c pre W hD1 hpre ⟨rfl, hn⟩ hK
                  exact absurd hpre hn
                case done =>
                  rintro D2 zs W2 hD2 hzs ⟨⟨h3, h4⟩, hB2⟩ hK2
                  replace hzs := hzs.symm
                  subst hzs
                  subst hA0
                  rw [evs_length, HN.out.2.1] at h4
                  have hlD1 := block_lt_of_heap hK1
                  have hDD : D1 < D2 := by omega
                  have hK1 := below_heap hB2 hK1
                  have h2 := below_heap hB2 h2
                  have HR := Lib.hid (HR.out.below hB2)
                  have s0 := below_cell hB2 s0
                  have s1 := below_cell hB2 s1
                  have hBk := hBh.trans (hB2.mono hBh.size)
                  have gR := below_heap hBk g1
                  have HK := Lib.hid (And.intro hK1 hK2)
                  clear h17 hx hs hBw hszI bR hBI h1 h3
                  obtain ⟨pg, en, th, hpg, hlen, hth, hPl⟩ := HPl.out W2 hBk
                  have HPl2 := Lib.hid hPl; clear hPl
                  have Hth := Lib.hid hth; clear hth
                  have Hlen := Lib.hid hlen; clear hlen
                  go_wp2_with fail
                  refine HPl2.out.mono ?_
                  rintro e w5 ⟨rfl, hb5⟩
                  have hBl := hBk.trans (hb5.mono hBk.size)
                  have HPg2 := Lib.hid (HPg.out w5 hBl)
                  go_wp2_with fail
                  refine HPg2.out.mono ?_
                  rintro e w6 ⟨vl, rfl, hol, hb6⟩
                  obtain ⟨al, cl, hvl, -⟩ := owns_shape hol
                  obtain ⟨nR, hnR⟩ : ∃ nR, R.length = nR := ⟨_, rfl⟩
                  rw [hnR] at hvl hpg hRR
                  subst hvl
                  have HnR := Lib.hid hnR; clear hnR
                  have Hol := Lib.hid hol; clear hol
                  have hb56 := below_trans hb5 hb6
                  have hBm := hBk.trans (hb56.mono hBk.size)
                  have HR := Lib.hid (HR.out.below hb56)
                  have gR := below_heap hb56 gR
                  have s0 := below_cell hb56 s0
                  have s1 := below_cell hb56 s1
                  have h2 := below_heap hb56 h2
                  have h4 := below_heap hb56 h4
                  have HK := Lib.hid (And.intro (below_heap hb56 HK.out.1) (below_heap hb56 HK.out.2))
                  go_wp2_with fail
                  go_loopw [24, 27] (fun vn vj wj => ∃ k : Nat, vj = .int .i64 k ∧ k ≤ pg ∧ vn = .int .i64 ((en + total (R.take k) : Nat) : Int) ∧ Below w6.heap.size w6 wj) (fun _ vj _ => pg - (intOf vj).toNat)
                  case atStart => exact ⟨0, rfl, by omega, by simp [total], Below.refl _ _⟩
                  case round =>
                    obtain ⟨k, rfl, hkl, rfl, hBn⟩ := hrel
                    have htk := total_le_of R k
                    have hlenb := Hlen.out
                    by_cases hk : k < pg
                    · have hkk : (k : Int) < (pg : Int) := by omega
                      have hkR : (k : Int) < (nR : Int) := by omega
                      have hkr : k < R.length := by rw [HnR.out]; omega
                      obtain ⟨gl, cl', e1, -, hgl, -, -, hcl, -⟩ := owns_parts Hol.out (by omega)
                      rw [HnR.out] at e1
                      injection e1 with e1 _ f1
                      subst e1 f1
                      have r1 := hcl k (by omega)
                      have e2 : (R.map fun p => Value.int .i64 (p.length : Int))[k]? = some (.int .i64 ((pageAt R k).length : Int)) := by simp [pageAt, hkr]
                      rw [e2] at r1
                      have r1 := below_cell hBn r1
                      have htj := total_take' hkr
                      have htk1 := total_le_of R (k + 1)
                      have Htj := Lib.hid htj
                      have hsum : en + total (R.take k) + (pageAt R k).length ≤ 1099511627 := by omega
                      clear hcl e2 htj hlenb htk htk1
                      generalize total (R.take k) = tk at Htj hsum
                      generalize (pageAt R k).length = pl at r1 Htj hsum
                      go_wp2_with fail
                      refine ⟨⟨k + 1, by simp, by omega, by rw [Htj.out]; simp; omega, hBn⟩, ?_⟩
                      show pg - (((k : Int) + 1).toNat) < pg - ((k : Int).toNat)
                      omega
                    · obtain rfl : k = pg := by omega
                      have hk0 : en + total (R.take k) + nu = j := by have := Hlen.out; rw [HN.out.1] at this; exact this
                      have hge : ¬ (k : Int) < (k : Int) := by omega
                      have Hk0 := Lib.hid hk0
                      have hle1 : en + total (R.take k) ≤ j := by omega
                      have hE3 := U.eql_stamp
                      have HR := Lib.hid (HR.out.below hBn)
                      have gR := below_heap hBn gR
                      obtain ⟨c0, c1⟩ := heap1 (below_heap hBn h2)
                      obtain ⟨c2, c3⟩ := heap1 (below_heap hBn h4)
                      obtain ⟨u0, u1⟩ := heap1 HR.out.bu
                      obtain ⟨d0, d1⟩ := heap1 HR.out.bd
                      have s0 := below_cell hBn s0
                      have s1 := below_cell hBn s1
                      have hBo := hBm.trans (hBn.mono hBm.size)
                      have HK := Lib.hid (And.intro (below_heap hBn HK.out.1) (below_heap hBn HK.out.2))
                      have hsub : IntKind.i64.wrap ((j : Int) - (nu : Int)) = (j : Int) - (nu : Int) := IntWalk.i64_in _ (by omega)
                      have heq : (((en + total (R.take k) : Nat) : Int) == (j : Int) - (nu : Int)) = true := by rw [beq_iff_eq]; omega
                      generalize en + total (R.take k) = nn at heq hle1 Hk0 ⊢
                      clear hk0
                      go_wp2_with fail
                      by_cases hz0 : nu = 0
                      · have hthf : th = false := by rw [Hth.out, HN.out.1, hz0]; rfl
                        subst hz0 hthf
                        have heq' : ((nn : Int) == (j : Int)) = true := by rw [beq_iff_eq] at heq ⊢; omega
                        clear heq hsub
                        refine wp_region_rg_tail 34 (fun _ => none) fol (by kernel_rfl) (fun W9 hW hh => ?_)
                        clear hh
                        have q0 : ∀ w1, Below W9.heap.size W9 w1 → w1.cell? ⟨wc.heap.size, 0, none⟩ = _ := fun w1 h => below_cell (below_trans hW h) c0
                        have q1 : ∀ w1, Below W9.heap.size W9 w1 → w1.cell? ⟨wU.heap.size, 0, none⟩ = _ := fun w1 h => below_cell (below_trans hW h) c2
                        have q2 : ∀ w1, Below W9.heap.size W9 w1 → w1.cell? ⟨wB.heap.size, 0, none⟩ = _ := fun w1 h => below_cell (below_trans hW h) u0
                        have q3 : ∀ w1, Below W9.heap.size W9 w1 → w1.cell? ⟨wB.heap.size + 1, 0, none⟩ = _ := fun w1 h => below_cell (below_trans hW h) d0
                        simp only [List.take_succ_cons, List.take_zero, List.drop_succ_cons, List.drop_zero]
                        repeat (first
                          | (refine lex_move _ (by first | exact Or.inl rfl | exact Or.inr rfl) rfl rfl ?_
                             simp only [Act.put, Act.eval, Array.getD_eq_getD_getElem?, List.getElem?_toArray, List.getElem?_cons_zero, List.getElem?_cons_succ, Option.getD_some, List.setIfInBounds_toArray, List.set_cons_succ, List.set_cons_zero]
                            )
                          | (refine lex_float ?_ rfl rfl (fun w1 hb1 hf1 => ?_) ?_
                             rotate_left
                             (go_simp; (try simp (disch := omega) only [IntWalk.i64_quo, IntWalk.rem_in, IntWalk.i64_in, IntWalk.u64_in, IntWalk.u32_in, IntWalk.u8_in, IntWalk.toNatUp, IntWalk.iteOmega]); (try go_simp); rfl)
                             simp only [Act.put, Act.eval, Array.getD_eq_getD_getElem?, List.getElem?_toArray, List.getElem?_cons_zero, List.getElem?_cons_succ, Option.getD_some, List.setIfInBounds_toArray, List.set_cons_succ, List.set_cons_zero]
                            )
                          | (refine lex_skip rfl ?_
                             simp only [Act.put, Act.eval, Array.getD_eq_getD_getElem?, List.getElem?_toArray, List.getElem?_cons_zero, List.getElem?_cons_succ, Option.getD_some, List.setIfInBounds_toArray, List.set_cons_succ, List.set_cons_zero]
                            ))
                        refine lex_nil ?_
                        clear q0 q1 q2 q3
                        have m6 := below_heap hW gR
                        obtain ⟨c4, c5⟩ := heap1 m6
                        go_wp2_with fail
                        have hKa := (KeepsOthers.setCell W9 ⟨w.heap.size + 1, 0, none⟩ (.bool true)).same D2 _ (below_heap hW HK.out.2) rfl
                        have hKb := (KeepsOthers.setCell W9 ⟨w.heap.size + 1, 0, none⟩ (.bool true)).same D1 _ (below_heap hW HK.out.1) rfl
                        have hfin := heap1_set (.bool true) m6
                        refine ⟨by simp, .inl ⟨_, _, rfl, run_takeDeferred hKa, ?_⟩⟩
                        have hKc := (World.putObj_heap_other (o := .deferred none) (w := W9.setCell ⟨w.heap.size + 1, 0, none⟩ (.bool true)) (show D1 ≠ D2 by omega)).trans hKb
                        refine ⟨by simp, .inl ⟨_, _, rfl, run_takeDeferred hKc, ?_⟩⟩
                        obtain ⟨f1, -⟩ := heap1 (heap_put (.deferred none) (heap_put (.deferred none) hfin rfl hKa rfl) rfl hKc rfl)
                        have hBz := ((hB.trans (hBo.mono hwB)).trans (hW.mono (Nat.le_trans hwB hBo.size))).setCell (p := ⟨w.heap.size + 1, 0, none⟩) (by simp) (.bool true)
                        refine ⟨.bool true, ?_, rfl, (hBz.trans (belowK_b (w := w) (Nat.le_refl _) _ D2 _ _ (by omega) hKa rfl rfl)).trans (belowK_b (w := w) (Nat.le_refl _) _ D1 _ _ (by omega) hKc rfl rfl)⟩
                        simp [results, Try.f8, go_sem, f1]
                      · have hz : (0 : Int) < (nu : Int) := by omega
                        have hzn : 0 < nu := by omega
                        have hz' : 0 < ups.length := by rw [HN.out.1]; omega
                        obtain ⟨gr, cr, e1, -, hgr, -⟩ := owns_parts HR.out.ru hz'
                        rw [HN.out.1] at e1
                        injection e1 with e1 _ f1
                        subst e1 f1
                        have hrw := HR.out.ru
                        rw [HN.out.1] at hrw
                        obtain ⟨z0, z1, z2⟩ := book_cells (i := 0) hrw hz'
                        obtain ⟨h1', h2'⟩ := hd_ent hz'
                        rw [← h1'] at z0 z1
                        simp only [Nat.zero_mul, Nat.zero_add] at z0 z1
                        have hthe : th = sEq (hdK ups).t (hdK ups).s s.t s.s := by rw [stamp_beq, Hth.out, decide_eq_true hz', Bool.true_and]
                        subst hthe
                        clear hrw z2 h1' h2' hz0
                        refine wp_region_rg_tail 34 (fun _ => none) fol (by kernel_rfl) (fun W9 hW hh => ?_)
                        clear hh
                        have q0 : ∀ w1, Below W9.heap.size W9 w1 → w1.cell? ⟨wc.heap.size, 0, none⟩ = _ := fun w1 h => below_cell (below_trans hW h) c0
                        have q1 : ∀ w1, Below W9.heap.size W9 w1 → w1.cell? ⟨wU.heap.size, 0, none⟩ = _ := fun w1 h => below_cell (below_trans hW h) c2
                        have q2 : ∀ w1, Below W9.heap.size W9 w1 → w1.cell? ⟨wB.heap.size, 0, none⟩ = _ := fun w1 h => below_cell (below_trans hW h) u0
                        have q3 : ∀ w1, Below W9.heap.size W9 w1 → w1.cell? ⟨wB.heap.size + 1, 0, none⟩ = _ := fun w1 h => below_cell (below_trans hW h) d0
                        simp only [List.take_succ_cons, List.take_zero, List.drop_succ_cons, List.drop_zero]
                        have q4 : ∀ w1, Below W9.heap.size W9 w1 → w1.cell? ⟨gr, 0, none⟩ = _ := fun w1 h => below_cell (below_trans hW h) z0
                        have q5 : ∀ w1, Below W9.heap.size W9 w1 → w1.cell? ⟨gr, 1, none⟩ = _ := fun w1 h => below_cell (below_trans hW h) z1
                        have q6 : ∀ w1, Below W9.heap.size W9 w1 → w1.cell? ⟨w.heap.size, 0, none⟩ = _ := fun w1 h => below_cell (below_trans hW h) s0
                        have q7 : ∀ w1, Below W9.heap.size W9 w1 → w1.cell? ⟨w.heap.size, 1, none⟩ = _ := fun w1 h => below_cell (below_trans hW h) s1
                        repeat (first
                          | (refine lex_move _ (by first | exact Or.inl rfl | exact Or.inr rfl) rfl rfl ?_
                             simp only [Act.put, Act.eval, Array.getD_eq_getD_getElem?, List.getElem?_toArray, List.getElem?_cons_zero, List.getElem?_cons_succ, Option.getD_some, List.setIfInBounds_toArray, List.set_cons_succ, List.set_cons_zero]
                            )
                          | (refine lex_float ?_ rfl rfl (fun w1 hb1 hf1 => ?_) ?_
                             rotate_left
                             (go_simp; (try simp (disch := omega) only [IntWalk.i64_quo, IntWalk.rem_in, IntWalk.i64_in, IntWalk.u64_in, IntWalk.u32_in, IntWalk.u8_in, IntWalk.toNatUp, IntWalk.iteOmega]); (try go_simp); rfl)
                             simp only [Act.put, Act.eval, Array.getD_eq_getD_getElem?, List.getElem?_toArray, List.getElem?_cons_zero, List.getElem?_cons_succ, Option.getD_some, List.setIfInBounds_toArray, List.set_cons_succ, List.set_cons_zero]
                            )
                          | (refine lex_skip rfl ?_
                             simp only [Act.put, Act.eval, Array.getD_eq_getD_getElem?, List.getElem?_toArray, List.getElem?_cons_zero, List.getElem?_cons_succ, Option.getD_some, List.setIfInBounds_toArray, List.set_cons_succ, List.set_cons_zero]
                            ))
                        refine lex_nil ?_
                        clear q0 q1 q2 q3 q4 q5 q6 q7
                        have m6 := below_heap hW gR
                        obtain ⟨c4, c5⟩ := heap1 m6
                        go_wp2_with fail
                        have hKa := (KeepsOthers.setCell W9 ⟨w.heap.size + 1, 0, none⟩ (.bool true)).same D2 _ (below_heap hW HK.out.2) rfl
                        have hKb := (KeepsOthers.setCell W9 ⟨w.heap.size + 1, 0, none⟩ (.bool true)).same D1 _ (below_heap hW HK.out.1) rfl
                        have hfin := heap1_set (.bool true) m6
                        refine ⟨by simp, .inl ⟨_, _, rfl, run_takeDeferred hKa, ?_⟩⟩
                        have hKc := (World.putObj_heap_other (o := .deferred none) (w := W9.setCell ⟨w.heap.size + 1, 0, none⟩ (.bool true)) (show D1 ≠ D2 by omega)).trans hKb
                        refine ⟨by simp, .inl ⟨_, _, rfl, run_takeDeferred hKc, ?_⟩⟩
                        obtain ⟨f1, -⟩ := heap1 (heap_put (.deferred none) (heap_put (.deferred none) hfin rfl hKa rfl) rfl hKc rfl)
                        have hBz := ((hB.trans (hBo.mono hwB)).trans (hW.mono (Nat.le_trans hwB hBo.size))).setCell (p := ⟨w.heap.size + 1, 0, none⟩) (by simp) (.bool true)
                        refine ⟨.bool true, ?_, rfl, (hBz.trans (belowK_b (w := w) (Nat.le_refl _) _ D2 _ _ (by omega) hKa rfl rfl)).trans (belowK_b (w := w) (Nat.le_refl _) _ D1 _ _ (by omega) hKc rfl rfl)⟩
                        simp [results, Try.f8, go_sem, f1]
end Go.Proofs.Ytagcohpghgnalaa.SO
