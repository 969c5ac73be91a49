/-
  PagesTwo: two scripts in turns, each on two indexes: the walk.
-/
import Derived.Test.YtagcohpghgnalaaCQF
import Derived.Test.YtagcohpghgnalaaCRQ
set_option linter.unusedSimpArgs false
set_option linter.unusedVariables false
namespace Go.Proofs.Ytagcohpghgnalaa.QA
open Go.RowKit Go.RG Go.Hp Go.Pg Go.Proofs.Ytagcohpghgnalaa Go.Proofs.Ytagcohpghgnalaa.RF Go.Proofs.Ytagcohpghgnalaa.U Go.Proofs.Ytagcohpghgnalaa.LB Go.Proofs.Ytagcohpghgnalaa.BK


theorem DGood.more {size : Nat} {d : Dx} {i j : Nat} (h : DGood size d i) (hij : i ≤ j) : DGood size d j := by
  cases d with
  | none => trivial
  | some R => exact ⟨h.1, h.2.1, h.2.2.1, h.2.2.2.1, Nat.le_trans h.2.2.2.2 hij⟩
theorem Twin.more {size i j : Nat} {p q : Option Addr} {d : Dx} {Z : Nat → Prop} {w : World} (h : Twin size p q d i Z w) (hij : i ≤ j) : Twin size p q d j Z w := ⟨h.1.more hij, h.2⟩
theorem OpsAt.below {w w' : World} {a : Option Addr} {n : Nat} {ops : Nat → Opd} (h : OpsAt w a n ops) (hb : Below w.heap.size w w') : OpsAt w' a n ops := fun i hi => by
  obtain ⟨pb, po, h, h0, h1, h2, h3⟩ := h i hi
  exact ⟨pb, po, h, below_cell hb h0, below_cell hb h1, below_cell hb h2, below_cell hb h3⟩

/-- between the program's answer and the document's -/
def AskMid (size : Nat) (p q : Option Addr) (d : Dx) (o : Opd) (i : Nat) (Z : Nat → Prop) (X : World) : RG.Spec := fun u w1 =>
  ∃ Z', (∃ a n c, u = .slice a n c) ∧ Half size p q d o i u Z' w1 ∧ Ext Z X w1 ∧ ∀ k, Z' k → (Z k ∨ X.heap.size ≤ k) ∧ k < w1.heap.size
theorem half_slice {size i : Nat} {p q : Option Addr} {d : Dx} {o : Opd} {v : Value} {Z : Nat → Prop} {w : World} (h : Half size p q d o i v Z w) : ∃ a n c, v = .slice a n c := by
  obtain ⟨-, _, _, _, -, -, -, -, hn1, -⟩ := h
  obtain ⟨a, c, h, -⟩ := owns_shape hn1
  exact ⟨a, _, c, h⟩
theorem mid_of {size i : Nat} {p q : Option Addr} {d : Dx} {o : Opd} {Z : Nat → Prop} {X W w1 : World} (hW : Below X.heap.size X W) {e : Ending} (h : HalfPost size p q d o i Z W e w1) : ∃ v, e = .returned v ∧ AskMid size p q d o i Z X v w1 := by
  obtain ⟨v, Z', rfl, hH, hX, hZ⟩ := h
  have := hW.size
  exact ⟨v, rfl, Z', half_slice hH, hH, (Ext.of_below hW).trans hX fun k _ h => h, fun k hk => ⟨(hZ k hk).1.imp id fun h => by omega, (hZ k hk).2⟩⟩

/-- two pairs of indexes, apart from each other, in blocks behind B -/
structure Fours (B : Nat) (s1 s2 : Nat) (p1 q1 p2 q2 : Option Addr) (d1 d2 : Dx) (i j : Nat) (Z1 Z2 : Nat → Prop) (w : World) : Prop where
  one : Twin s1 p1 q1 d1 i Z1 w
  two : Twin s2 p2 q2 d2 j Z2 w
  off : ∀ k, Z1 k → ¬ Z2 k
  z1 : ∀ k, Z1 k → B ≤ k ∧ k < w.heap.size
  z2 : ∀ k, Z2 k → B ≤ k ∧ k < w.heap.size
theorem Fours.swap {B s1 s2 i j : Nat} {p1 q1 p2 q2 : Option Addr} {d1 d2 : Dx} {Z1 Z2 : Nat → Prop} {w : World} (h : Fours B s1 s2 p1 q1 p2 q2 d1 d2 i j Z1 Z2 w) : Fours B s2 s1 p2 q2 p1 q1 d2 d1 j i Z2 Z1 w :=
  ⟨h.two, h.one, fun k h2 h1 => h.off k h1 h2, h.z2, h.z1⟩
theorem Fours.below {B s1 s2 i j : Nat} {p1 q1 p2 q2 : Option Addr} {d1 d2 : Dx} {Z1 Z2 : Nat → Prop} {w w' : World} (h : Fours B s1 s2 p1 q1 p2 q2 d1 d2 i j Z1 Z2 w) (hb : Below w.heap.size w w') : Fours B s1 s2 p1 q1 p2 q2 d1 d2 i j Z1 Z2 w' :=
  ⟨h.one.below hb, h.two.below hb, h.off, fun k hk => ⟨(h.z1 k hk).1, Nat.lt_of_lt_of_le (h.z1 k hk).2 hb.size⟩, fun k hk => ⟨(h.z2 k hk).1, Nat.lt_of_lt_of_le (h.z2 k hk).2 hb.size⟩⟩
/-- what the document's answer leaves, behind the program's -/
def FoursPost (B s1 s2 : Nat) (p1 q1 p2 q2 : Option Addr) (d1 d2 : Dx) (o : Opd) (i j : Nat) (v : Value) (Z2 : Nat → Prop) (X : World) (e : Ending) (w' : World) : Prop :=
  ∃ v' Z' b b', e = .returned v' ∧ (∃ a n c, v' = .slice a n c) ∧ NumsAt b w' v (ansD d1 o) ∧ NumsAt b' w' v' (ansD d1 o) ∧ Fours B s1 s2 p1 q1 p2 q2 (stepD s1 d1 o) d2 (i + 1) j Z' Z2 w' ∧ Below B X w'
theorem fours_doc {B s1 s2 i j : Nat} {p1 q1 p2 q2 : Option Addr} {d1 d2 : Dx} {Z1 Z2 Za : Nat → Prop} {X : World} (h : Fours B s1 s2 p1 q1 p2 q2 d1 d2 i j Z1 Z2 X) (hB : B ≤ X.heap.size) {o : Opd} {u : Value} {w1 : World} (hX1 : Ext Z1 X w1)
    (hZa : ∀ k, Za k → (Z1 k ∨ X.heap.size ≤ k) ∧ k < w1.heap.size) {e : Ending} {w2 : World} (hb : BothPost s1 p1 q1 d1 o i u Za w1 e w2) : FoursPost B s1 s2 p1 q1 p2 q2 d1 d2 o i j u Z2 X e w2 := by
  obtain ⟨v', Z', b, b', rfl, hn, hn', hT, hX2, hZ'⟩ := hb
  have s1' := hX1.size
  have s2' := hX2.size
  have e2 := (h.two.ext hX1 fun k h2 h1 => h.off k h1 h2).ext hX2 fun k h2 ha => by
    rcases (hZa k ha).1 with h1 | h1
    · exact h.off k h1 h2
    · have := (h.z2 k h2).2; omega
  have hzz : ∀ k, Z' k → Z1 k ∨ X.heap.size ≤ k := fun k hk => by
    rcases (hZ' k hk).1 with h1 | h1
    · exact (hZa k h1).1
    · exact Or.inr (by omega)
  refine ⟨v', Z', b, b', rfl, ?_, hn, hn', ⟨hT, e2, fun k hk h2 => ?_, fun k hk => ⟨?_, (hZ' k hk).2⟩, fun k hk => ⟨(h.z2 k hk).1, by have := (h.z2 k hk).2; omega⟩⟩, ?_⟩
  · obtain ⟨a, c, h, -⟩ := owns_shape hn'
    exact ⟨a, _, c, h⟩
  · rcases hzz k hk with h1 | h1
    · exact h.off k h1 h2
    · have := (h.z2 k h2).2; omega
  · rcases hzz k hk with h1 | h1
    · exact (h.z1 k h1).1
    · omega
  · refine (hX1.to_belowAt hB fun k hk h1 => by have := (h.z1 k h1).1; omega).trans (hX2.to_belowAt (by omega) fun k hk ha => ?_)
    rcases (hZa k ha).1 with h1 | h1
    · have := (h.z1 k h1).1; omega
    · omega

-- args: 1 box, 2 count, 3 ops, 4 hok, 5 Ho, 6 h, 7 the box's fact, 8 cap, 9 AskMid, A world, B its Below, C Fours, D its size, E the world behind, F its Fours, G its Below
-- args: 1 box, 2 the box's fact, A world, B below, C Fours, E world behind, F its Fours, G its Below

set_option maxHeartbeats 2000000 in
set_option maxRecDepth 100000 in
theorem two_law (sz sz' : Int) (a a' : Option Addr) (n n' cap cap' : Nat) (hn : n ≤ 1048576) (hn' : n' ≤ 1048576) (ops ops' : Nat → Opd) (hok : ∀ i, i < n → OpOk (ops i)) (hok' : ∀ i, i < n' → OpOk (ops' i)) (w : World) (ho : OpsAt w a n ops) (ho' : OpsAt w a' n' ops') :
    Calls Try.prog 14 #[.agg #[.int .i64 sz, .slice a n cap], .agg #[.int .i64 sz', .slice a' n' cap']] w fun e w' => e = .returned (.bool true) ∧ Below w.heap.size w w' := by
  have Ho := Lib.hid ho; clear ho
  have Ho' := Lib.hid ho'; clear ho'
  have H1 := Lib.hid begin_any
  go_enter Try.func14, Try.ntmps14
  go_wp2_with fail
  have hB0 : Below w.heap.size w ((w.alloc (.cells #[.int .i64 sz, .slice a n cap] 69)).alloc (.cells #[.int .i64 sz', .slice a' n' cap'] 69)) := (below_box w _).alloc (by simp) _
  have y1 : ((w.alloc (.cells #[.int .i64 sz, .slice a n cap] 69)).alloc (.cells #[.int .i64 sz', .slice a' n' cap'] 69)).cell? ⟨w.heap.size, 1, none⟩ = some (.slice a n cap) := by simp
  have y2 : ((w.alloc (.cells #[.int .i64 sz, .slice a n cap] 69)).alloc (.cells #[.int .i64 sz', .slice a' n' cap'] 69)).cell? ⟨w.heap.size + 1, 1, none⟩ = some (.slice a' n' cap') := by simp
  have y3 : ((w.alloc (.cells #[.int .i64 sz, .slice a n cap] 69)).alloc (.cells #[.int .i64 sz', .slice a' n' cap'] 69)).cell? ⟨w.heap.size + 1, 0, none⟩ = some (.int .i64 sz') := by simp
  have hs0 : w.heap.size + 2 ≤ ((w.alloc (.cells #[.int .i64 sz, .slice a n cap] 69)).alloc (.cells #[.int .i64 sz', .slice a' n' cap'] 69)).heap.size := by simp
  generalize (w.alloc (.cells #[.int .i64 sz, .slice a n cap] 69)).alloc (.cells #[.int .i64 sz', .slice a' n' cap'] 69) = w0 at hB0 y1 y2 y3 hs0 ⊢
  refine (H1.out _ _).mono ?_
  rintro e w1 ⟨p1, q1, s1, d1, Z1, rfl, hT1, hZ1, hB1⟩
  have y1 := below_cell hB1 y1
  have y2 := below_cell hB1 y2
  have y3 := below_cell hB1 y3
  go_wp2_with fail
  refine (H1.out _ _).mono ?_
  rintro e w2 ⟨p2, q2, s2, d2, Z2, rfl, hT2, hZ2, hB2⟩
  have x1 := below_cell hB2 y1
  have x2 := below_cell hB2 y2
  have z1 := hB1.size
  have z2 := hB2.size
  have hF0 : Fours (w.heap.size + 2) s1 s2 p1 q1 p2 q2 d1 d2 0 0 Z1 Z2 w2 := ⟨hT1.below hB2, hT2, fun k h1 h2 => by have := (hZ1 k h1).2; have := (hZ2 k h2).1; omega, fun k h => by have := hZ1 k h; omega, fun k h => by have := hZ2 k h; omega⟩
  have hB3 := (hB0.trans (hB1.mono hB0.size)).trans (hB2.mono (by have := hB0.size; omega))
  clear y1 y2 y3 hT1 hT2
  go_wp2_with fail
  go_loopw [11] (fun vi wr => ∃ (i : Nat) (e1 e2 : Dx) (Z1 Z2 : Nat → Prop), vi = .int .i64 i ∧ (i ≤ n ∨ i ≤ n') ∧ Fours (w.heap.size + 2) s1 s2 p1 q1 p2 q2 e1 e2 i i Z1 Z2 wr ∧ wr.cell? ⟨w.heap.size, 1, none⟩ = some (.slice a n cap) ∧ wr.cell? ⟨w.heap.size + 1, 1, none⟩ = some (.slice a' n' cap') ∧ Below w.heap.size w wr ∧ w.heap.size + 2 ≤ wr.heap.size)
    (fun vi _ => max n n' - (intOf vi).toNat)
  case atStart => exact ⟨0, d1, d2, Z1, Z2, rfl, by omega, hF0, x1, x2, hB3, by omega⟩
  case round =>
    obtain ⟨i, e1, e2, Za, Zb, rfl, hin, hF, x3, x4, hB, hsr⟩ := hrel
    clear x1 x2 hB3 hF0 hZ1 hZ2 hB1 hB2
    by_cases h1 : i < n
    · have t1 : (i : Int) < (n : Int) := by omega
      go_wp2_with fail
      obtain ⟨pb, po, hpa, p0, p1', p2', p3'⟩ := Ho.out i h1
      have hpl : pb < w.heap.size := World.block_lt_of_cell? w _ p0
      have o0 := below_cell hB p0
      have o1 := below_cell hB p1'
      have o2 := below_cell hB p2'
      have o3 := below_cell hB p3'
      have y1 := x3
      rw [hpa] at y1
      clear hpa
      clear p0 p1' p2' p3'
      have HAW := fun (W : World) (hW : Below (wr).heap.size wr W) => twin_ask (hF.one.below hW) (by omega) (ops i) (hok i h1)
      unfold agg at HAW
      have HA := Lib.hid HAW; clear HAW
      refine wp_region_seq 19 [12] (fun w' => w'.cell? ⟨w.heap.size, 1, none⟩ = some (.slice (some ⟨pb, po, none⟩) n cap) ∧ w'.cell? ⟨pb, po + i * 4, none⟩ = some (.int .i64 (ops i).kind) ∧ w'.cell? ⟨pb, po + i * 4 + 1, none⟩ = some (.int .u64 (ops i).s.t) ∧ w'.cell? ⟨pb, po + i * 4 + 2, none⟩ = some (.int .u64 (ops i).s.s) ∧ w'.cell? ⟨pb, po + i * 4 + 3, none⟩ = some (.int .u64 (ops i).v))
        (fun _ => AskMid s1 p1 q1 e1 (ops i) i Za wr) fol (by kernel_rfl) (fun W hW hh => ⟨⟨below_cell hW y1, below_cell hW o0, below_cell hW o1, below_cell hW o2, below_cell hW o3⟩, ?_⟩)
      clear hh
      simp only [List.take_succ_cons, List.take_zero, List.drop_succ_cons, List.drop_zero]
      repeat (first
        | (refine rq_move _ (by first | exact Or.inl rfl | exact Or.inr rfl) rfl rfl ?_
           simp only [Act.put, Act.eval, Array.getD_eq_getD_getElem?, List.getElem?_toArray, List.getElem?_cons_zero, List.getElem?_cons_succ, Option.getD_some, List.setIfInBounds_toArray, List.set_cons_succ, List.set_cons_zero]
          )
        | (refine rq_big ?_ rfl rfl (fun w1 hcb1 => ?_) ?_
           rotate_left
           ((try obtain ⟨hcb1, hcb2, hcb3⟩ := hcb1); go_simp; (try simp (disch := omega) only [IntWalk.i64_quo, IntWalk.rem_in, IntWalk.i64_in, IntWalk.u64_in, IntWalk.u32_in, IntWalk.u8_in, IntWalk.toNatUp, IntWalk.iteOmega]); (try go_simp); rfl)
           simp only [Act.put, Act.eval, Array.getD_eq_getD_getElem?, List.getElem?_toArray, List.getElem?_cons_zero, List.getElem?_cons_succ, Option.getD_some, List.setIfInBounds_toArray, List.set_cons_succ, List.set_cons_zero]
          )
        | (refine rq_skip rfl rfl ?_
           simp only [Act.put, Act.eval, Array.getD_eq_getD_getElem?, List.getElem?_toArray, List.getElem?_cons_zero, List.getElem?_cons_succ, Option.getD_some, List.setIfInBounds_toArray, List.set_cons_succ, List.set_cons_zero]
          ))
      refine rq_late _ rfl rfl ?_ ?_
      · (unfold makes; go_simp; simp only [makesUpon])
        refine (HA.out W hW).mono ?_
        rintro e w1 hP
        obtain ⟨v, rfl, hm⟩ := mid_of hW hP
        obtain ⟨Zq, hu, hH, hX1, hZq⟩ := hm
        have nb : ∀ k, k < w.heap.size + 2 → ¬ _ := fun k hk h => by have := (hF.z1 k h).1; omega
        exact ⟨_, rfl, ⟨hX1.cell_some y1 (nb _ (by simp)), hX1.cell_some o0 (nb _ (by show pb < _; omega)), hX1.cell_some o1 (nb _ (by show pb < _; omega)), hX1.cell_some o2 (nb _ (by show pb < _; omega)), hX1.cell_some o3 (nb _ (by show pb < _; omega))⟩, ⟨Zq, hu, hH, hX1, hZq⟩⟩
      rintro u w1 ⟨y2, v0, v1, v2, v3⟩ ⟨Zq, ⟨a1, n1, c1, rfl⟩, hH, hX1, hZq⟩
      simp only [Act.put, Act.eval, Array.getD_eq_getD_getElem?, List.getElem?_toArray, List.getElem?_cons_zero, List.getElem?_cons_succ, Option.getD_some, List.setIfInBounds_toArray, List.set_cons_succ, List.set_cons_zero]
      repeat (first
        | (refine rq_move _ (by first | exact Or.inl rfl | exact Or.inr rfl) rfl rfl ?_
           simp only [Act.put, Act.eval, Array.getD_eq_getD_getElem?, List.getElem?_toArray, List.getElem?_cons_zero, List.getElem?_cons_succ, Option.getD_some, List.setIfInBounds_toArray, List.set_cons_succ, List.set_cons_zero]
          )
        | (refine rq_big ?_ rfl rfl (fun w1 hcb1 => ?_) ?_
           rotate_left
           ((try obtain ⟨hcb1, hcb2, hcb3⟩ := hcb1); go_simp; (try simp (disch := omega) only [IntWalk.i64_quo, IntWalk.rem_in, IntWalk.i64_in, IntWalk.u64_in, IntWalk.u32_in, IntWalk.u8_in, IntWalk.toNatUp, IntWalk.iteOmega]); (try go_simp); rfl)
           simp only [Act.put, Act.eval, Array.getD_eq_getD_getElem?, List.getElem?_toArray, List.getElem?_cons_zero, List.getElem?_cons_succ, Option.getD_some, List.setIfInBounds_toArray, List.set_cons_succ, List.set_cons_zero]
          )
        | (refine rq_skip rfl rfl ?_
           simp only [Act.put, Act.eval, Array.getD_eq_getD_getElem?, List.getElem?_toArray, List.getElem?_cons_zero, List.getElem?_cons_succ, Option.getD_some, List.setIfInBounds_toArray, List.set_cons_succ, List.set_cons_zero]
          ))
      refine rq_nil ?_
      have HD := half_doc hH (by omega) (hok i h1)
      unfold agg at HD
      have HD' := Lib.hid (And.intro HD (And.intro hX1 hZq))
      clear HD hX1 hZq hH y1 y2 o0 o1 o2 o3 v0 v1 v2 v3
      go_wp2_with fail
      refine HD'.out.1.mono ?_
      rintro e w2 hP
      obtain ⟨v', Z', b, b', rfl, ⟨a2, n2, c2, rfl⟩, hn1, hn2, hFq, hB2⟩ := fours_doc hF hsr HD'.out.2.1 HD'.out.2.2 hP
      have HS := Lib.hid (same_any b b' _ _ _ (ans_len hF.one.1 (by omega) (ops i)) w2 hn1 hn2)
      clear hn1 hn2 hP
      go_wp2_with fail
      refine HS.out.mono ?_
      rintro e wq ⟨rfl, hB3⟩
      replace hFq := hFq.below hB3
      have hs2 := hB2.size
      have x3 := below_cell hB3 ((hB2.cell (p := ⟨w.heap.size, 1, none⟩) (by simp)).trans x3)
      have x4 := below_cell hB3 ((hB2.cell (p := ⟨w.heap.size + 1, 1, none⟩) (by simp)).trans x4)
      have hBq := (hB.trans (hB2.mono (by omega))).trans (hB3.mono (by omega))
      have hs3 := hB3.size
      clear hB2 hB3 HS HD' HA
      have hsq : w.heap.size + 2 ≤ wq.heap.size := by omega
      have hFs := hFq.swap
      by_cases h2 : i < n'
      · have t2 : (i : Int) < (n' : Int) := by omega
        go_wp2_with fail
        obtain ⟨pb, po, hpa, p0, p1', p2', p3'⟩ := Ho'.out i h2
        have hpl : pb < w.heap.size := World.block_lt_of_cell? w _ p0
        have o0 := below_cell hBq p0
        have o1 := below_cell hBq p1'
        have o2 := below_cell hBq p2'
        have o3 := below_cell hBq p3'
        have y1 := x4
        rw [hpa] at y1
        clear hpa
        clear p0 p1' p2' p3'
        have HAW := fun (W : World) (hW : Below (wq).heap.size wq W) => twin_ask (hFs.one.below hW) (by omega) (ops' i) (hok' i h2)
        unfold agg at HAW
        have HA := Lib.hid HAW; clear HAW
        refine wp_region_seq 19 [12] (fun w' => w'.cell? ⟨w.heap.size + 1, 1, none⟩ = some (.slice (some ⟨pb, po, none⟩) n' cap') ∧ w'.cell? ⟨pb, po + i * 4, none⟩ = some (.int .i64 (ops' i).kind) ∧ w'.cell? ⟨pb, po + i * 4 + 1, none⟩ = some (.int .u64 (ops' i).s.t) ∧ w'.cell? ⟨pb, po + i * 4 + 2, none⟩ = some (.int .u64 (ops' i).s.s) ∧ w'.cell? ⟨pb, po + i * 4 + 3, none⟩ = some (.int .u64 (ops' i).v))
          (fun _ => AskMid s2 p2 q2 e2 (ops' i) i Zb wq) fol (by kernel_rfl) (fun W hW hh => ⟨⟨below_cell hW y1, below_cell hW o0, below_cell hW o1, below_cell hW o2, below_cell hW o3⟩, ?_⟩)
        clear hh
        simp only [List.take_succ_cons, List.take_zero, List.drop_succ_cons, List.drop_zero]
        repeat (first
          | (refine rq_move _ (by first | exact Or.inl rfl | exact Or.inr rfl) rfl rfl ?_
             simp only [Act.put, Act.eval, Array.getD_eq_getD_getElem?, List.getElem?_toArray, List.getElem?_cons_zero, List.getElem?_cons_succ, Option.getD_some, List.setIfInBounds_toArray, List.set_cons_succ, List.set_cons_zero]
            )
          | (refine rq_big ?_ rfl rfl (fun w1 hcb1 => ?_) ?_
             rotate_left
             ((try obtain ⟨hcb1, hcb2, hcb3⟩ := hcb1); go_simp; (try simp (disch := omega) only [IntWalk.i64_quo, IntWalk.rem_in, IntWalk.i64_in, IntWalk.u64_in, IntWalk.u32_in, IntWalk.u8_in, IntWalk.toNatUp, IntWalk.iteOmega]); (try go_simp); rfl)
             simp only [Act.put, Act.eval, Array.getD_eq_getD_getElem?, List.getElem?_toArray, List.getElem?_cons_zero, List.getElem?_cons_succ, Option.getD_some, List.setIfInBounds_toArray, List.set_cons_succ, List.set_cons_zero]
            )
          | (refine rq_skip rfl rfl ?_
             simp only [Act.put, Act.eval, Array.getD_eq_getD_getElem?, List.getElem?_toArray, List.getElem?_cons_zero, List.getElem?_cons_succ, Option.getD_some, List.setIfInBounds_toArray, List.set_cons_succ, List.set_cons_zero]
            ))
        refine rq_late _ rfl rfl ?_ ?_
        · (unfold makes; go_simp; simp only [makesUpon])
          refine (HA.out W hW).mono ?_
          rintro e w1 hP
          obtain ⟨v, rfl, hm⟩ := mid_of hW hP
          obtain ⟨Zq, hu, hH, hX1, hZq⟩ := hm
          have nb : ∀ k, k < w.heap.size + 2 → ¬ _ := fun k hk h => by have := (hFs.z1 k h).1; omega
          exact ⟨_, rfl, ⟨hX1.cell_some y1 (nb _ (by simp)), hX1.cell_some o0 (nb _ (by show pb < _; omega)), hX1.cell_some o1 (nb _ (by show pb < _; omega)), hX1.cell_some o2 (nb _ (by show pb < _; omega)), hX1.cell_some o3 (nb _ (by show pb < _; omega))⟩, ⟨Zq, hu, hH, hX1, hZq⟩⟩
        rintro u w1 ⟨y2, v0, v1, v2, v3⟩ ⟨Zq, ⟨a1, n1, c1, rfl⟩, hH, hX1, hZq⟩
        simp only [Act.put, Act.eval, Array.getD_eq_getD_getElem?, List.getElem?_toArray, List.getElem?_cons_zero, List.getElem?_cons_succ, Option.getD_some, List.setIfInBounds_toArray, List.set_cons_succ, List.set_cons_zero]
        repeat (first
          | (refine rq_move _ (by first | exact Or.inl rfl | exact Or.inr rfl) rfl rfl ?_
             simp only [Act.put, Act.eval, Array.getD_eq_getD_getElem?, List.getElem?_toArray, List.getElem?_cons_zero, List.getElem?_cons_succ, Option.getD_some, List.setIfInBounds_toArray, List.set_cons_succ, List.set_cons_zero]
            )
          | (refine rq_big ?_ rfl rfl (fun w1 hcb1 => ?_) ?_
             rotate_left
             ((try obtain ⟨hcb1, hcb2, hcb3⟩ := hcb1); go_simp; (try simp (disch := omega) only [IntWalk.i64_quo, IntWalk.rem_in, IntWalk.i64_in, IntWalk.u64_in, IntWalk.u32_in, IntWalk.u8_in, IntWalk.toNatUp, IntWalk.iteOmega]); (try go_simp); rfl)
             simp only [Act.put, Act.eval, Array.getD_eq_getD_getElem?, List.getElem?_toArray, List.getElem?_cons_zero, List.getElem?_cons_succ, Option.getD_some, List.setIfInBounds_toArray, List.set_cons_succ, List.set_cons_zero]
            )
          | (refine rq_skip rfl rfl ?_
             simp only [Act.put, Act.eval, Array.getD_eq_getD_getElem?, List.getElem?_toArray, List.getElem?_cons_zero, List.getElem?_cons_succ, Option.getD_some, List.setIfInBounds_toArray, List.set_cons_succ, List.set_cons_zero]
            ))
        refine rq_nil ?_
        have HD := half_doc hH (by omega) (hok' i h2)
        unfold agg at HD
        have HD' := Lib.hid (And.intro HD (And.intro hX1 hZq))
        clear HD hX1 hZq hH y1 y2 o0 o1 o2 o3 v0 v1 v2 v3
        go_wp2_with fail
        refine HD'.out.1.mono ?_
        rintro e w2 hP
        obtain ⟨v', Z', b, b', rfl, ⟨a2, n2, c2, rfl⟩, hn1, hn2, hFz, hB2⟩ := fours_doc hFs hsq HD'.out.2.1 HD'.out.2.2 hP
        have HS := Lib.hid (same_any b b' _ _ _ (ans_len hFs.one.1 (by omega) (ops' i)) w2 hn1 hn2)
        clear hn1 hn2 hP
        go_wp2_with fail
        refine HS.out.mono ?_
        rintro e wz ⟨rfl, hB3⟩
        replace hFz := hFz.below hB3
        have hs2 := hB2.size
        have x3 := below_cell hB3 ((hB2.cell (p := ⟨w.heap.size, 1, none⟩) (by simp)).trans x3)
        have x4 := below_cell hB3 ((hB2.cell (p := ⟨w.heap.size + 1, 1, none⟩) (by simp)).trans x4)
        have hBz := (hBq.trans (hB2.mono (by omega))).trans (hB3.mono (by omega))
        have hs3 := hB3.size
        clear hB2 hB3 HS HD' HA
        have hFy := hFz.swap
        go_wp2_with fail
        refine ⟨⟨i + 1, _, _, _, _, by simp, by omega, ⟨hFy.one.more (by omega), hFy.two.more (by omega), hFy.off, hFy.z1, hFy.z2⟩, x3, x4, hBz, by omega⟩, ?_⟩
        show max n n' - (((i : Int) + 1).toNat) < max n n' - ((i : Int).toNat)
        omega
      · have t2 : ¬ (i : Int) < (n' : Int) := by omega
        go_wp2_with fail
        refine wp_region_rg (fun _ => none) fol (by kernel_rfl) (fun wz hW hh => ?_)
        clear hh
        have q0 : ∀ w1, Below (wz).heap.size wz w1 → w1.cell? ⟨w.heap.size + 1, 1, none⟩ = _ := fun w1 h => below_cell (below_trans hW h) x4
        repeat (first
          | (refine lex_move _ (by first | exact Or.inl rfl | exact Or.inr rfl) rfl rfl ?_
             simp only [Act.put, Act.eval, Array.getD_eq_getD_getElem?, List.getElem?_toArray, List.getElem?_cons_zero, List.getElem?_cons_succ, Option.getD_some, List.setIfInBounds_toArray, List.set_cons_succ, List.set_cons_zero]
            )
          | (refine lex_float ?_ rfl rfl (fun w1 hb1 hf1 => ?_) ?_
             rotate_left
             (go_simp; (try simp (disch := omega) only [IntWalk.i64_quo, IntWalk.rem_in, IntWalk.i64_in, IntWalk.u64_in, IntWalk.u32_in, IntWalk.u8_in, IntWalk.toNatUp, IntWalk.iteOmega]); (try go_simp); rfl)
             simp only [Act.put, Act.eval, Array.getD_eq_getD_getElem?, List.getElem?_toArray, List.getElem?_cons_zero, List.getElem?_cons_succ, Option.getD_some, List.setIfInBounds_toArray, List.set_cons_succ, List.set_cons_zero]
            )
          | (refine lex_skip rfl ?_
             simp only [Act.put, Act.eval, Array.getD_eq_getD_getElem?, List.getElem?_toArray, List.getElem?_cons_zero, List.getElem?_cons_succ, Option.getD_some, List.setIfInBounds_toArray, List.set_cons_succ, List.set_cons_zero]
            ))
        clear q0
        refine lex_nil ?_
        have hFz := hFq.below hW
        have x3 := below_cell hW x3
        have x4 := below_cell hW x4
        have hBz := hBq.trans (hW.mono (by omega))
        have hs3 := hW.size
        go_wp2_with fail
        refine ⟨⟨i + 1, _, _, _, _, by simp, by omega, ⟨hFz.one.more (by omega), hFz.two.more (by omega), hFz.off, hFz.z1, hFz.z2⟩, x3, x4, hBz, by omega⟩, ?_⟩
        show max n n' - (((i : Int) + 1).toNat) < max n n' - ((i : Int).toNat)
        omega
    · have t1 : ¬ (i : Int) < (n : Int) := by omega
      by_cases h2 : i < n'
      · have t2 : (i : Int) < (n' : Int) := by omega
        go_wp2_with fail
        refine wp_region_rg (fun _ => none) fol (by kernel_rfl) (fun wq hW hh => ?_)
        clear hh
        have q0 : ∀ w1, Below (wq).heap.size wq w1 → w1.cell? ⟨w.heap.size, 1, none⟩ = _ := fun w1 h => below_cell (below_trans hW h) x3
        repeat (first
          | (refine lex_move _ (by first | exact Or.inl rfl | exact Or.inr rfl) rfl rfl ?_
             simp only [Act.put, Act.eval, Array.getD_eq_getD_getElem?, List.getElem?_toArray, List.getElem?_cons_zero, List.getElem?_cons_succ, Option.getD_some, List.setIfInBounds_toArray, List.set_cons_succ, List.set_cons_zero]
            )
          | (refine lex_float ?_ rfl rfl (fun w1 hb1 hf1 => ?_) ?_
             rotate_left
             (go_simp; (try simp (disch := omega) only [IntWalk.i64_quo, IntWalk.rem_in, IntWalk.i64_in, IntWalk.u64_in, IntWalk.u32_in, IntWalk.u8_in, IntWalk.toNatUp, IntWalk.iteOmega]); (try go_simp); rfl)
             simp only [Act.put, Act.eval, Array.getD_eq_getD_getElem?, List.getElem?_toArray, List.getElem?_cons_zero, List.getElem?_cons_succ, Option.getD_some, List.setIfInBounds_toArray, List.set_cons_succ, List.set_cons_zero]
            )
          | (refine lex_skip rfl ?_
             simp only [Act.put, Act.eval, Array.getD_eq_getD_getElem?, List.getElem?_toArray, List.getElem?_cons_zero, List.getElem?_cons_succ, Option.getD_some, List.setIfInBounds_toArray, List.set_cons_succ, List.set_cons_zero]
            ))
        clear q0
        refine lex_nil ?_
        have hFq := hF.below hW
        have x3 := below_cell hW x3
        have x4 := below_cell hW x4
        have hBq := hB.trans (hW.mono (by omega))
        have hs3 := hW.size
        have hsq : w.heap.size + 2 ≤ wq.heap.size := by omega
        have hFs := hFq.swap
        go_wp2_with fail
        obtain ⟨pb, po, hpa, p0, p1', p2', p3'⟩ := Ho'.out i h2
        have hpl : pb < w.heap.size := World.block_lt_of_cell? w _ p0
        have o0 := below_cell hBq p0
        have o1 := below_cell hBq p1'
        have o2 := below_cell hBq p2'
        have o3 := below_cell hBq p3'
        have y1 := x4
        rw [hpa] at y1
        clear hpa
        clear p0 p1' p2' p3'
        have HAW := fun (W : World) (hW : Below (wq).heap.size wq W) => twin_ask (hFs.one.below hW) (by omega) (ops' i) (hok' i h2)
        unfold agg at HAW
        have HA := Lib.hid HAW; clear HAW
        refine wp_region_seq 19 [12] (fun w' => w'.cell? ⟨w.heap.size + 1, 1, none⟩ = some (.slice (some ⟨pb, po, none⟩) n' cap') ∧ w'.cell? ⟨pb, po + i * 4, none⟩ = some (.int .i64 (ops' i).kind) ∧ w'.cell? ⟨pb, po + i * 4 + 1, none⟩ = some (.int .u64 (ops' i).s.t) ∧ w'.cell? ⟨pb, po + i * 4 + 2, none⟩ = some (.int .u64 (ops' i).s.s) ∧ w'.cell? ⟨pb, po + i * 4 + 3, none⟩ = some (.int .u64 (ops' i).v))
          (fun _ => AskMid s2 p2 q2 e2 (ops' i) i Zb wq) fol (by kernel_rfl) (fun W hW hh => ⟨⟨below_cell hW y1, below_cell hW o0, below_cell hW o1, below_cell hW o2, below_cell hW o3⟩, ?_⟩)
        clear hh
        simp only [List.take_succ_cons, List.take_zero, List.drop_succ_cons, List.drop_zero]
        repeat (first
          | (refine rq_move _ (by first | exact Or.inl rfl | exact Or.inr rfl) rfl rfl ?_
             simp only [Act.put, Act.eval, Array.getD_eq_getD_getElem?, List.getElem?_toArray, List.getElem?_cons_zero, List.getElem?_cons_succ, Option.getD_some, List.setIfInBounds_toArray, List.set_cons_succ, List.set_cons_zero]
            )
          | (refine rq_big ?_ rfl rfl (fun w1 hcb1 => ?_) ?_
             rotate_left
             ((try obtain ⟨hcb1, hcb2, hcb3⟩ := hcb1); go_simp; (try simp (disch := omega) only [IntWalk.i64_quo, IntWalk.rem_in, IntWalk.i64_in, IntWalk.u64_in, IntWalk.u32_in, IntWalk.u8_in, IntWalk.toNatUp, IntWalk.iteOmega]); (try go_simp); rfl)
             simp only [Act.put, Act.eval, Array.getD_eq_getD_getElem?, List.getElem?_toArray, List.getElem?_cons_zero, List.getElem?_cons_succ, Option.getD_some, List.setIfInBounds_toArray, List.set_cons_succ, List.set_cons_zero]
            )
          | (refine rq_skip rfl rfl ?_
             simp only [Act.put, Act.eval, Array.getD_eq_getD_getElem?, List.getElem?_toArray, List.getElem?_cons_zero, List.getElem?_cons_succ, Option.getD_some, List.setIfInBounds_toArray, List.set_cons_succ, List.set_cons_zero]
            ))
        refine rq_late _ rfl rfl ?_ ?_
        · (unfold makes; go_simp; simp only [makesUpon])
          refine (HA.out W hW).mono ?_
          rintro e w1 hP
          obtain ⟨v, rfl, hm⟩ := mid_of hW hP
          obtain ⟨Zq, hu, hH, hX1, hZq⟩ := hm
          have nb : ∀ k, k < w.heap.size + 2 → ¬ _ := fun k hk h => by have := (hFs.z1 k h).1; omega
          exact ⟨_, rfl, ⟨hX1.cell_some y1 (nb _ (by simp)), hX1.cell_some o0 (nb _ (by show pb < _; omega)), hX1.cell_some o1 (nb _ (by show pb < _; omega)), hX1.cell_some o2 (nb _ (by show pb < _; omega)), hX1.cell_some o3 (nb _ (by show pb < _; omega))⟩, ⟨Zq, hu, hH, hX1, hZq⟩⟩
        rintro u w1 ⟨y2, v0, v1, v2, v3⟩ ⟨Zq, ⟨a1, n1, c1, rfl⟩, hH, hX1, hZq⟩
        simp only [Act.put, Act.eval, Array.getD_eq_getD_getElem?, List.getElem?_toArray, List.getElem?_cons_zero, List.getElem?_cons_succ, Option.getD_some, List.setIfInBounds_toArray, List.set_cons_succ, List.set_cons_zero]
        repeat (first
          | (refine rq_move _ (by first | exact Or.inl rfl | exact Or.inr rfl) rfl rfl ?_
             simp only [Act.put, Act.eval, Array.getD_eq_getD_getElem?, List.getElem?_toArray, List.getElem?_cons_zero, List.getElem?_cons_succ, Option.getD_some, List.setIfInBounds_toArray, List.set_cons_succ, List.set_cons_zero]
            )
          | (refine rq_big ?_ rfl rfl (fun w1 hcb1 => ?_) ?_
             rotate_left
             ((try obtain ⟨hcb1, hcb2, hcb3⟩ := hcb1); go_simp; (try simp (disch := omega) only [IntWalk.i64_quo, IntWalk.rem_in, IntWalk.i64_in, IntWalk.u64_in, IntWalk.u32_in, IntWalk.u8_in, IntWalk.toNatUp, IntWalk.iteOmega]); (try go_simp); rfl)
             simp only [Act.put, Act.eval, Array.getD_eq_getD_getElem?, List.getElem?_toArray, List.getElem?_cons_zero, List.getElem?_cons_succ, Option.getD_some, List.setIfInBounds_toArray, List.set_cons_succ, List.set_cons_zero]
            )
          | (refine rq_skip rfl rfl ?_
             simp only [Act.put, Act.eval, Array.getD_eq_getD_getElem?, List.getElem?_toArray, List.getElem?_cons_zero, List.getElem?_cons_succ, Option.getD_some, List.setIfInBounds_toArray, List.set_cons_succ, List.set_cons_zero]
            ))
        refine rq_nil ?_
        have HD := half_doc hH (by omega) (hok' i h2)
        unfold agg at HD
        have HD' := Lib.hid (And.intro HD (And.intro hX1 hZq))
        clear HD hX1 hZq hH y1 y2 o0 o1 o2 o3 v0 v1 v2 v3
        go_wp2_with fail
        refine HD'.out.1.mono ?_
        rintro e w2 hP
        obtain ⟨v', Z', b, b', rfl, ⟨a2, n2, c2, rfl⟩, hn1, hn2, hFz, hB2⟩ := fours_doc hFs hsq HD'.out.2.1 HD'.out.2.2 hP
        have HS := Lib.hid (same_any b b' _ _ _ (ans_len hFs.one.1 (by omega) (ops' i)) w2 hn1 hn2)
        clear hn1 hn2 hP
        go_wp2_with fail
        refine HS.out.mono ?_
        rintro e wz ⟨rfl, hB3⟩
        replace hFz := hFz.below hB3
        have hs2 := hB2.size
        have x3 := below_cell hB3 ((hB2.cell (p := ⟨w.heap.size, 1, none⟩) (by simp)).trans x3)
        have x4 := below_cell hB3 ((hB2.cell (p := ⟨w.heap.size + 1, 1, none⟩) (by simp)).trans x4)
        have hBz := (hBq.trans (hB2.mono (by omega))).trans (hB3.mono (by omega))
        have hs3 := hB3.size
        clear hB2 hB3 HS HD' HA
        have hFy := hFz.swap
        go_wp2_with fail
        refine ⟨⟨i + 1, _, _, _, _, by simp, by omega, ⟨hFy.one.more (by omega), hFy.two.more (by omega), hFy.off, hFy.z1, hFy.z2⟩, x3, x4, hBz, by omega⟩, ?_⟩
        show max n n' - (((i : Int) + 1).toNat) < max n n' - ((i : Int).toNat)
        omega
      · have t2 : ¬ (i : Int) < (n' : Int) := by omega
        go_wp2_with fail
        go_ret
        exact ⟨rfl, hB⟩
end Go.Proofs.Ytagcohpghgnalaa.QA
