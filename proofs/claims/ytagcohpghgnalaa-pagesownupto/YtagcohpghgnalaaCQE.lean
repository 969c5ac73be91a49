/-
  begin and upTo: both indexes, and every call of a script on both.
-/
import Derived.Test.YtagcohpghgnalaaCQD
import Derived.Test.YtagcohpghgnalaaCGA
set_option linter.unusedSimpArgs false
set_option linter.unusedVariables false
namespace Go.Proofs.Ytagcohpghgnalaa.QA
open Go.RowKit Go.RG Go.Hp Go.Pg Go.Proofs.Ytagcohpghgnalaa Go.Proofs.Ytagcohpghgnalaa.RF Go.Proofs.Ytagcohpghgnalaa.U Go.Proofs.Ytagcohpghgnalaa.LB Go.Proofs.Ytagcohpghgnalaa.BK


/-- two indexes that have just been made -/
def BeginPost (w : World) (e : Ending) (w' : World) : Prop :=
  ∃ p q size d Z, e = .returned (.tuple #[.pointer p, .pointer q, .bool true]) ∧ Twin size p q d 0 Z w' ∧ (∀ k, Z k → w.heap.size ≤ k ∧ k < w'.heap.size) ∧ Below w.heap.size w w'
set_option maxRecDepth 100000 in
theorem begin_any (n : Int) (w : World) : Calls Try.prog 44 #[.int .i64 n] w (BeginPost w) := by
  by_cases hn : 4 ≤ n ∧ n ≤ 64
  · obtain ⟨h4, h64⟩ := hn
    obtain ⟨size, rfl⟩ : ∃ size : Nat, n = (size : Int) := ⟨n.toNat, by omega⟩
    have H1 := Lib.hid (U.new_any size (by omega) (by omega))
    have H2 := Lib.hid (RF.new_ref size (by omega) (by omega))
    go_enter Try.func44, Try.ntmps44
    go_wp2_with fail
    refine (H1.out _).mono ?_
    rintro e w1 ⟨bx, vx, rfl, hbx, hM, hB1⟩
    go_wp2_with fail
    refine (H2.out _).mono ?_
    rintro e w2 ⟨by', vy, rfl, hby, hR, hB2⟩
    go_wp2_with fail
    refine (U.num_any _ _).mono ?_
    rintro e w' ⟨rfl, rfl⟩
    go_wp2_with fail
    go_ret3
    have s1 := hB1.size
    have s2 := hB2.size
    have b1 := block_lt_of_heap hM.str
    have b2 := block_lt_of_heap hR.str
    refine ⟨_, _, size, some [], fun k => k = bx ∨ k = by', rfl, ⟨⟨by omega, by omega, ⟨by simp, by simp [keys, Rising]⟩, by simp, by simp [total]⟩, (· = bx), (· = by'), ⟨bx, vx, [], rfl, hM.below hB2⟩, ⟨by', vy, [], rfl, hR⟩, ?_, ?_⟩, ?_, hB1.trans (hB2.mono s1)⟩
    · rintro k rfl
      exact ⟨Or.inl rfl, by omega, fun h => by omega⟩
    · rintro k rfl
      exact ⟨Or.inr rfl, by omega⟩
    · rintro k (rfl | rfl) <;> exact ⟨by omega, by omega⟩
  · have hn' : n < 4 ∨ 64 < n := by omega
    have H1 := Lib.hid (U.new_bad n hn')
    have H2 := Lib.hid (RF.new_rbad n hn')
    clear hn hn'
    go_enter Try.func44, Try.ntmps44
    go_wp2_with fail
    refine (H1.out _).mono ?_
    rintro e w1 ⟨rfl, rfl⟩
    go_wp2_with fail
    refine (H2.out _).mono ?_
    rintro e w2 ⟨rfl, rfl⟩
    go_wp2_with fail
    refine (U.num_any _ _).mono ?_
    rintro e w' ⟨rfl, rfl⟩
    go_wp2_with fail
    go_ret3
    exact ⟨none, none, 0, none, fun _ => False, rfl, ⟨trivial, fun _ => False, fun _ => False, rfl, rfl, fun _ h => h.elim, fun _ h => h.elim⟩, fun _ h => h.elim, Below.refl _ _⟩

theorem twin_ask {size i : Nat} {p q : Option Addr} {d : Dx} {Z : Nat → Prop} {w : World} (h : Twin size p q d i Z w) (hi : i ≤ 1099511) (o : Opd) (ho : OpOk o) : Calls Try.prog 46 #[.pointer p, agg o] w (HalfPost size p q d o i Z w) := by
  obtain ⟨h0, Zx, Zy, hx, hy, h1, h2⟩ := h
  exact (ask_any size i hi p d o ho Zx w h0 hx fun k hk => (h1 k hk).2.1).mono fun e w' hA => half_of h0 hy h1 h2 hA
theorem half_doc {size i : Nat} {p q : Option Addr} {d : Dx} {o : Opd} {v : Value} {Z : Nat → Prop} {w : World} (h : Half size p q d o i v Z w) (hi : i ≤ 1099511) (ho : OpOk o) : Calls Try.prog 47 #[.pointer q, agg o] w (BothPost size p q d o i v Z w) := by
  obtain ⟨h0, Zx, Zy, b, hx, hy, h1, h2, h3, h4⟩ := h
  exact (doc_any size i hi q d o ho Zy w h0 hy fun k hk => (h2 k hk).2).mono fun e w' hA => both_of h0 hx h1 h2 h3 h4 hA

theorem ans_len {size i : Nat} {d : Dx} (h : DGood size d i) (hi : i ≤ 1099511) (o : Opd) : (ansD d o).length ≤ 274877906944 := by
  have hf : ∀ l : List Ent, (firstNums l).length = 4 := fun l => by cases l <;> rfl
  have he : ∀ l : List Ent, (l.flatMap entNums).length = l.length * 3 := fun l => by
    induction l with
    | nil => rfl
    | cons e l ih => rw [List.flatMap_cons, List.length_append, ih]; simp [entNums]; omega
  have ht : ∀ l : List Ent, ((l.take (o.v % 64).toNat).flatMap entNums).length ≤ 274877906944 := fun l => by rw [he, List.length_take]; omega
  cases d with
  | none =>
    show (ansB o).length ≤ _
    unfold ansB
    repeat' split
    all_goals simp
  | some R =>
    obtain ⟨h4, h64, hG, hN, ht'⟩ := h
    have hr := rows_le_total hG
    show (ans R o).length ≤ _
    unfold ans
    repeat' split
    all_goals first | (simp; done) | (rw [hf]; omega) | exact ht _ | (simp only [List.length_map]; omega)

theorem op_eq (o : Opd) : agg o = .agg #[.int .i64 o.kind, .int .u64 o.s.t, .int .u64 o.s.s, .int .u64 o.v] := rfl
set_option maxHeartbeats 1000000 in
set_option maxRecDepth 100000 in
theorem upTo_any (sz lo hi : Int) (a : Option Addr) (n cap : Nat) (hn : n ≤ 1048576) (ops : Nat → Opd) (hok : ∀ i, i < n → OpOk (ops i)) (w : World) (ho : OpsAt w a n ops) :
    Calls Try.prog 43 #[.agg #[.int .i64 sz, .slice a n cap], .int .i64 lo, .int .i64 hi] w fun e w' => e = .returned (.bool true) ∧ Below w.heap.size w w' := by
  have Ho := Lib.hid ho; clear ho
  have H1 := Lib.hid (begin_any sz)
  go_enter Try.func43, Try.ntmps43
  go_wp2_with fail
  have hB0 := below_box w (.cells #[.int .i64 sz, .slice a n cap] 69)
  have y1 : (w.alloc (.cells #[.int .i64 sz, .slice a n cap] 69)).cell? ⟨w.heap.size, 1, none⟩ = some (.slice a n cap) := by simp
  have hs0 : w.heap.size < (w.alloc (.cells #[.int .i64 sz, .slice a n cap] 69)).heap.size := by simp
  generalize w.alloc (.cells #[.int .i64 sz, .slice a n cap] 69) = w0 at hB0 y1 hs0 ⊢
  refine (H1.out _).mono ?_
  rintro e w1 ⟨p, q, size, d0, Z0, rfl, hT0, hZ0, hB1⟩
  have y0 := below_cell hB1 y1
  have hB1 := hB0.trans (hB1.mono hB0.size)
  clear y1
  go_wp2_with fail
  go_loopw [10] (fun vi wr => ∃ (i : Nat) (d : Dx) (Z : Nat → Prop), vi = .int .i64 i ∧ i ≤ n ∧ Twin size p q d i Z wr ∧ (∀ k, Z k → w.heap.size < k ∧ k < wr.heap.size) ∧ wr.cell? ⟨w.heap.size, 1, none⟩ = some (.slice a n cap) ∧ Below w.heap.size w wr) (fun vi _ => n - (intOf vi).toNat)
  case atStart => exact ⟨0, d0, Z0, rfl, by omega, hT0, fun k hk => ⟨by have := (hZ0 k hk).1; omega, (hZ0 k hk).2⟩, y0, hB1⟩
  case round =>
    obtain ⟨i, d, Z, rfl, hin, hT, hZ, y1, hB⟩ := hrel
    clear y0 hT0 hZ0 hB1
    by_cases hlt : i < n
    · obtain ⟨pb, po, rfl, p0, p1, p2, p3⟩ := Ho.out i hlt
      have o0 := below_cell hB p0
      have o1 := below_cell hB p1
      have o2 := below_cell hB p2
      have o3 := below_cell hB p3
      have hii : (i : Int) < (n : Int) := by omega
      have hBA := below_box wr (.cells #[.int .i64 (ops i).kind, .int .u64 (ops i).s.t, .int .u64 (ops i).s.s, .int .u64 (ops i).v] 40)
      have HA := twin_ask (hT.below hBA) (by omega) (ops i) (hok i hlt)
      unfold agg at HA
      have HA := Lib.hid HA
      have x0 : (wr.alloc (.cells #[.int .i64 (ops i).kind, .int .u64 (ops i).s.t, .int .u64 (ops i).s.s, .int .u64 (ops i).v] 40)).cell? ⟨wr.heap.size, 0, none⟩ = some (.int .i64 (ops i).kind) := by simp
      have x1 : (wr.alloc (.cells #[.int .i64 (ops i).kind, .int .u64 (ops i).s.t, .int .u64 (ops i).s.s, .int .u64 (ops i).v] 40)).cell? ⟨wr.heap.size, 1, none⟩ = some (.int .u64 (ops i).s.t) := by simp
      have x2 : (wr.alloc (.cells #[.int .i64 (ops i).kind, .int .u64 (ops i).s.t, .int .u64 (ops i).s.s, .int .u64 (ops i).v] 40)).cell? ⟨wr.heap.size, 2, none⟩ = some (.int .u64 (ops i).s.s) := by simp
      have x3 : (wr.alloc (.cells #[.int .i64 (ops i).kind, .int .u64 (ops i).s.t, .int .u64 (ops i).s.s, .int .u64 (ops i).v] 40)).cell? ⟨wr.heap.size, 3, none⟩ = some (.int .u64 (ops i).v) := by simp
      have hsA : wr.heap.size < (wr.alloc (.cells #[.int .i64 (ops i).kind, .int .u64 (ops i).s.t, .int .u64 (ops i).s.s, .int .u64 (ops i).v] 40)).heap.size := by simp
      clear p1 p2 p3
      go_wp2_with fail
      generalize wr.alloc (.cells #[.int .i64 (ops i).kind, .int .u64 (ops i).s.t, .int .u64 (ops i).s.s, .int .u64 (ops i).v] 40) = wA at hBA HA x0 x1 x2 x3 hsA ⊢
      have y2 := below_cell hBA y1
      refine HA.out.mono ?_
      rintro e w2 ⟨v1, Z1, rfl, hH, hX1, hZ1⟩
      have HD := Lib.hid (half_doc hH (by omega) (hok i hlt))
      obtain ⟨a1, n1, c1, hsh⟩ : ∃ a1 n1 c1, v1 = .slice a1 n1 c1 := by obtain ⟨-, _, _, _, -, -, -, -, hn1, -⟩ := hH; obtain ⟨a, c, h, -⟩ := owns_shape hn1; exact ⟨a, _, c, h⟩
      subst hsh
      have sA := hBA.size
      have s2 := hX1.size
      have nz : ¬ Z wr.heap.size := fun h => by have := (hZ _ h).2; omega
      have nz0 : ¬ Z w.heap.size := fun h => by have := (hZ _ h).1; omega
      have x0 := hX1.cell_some x0 nz
      have x1 := hX1.cell_some x1 nz
      have x2 := hX1.cell_some x2 nz
      have x3 := hX1.cell_some x3 nz
      have y2 := hX1.cell_some y2 nz0
      have hBw2 := (hB.trans (hBA.mono hB.size)).trans (hX1.to_belowAt (B := w.heap.size) (by have := hB.size; omega) fun k hk h => by have := (hZ k h).1; omega)
      unfold agg at HD
      clear hH hX1
      go_wp2_with fail
      refine HD.out.mono ?_
      rintro e w3 ⟨v2, Z2, b1, b2, rfl, hn1, hn2, hT3, hX2, hZ2⟩
      have nz : ¬ Z1 wr.heap.size := fun h => by rcases (hZ1 _ h).1 with h | h; exact nz h; omega
      have nz0 : ¬ Z1 w.heap.size := fun h => by rcases (hZ1 _ h).1 with h | h; exact nz0 h; have := hB.size; omega
      have x0 := hX2.cell_some x0 nz
      have y3 := hX2.cell_some y2 nz0
      have HS := Lib.hid (same_any b1 b2 (.slice a1 n1 c1) v2 _ (ans_len (show DGood size d i from hT.1) (by omega) (ops i)) w3 hn1 hn2)
      obtain ⟨a2, n2, c2, hsh⟩ : ∃ a1 n1 c1, v2 = .slice a1 n1 c1 := by obtain ⟨a, c, h, -⟩ := owns_shape hn2; exact ⟨a, _, c, h⟩
      subst hsh
      have hBw3 := hBw2.trans (hX2.to_belowAt (B := w.heap.size) hBw2.size fun k hk h => by rcases (hZ1 k h).1 with h | h; have := (hZ k h).1; omega; have := hB.size; omega)
      have hZ3 : ∀ k, Z2 k → w.heap.size < k ∧ k < w3.heap.size := fun k hk => ⟨by
        rcases (hZ2 k hk).1 with h | h
        · rcases (hZ1 k h).1 with h | h
          · exact (hZ k h).1
          · have := hB.size; omega
        · have := hB.size; omega, (hZ2 k hk).2⟩
      have HE := Lib.hid (And.intro hT3 (And.intro hBw3 hZ3))
      clear hn1 hn2 hX2 hZ1 hZ2 hT3 hBw2 hBw3 hZ3 x1 x2 x3 y2 nz nz0 HA HD
      by_cases t1 : lo ≤ (ops i).kind
      · by_cases t2 : (ops i).kind ≤ hi
        · go_wp2_with fail
          refine HS.out.mono ?_
          rintro e w4 ⟨rfl, hB4⟩
          have y4 := below_cell hB4 y3
          go_wp2_with fail
          obtain ⟨hT3, hBw3, hZ3⟩ := HE.out
          refine ⟨⟨i + 1, stepD size d (ops i), Z2, by simp, by omega, hT3.below hB4, fun k hk => ⟨(hZ3 k hk).1, Nat.lt_of_lt_of_le (hZ3 k hk).2 hB4.size⟩, y4, hBw3.trans (hB4.mono hBw3.size)⟩, ?_⟩
          show n - (((i : Int) + 1).toNat) < n - ((i : Int).toNat)
          omega
        · have hB4 := Below.refl w3.heap.size w3
          have y4 := y3
          go_wp2_with fail
          obtain ⟨hT3, hBw3, hZ3⟩ := HE.out
          refine ⟨⟨i + 1, stepD size d (ops i), Z2, by simp, by omega, hT3.below hB4, fun k hk => ⟨(hZ3 k hk).1, Nat.lt_of_lt_of_le (hZ3 k hk).2 hB4.size⟩, y4, hBw3.trans (hB4.mono hBw3.size)⟩, ?_⟩
          show n - (((i : Int) + 1).toNat) < n - ((i : Int).toNat)
          omega
      · have hB4 := Below.refl w3.heap.size w3
        have y4 := y3
        go_wp2_with fail
        obtain ⟨hT3, hBw3, hZ3⟩ := HE.out
        refine ⟨⟨i + 1, stepD size d (ops i), Z2, by simp, by omega, hT3.below hB4, fun k hk => ⟨(hZ3 k hk).1, Nat.lt_of_lt_of_le (hZ3 k hk).2 hB4.size⟩, y4, hBw3.trans (hB4.mono hBw3.size)⟩, ?_⟩
        show n - (((i : Int) + 1).toNat) < n - ((i : Int).toNat)
        omega
    · obtain rfl : i = n := by omega
      go_wp2_with fail
      go_ret
      exact ⟨rfl, hB⟩
end Go.Proofs.Ytagcohpghgnalaa.QA
