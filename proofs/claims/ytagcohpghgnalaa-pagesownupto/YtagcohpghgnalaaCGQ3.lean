/-
  doc: what an index answers to a call, as numbers; the arms of Put, Remove, Get and Place.
-/
import Derived.Test.YtagcohpghgnalaaCQ1
import Derived.Test.YtagcohpghgnalaaCGBK
set_option linter.unusedSimpArgs false
set_option linter.unusedVariables false
namespace Go.Proofs.Ytagcohpghgnalaa.QA.doc
open Go.RowKit Go.RG Go.Hp Go.Pg Go.Proofs.Ytagcohpghgnalaa Go.Proofs.Ytagcohpghgnalaa.RF Go.Proofs.Ytagcohpghgnalaa.U Go.Proofs.Ytagcohpghgnalaa.LB Go.Proofs.Ytagcohpghgnalaa.QA


/-- an answer: what came ahead of the method's call, the call, and a row of numbers behind it -/
def Mid (w : World) (Pr : World → World → Prop) (l : List Int) (e : Ending) (w' : World) : Prop :=
  ∃ v w0 w1, e = .returned v ∧ Below w.heap.size w w0 ∧ Pr w0 w1 ∧ Below w1.heap.size w1 w' ∧ NumsAt w1.heap.size w' v l

set_option maxRecDepth 100000 in
theorem arm_put (x : Value) (hx : ∃ a, x = .pointer a) (o : Opd) (hk : o.kind = 1) (b : Bool) (Pr : World → World → Prop) (w : World)
    (hP : ∀ w0, Below w.heap.size w w0 → Calls Try.prog 84 #[x, o.s.v, .int .u64 o.v] w0 fun e w1 => e = .returned (.bool b) ∧ Pr w0 w1) :
    Calls Try.prog 47 #[x, .agg #[.int .i64 o.kind, .int .u64 o.s.t, .int .u64 o.s.s, .int .u64 o.v]] w (Mid w Pr [bitN b]) := by
  obtain ⟨xa, rfl⟩ := hx
  obtain ⟨ok, os, ov⟩ := o
  obtain rfl : ok = 1 := hk
  have hB0 := below_box w (.cells #[.int .i64 1, .int .u64 os.t, .int .u64 os.s, .int .u64 ov] 40)
  have HP := Lib.hid (hP _ hB0)
  simp only [] at HP
  unfold St.v at HP
  go_enter Try.func47, Try.ntmps47
  go_wp2_with fail
  refine HP.out.mono ?_
  rintro e w1 ⟨rfl, hp⟩
  go_wp2_with fail
  refine (bit_any b w1).mono ?_
  rintro e w2 ⟨rfl, rfl⟩
  go_wp2_with fail
  go_ret
  exact ⟨_, _, w1, rfl, hB0, hp, below_box _ _, nums_new w1 [bitN b] (by simp [maxLen])⟩

set_option maxRecDepth 100000 in
theorem arm_rem (x : Value) (hx : ∃ a, x = .pointer a) (o : Opd) (hk : o.kind = 2) (v : Int) (b : Bool) (Pr : World → World → Prop) (w : World)
    (hP : ∀ w0, Below w.heap.size w w0 → Calls Try.prog 85 #[x, o.s.v] w0 fun e w1 => e = .returned (.tuple #[.int .u64 v, .bool b]) ∧ Pr w0 w1) :
    Calls Try.prog 47 #[x, .agg #[.int .i64 o.kind, .int .u64 o.s.t, .int .u64 o.s.s, .int .u64 o.v]] w (Mid w Pr [v, bitN b]) := by
  obtain ⟨xa, rfl⟩ := hx
  obtain ⟨ok, os, ov⟩ := o
  obtain rfl : ok = 2 := hk
  have hB0 := below_box w (.cells #[.int .i64 2, .int .u64 os.t, .int .u64 os.s, .int .u64 ov] 40)
  have HP := Lib.hid (hP _ hB0)
  simp only [] at HP
  unfold St.v at HP
  go_enter Try.func47, Try.ntmps47
  go_wp2_with fail
  refine HP.out.mono ?_
  rintro e w1 ⟨rfl, hp⟩
  go_wp2_with fail
  refine (bit_any b w1).mono ?_
  rintro e w2 ⟨rfl, rfl⟩
  go_wp2_with fail
  go_ret
  exact ⟨_, _, w1, rfl, hB0, hp, below_box _ _, nums_new w1 [v, bitN b] (by simp [maxLen])⟩
set_option maxRecDepth 100000 in
theorem arm_get (x : Value) (hx : ∃ a, x = .pointer a) (o : Opd) (hk : o.kind = 3) (v : Int) (b : Bool) (Pr : World → World → Prop) (w : World)
    (hP : ∀ w0, Below w.heap.size w w0 → Calls Try.prog 86 #[x, o.s.v] w0 fun e w1 => e = .returned (.tuple #[.int .u64 v, .bool b]) ∧ Pr w0 w1) :
    Calls Try.prog 47 #[x, .agg #[.int .i64 o.kind, .int .u64 o.s.t, .int .u64 o.s.s, .int .u64 o.v]] w (Mid w Pr [v, bitN b]) := by
  obtain ⟨xa, rfl⟩ := hx
  obtain ⟨ok, os, ov⟩ := o
  obtain rfl : ok = 3 := hk
  have hB0 := below_box w (.cells #[.int .i64 3, .int .u64 os.t, .int .u64 os.s, .int .u64 ov] 40)
  have HP := Lib.hid (hP _ hB0)
  simp only [] at HP
  unfold St.v at HP
  go_enter Try.func47, Try.ntmps47
  go_wp2_with fail
  refine HP.out.mono ?_
  rintro e w1 ⟨rfl, hp⟩
  go_wp2_with fail
  refine (bit_any b w1).mono ?_
  rintro e w2 ⟨rfl, rfl⟩
  go_wp2_with fail
  go_ret
  exact ⟨_, _, w1, rfl, hB0, hp, below_box _ _, nums_new w1 [v, bitN b] (by simp [maxLen])⟩
set_option maxRecDepth 100000 in
theorem arm_place (x : Value) (hx : ∃ a, x = .pointer a) (o : Opd) (hk : o.kind = 6) (p i : Nat) (hp : p ≤ 274877906944) (hi : i ≤ 274877906944) (b : Bool) (Pr : World → World → Prop) (w : World)
    (hP : ∀ w0, Below w.heap.size w w0 → Calls Try.prog 88 #[x, o.s.v] w0 fun e w1 => e = .returned (.tuple #[.int .i64 p, .int .i64 i, .bool b]) ∧ Pr w0 w1) :
    Calls Try.prog 47 #[x, .agg #[.int .i64 o.kind, .int .u64 o.s.t, .int .u64 o.s.s, .int .u64 o.v]] w (Mid w Pr [p, i, bitN b]) := by
  obtain ⟨xa, rfl⟩ := hx
  obtain ⟨ok, os, ov⟩ := o
  obtain rfl : ok = 6 := hk
  have hB0 := below_box w (.cells #[.int .i64 6, .int .u64 os.t, .int .u64 os.s, .int .u64 ov] 40)
  have HP := Lib.hid (hP _ hB0)
  simp only [] at HP
  unfold St.v at HP
  go_enter Try.func47, Try.ntmps47
  go_wp2_with fail
  refine HP.out.mono ?_
  rintro e w1 ⟨rfl, hpr⟩
  go_wp2_with fail
  refine (bit_any b w1).mono ?_
  rintro e w2 ⟨rfl, rfl⟩
  go_wp2_with fail
  go_ret
  exact ⟨_, _, w1, rfl, hB0, hpr, below_box _ _, nums_new w1 [(p : Int), (i : Int), bitN b] (by simp [maxLen])⟩
end Go.Proofs.Ytagcohpghgnalaa.QA.doc
namespace Go.Proofs.Ytagcohpghgnalaa.QA.doc
open Go.RowKit Go.RG Go.Hp Go.Pg Go.Proofs.Ytagcohpghgnalaa Go.Proofs.Ytagcohpghgnalaa.RF Go.Proofs.Ytagcohpghgnalaa.U Go.Proofs.Ytagcohpghgnalaa.LB Go.Proofs.Ytagcohpghgnalaa.QA


/-- a quiet call -/
def Quiet (a b : World) : Prop := Below a.heap.size a b
def ints (ns : List Nat) : List Value := ns.map fun (n : Nat) => Value.int .i64 (n : Int)
set_option maxHeartbeats 1000000 in
set_option maxRecDepth 100000 in
theorem arm_pages (x : Value) (hx : ∃ a, x = .pointer a) (o : Opd) (hk : o.kind = 5) (ns : List Nat) (hn : ns.length ≤ 274877906944) (hns : ∀ n ∈ ns, n ≤ 274877906944) (w : World)
    (hP : ∀ w0, Below w.heap.size w w0 → Calls Try.prog 48 #[x] w0 fun e w1 => ∃ v, e = .returned v ∧ w1.ownsRow w0.heap.size 3 1 v ns.length (ints ns) ∧ Quiet w0 w1) :
    Calls Try.prog 47 #[x, .agg #[.int .i64 o.kind, .int .u64 o.s.t, .int .u64 o.s.s, .int .u64 o.v]] w (Mid w Quiet (ns.map fun (n : Nat) => (n : Int))) := by
  obtain ⟨xa, rfl⟩ := hx
  obtain ⟨ok, os, ov⟩ := o
  obtain rfl : ok = 5 := hk
  have hB0 := below_box w (.cells #[.int .i64 5, .int .u64 os.t, .int .u64 os.s, .int .u64 ov] 40)
  have HP := Lib.hid (hP _ hB0)
  clear hP
  obtain ⟨i0, hi, hz0, hz1, hz2⟩ := info_parts info_num
  go_enter Try.func47, Try.ntmps47
  go_wp2_with fail
  refine HP.out.mono ?_
  rintro e w1 ⟨v, rfl, hown, hq⟩
  obtain ⟨ap, cp, rfl, -⟩ := owns_shape hown
  have Hp := Lib.hid hown; clear hown
  have Hq := Lib.hid hq; clear hq
  go_wp2_with fail
  go_loopw [5, 12] (fun vl vi wr => ∃ (i n : Nat) (a : Option Addr) (c : Nat), vi = .int .i64 i ∧ vl = .slice a n c ∧ i ≤ ns.length ∧ n = i ∧ NumsAt w1.heap.size wr vl ((ns.take i).map fun (n : Nat) => (n : Int)) ∧ Below w1.heap.size w1 wr) (fun _ vi _ => ns.length - (intOf vi).toNat)
  case atStart => exact ⟨0, 0, none, 0, rfl, rfl, by omega, rfl, by rw [List.take_zero]; exact World.ownsRow_nil _ _ 32 1, Below.refl _ _⟩
  case round =>
    obtain ⟨i, n, a, c, rfl, rfl, hin, rfl, hnum, hB⟩ := hrel
    have Hnum := Lib.hid hnum; clear hnum
    by_cases hlt : n < ns.length
    · have hii : (n : Int) < (ns.length : Int) := by omega
      obtain ⟨g, cap, e1, -, hgl, -, -, hc, -⟩ := owns_parts Hp.out (by omega)
      injection e1 with e1 _ f1
      subst e1 f1
      have hm := hns (ns.getD n 0) (by simp [hlt])
      have z0 : w1.cell? ⟨g, n, none⟩ = some (.int .i64 ((ns.getD n 0 : Nat) : Int)) := by
        rw [hc n (by omega)]; simp [ints, hlt]
      have z0 := below_cell hB z0
      have ht : (ns.take (n + 1)).map (fun (n : Nat) => (n : Int)) = ((ns.take n).map fun (n : Nat) => (n : Int)) ++ [((ns.getD n 0 : Nat) : Int)] := by
        rw [List.take_add_one, List.map_append]; simp [hlt]
      have Ht := Lib.hid ht; clear ht hc
      generalize ns.getD n 0 = m at hm z0 Ht
      have Hown1 := Lib.hid (owns_below (show wr.ownsRow w1.heap.size 32 1 (.slice a n c) n (nums ((ns.take n).map fun (n : Nat) => (n : Int))) by have := Hnum.out; unfold NumsAt at this; rwa [List.length_map, List.length_take, Nat.min_eq_left hin] at this) (below_box wr (.cells #[.int .u64 m] 32)))
      have Hsrc := Lib.hid (show ∀ (j : Nat) (u : Value), ([.int .u64 m] : List Value)[j]? = some u → (wr.alloc (.cells #[.int .u64 m] 32)).cell? ((⟨wr.heap.size, 0, none⟩ : Addr).add j) = some u from fun j u hu => by
        have hr : Row (wr.alloc (.cells #[.int .u64 m] 32)) wr.heap.size 32 [.int .u64 m] := row_new wr [.int .u64 m] 32
        rw [Addr.add_lit, Nat.zero_add, hr.cell]; exact hu)
      have q1 : n + 1 ≤ maxLen := by unfold maxLen; omega
      have q2 : (n + 1) * 8 ≤ 140737488355328 := by omega
      have q3 : w1.heap.size ≤ (wr.alloc (.cells #[.int .u64 m] 32)).heap.size := by have := hB.size; simp; omega
      have Q4 := Lib.hid (show ∀ u ∈ ([.int .u64 m] : List Value), u.oneCell' = true from fun u hu => by obtain rfl := List.mem_singleton.1 hu; rfl)
      go_wp2_with (at_builtin; go_loud (refine wpList_append_own _ rfl _ _ 76 rfl w1.heap.size 32 i0 (.int .u64 0) 1 8 und_nums hi hz0 hz1 hz2 rfl (by decide) _ _ _ rfl Hown1.out ⟨wr.heap.size, 0, none⟩ 1 1 [.int .u64 m] rfl rfl Hsrc.out Q4.out q1 q2 q3 ?_; intro v' w2 hown' hgrow hnil; clear hnil; have hb1 := (below_box wr (.cells #[.int .u64 m] 32)).mono hB.size; have Hbg := Lib.hid (hb1.grown hgrow q3 (fun k hk => (Hown1.out.lt k hk).1)); clear hb1 hgrow q1 q2 q3 Hown1 Hsrc Q4; obtain ⟨a2, cap3, rfl, hx1, hx2⟩ := owns_shape hown'; have Hown' := Lib.hid hown'; clear hown'))
      refine ⟨⟨n + 1, n + 1, a2, cap3, by simp, rfl, by omega, rfl, ?_, hB.trans Hbg.out⟩, ?_⟩
      · rw [Ht.out]
        unfold NumsAt
        have := Hown'.out
        have hl : ((ns.take n).map (fun (n : Nat) => (n : Int)) ++ [(m : Int)]).length = n + 1 := by simp; omega
        rw [hl]
        simpa [nums] using this
      · show ns.length - (((n : Int) + 1).toNat) < ns.length - ((n : Int).toNat)
        omega
    · obtain rfl : n = ns.length := by omega
      have hnum := Hnum.out
      rw [List.take_length] at hnum
      have Hnum := Lib.hid hnum; clear hnum
      go_wp2_with fail
      go_ret
      exact ⟨_, _, w1, rfl, hB0, Hq.out, hB, Hnum.out⟩

set_option maxRecDepth 100000 in
theorem arm_none (x : Value) (hx : ∃ a, x = .pointer a) (o : Opd) (hk : o.kind < 1 ∨ 10 < o.kind) (w : World) :
    Calls Try.prog 47 #[x, .agg #[.int .i64 o.kind, .int .u64 o.s.t, .int .u64 o.s.s, .int .u64 o.v]] w (Mid w Quiet []) := by
  obtain ⟨xa, rfl⟩ := hx
  obtain ⟨ok, os, ov⟩ := o
  simp only [] at hk ⊢
  have hB0 := below_box w (.cells #[.int .i64 ok, .int .u64 os.t, .int .u64 os.s, .int .u64 ov] 40)
  have h1 : (ok == 1) = false := by rw [beq_eq_false_iff_ne]; omega
  have h2 : (ok == 2) = false := by rw [beq_eq_false_iff_ne]; omega
  have h3 : (ok == 3) = false := by rw [beq_eq_false_iff_ne]; omega
  have h4 : (ok == 4) = false := by rw [beq_eq_false_iff_ne]; omega
  have h5 : (ok == 5) = false := by rw [beq_eq_false_iff_ne]; omega
  have h6 : (ok == 6) = false := by rw [beq_eq_false_iff_ne]; omega
  have h7 : (ok == 7) = false := by rw [beq_eq_false_iff_ne]; omega
  have h8 : (ok == 8) = false := by rw [beq_eq_false_iff_ne]; omega
  have h9 : (ok == 9) = false := by rw [beq_eq_false_iff_ne]; omega
  have h10 : (ok == 10) = false := by rw [beq_eq_false_iff_ne]; omega
  clear hk
  go_enter Try.func47, Try.ntmps47
  go_wp2_with fail
  go_ret
  exact ⟨_, _, _, rfl, hB0, Below.refl _ _, Below.refl _ _, World.ownsRow_nil _ _ 32 1⟩
end Go.Proofs.Ytagcohpghgnalaa.QA.doc
namespace Go.Proofs.Ytagcohpghgnalaa.QA.doc
open Go.RowKit Go.RG Go.Hp Go.Pg Go.Proofs.Ytagcohpghgnalaa Go.Proofs.Ytagcohpghgnalaa.RF Go.Proofs.Ytagcohpghgnalaa.U Go.Proofs.Ytagcohpghgnalaa.LB Go.Proofs.Ytagcohpghgnalaa.QA


theorem Mid.quiet {w w' : World} {v : Value} {l : List Int} (hb : Below w.heap.size w w') (hn : NumsAt w.heap.size w' v l) : Mid w Quiet l (.returned v) w' :=
  ⟨v, w, w, rfl, Below.refl _ _, Below.refl _ _, hb, hn⟩

set_option maxRecDepth 100000 in
theorem arm_len (x : Value) (hx : ∃ a, x = .pointer a) (o : Opd) (hk : o.kind = 4) (p : List Ent) (hp : p.length ≤ 274877906944) (w : World)
    (hP : ∀ w0, Below w.heap.size w w0 → Calls Try.prog 87 #[x] w0 (AllPost p w0)) :
    Calls Try.prog 47 #[x, .agg #[.int .i64 o.kind, .int .u64 o.s.t, .int .u64 o.s.s, .int .u64 o.v]] w (Mid w Quiet [p.length]) := by
  obtain ⟨xa, rfl⟩ := hx
  obtain ⟨ok, os, ov⟩ := o
  obtain rfl : ok = 4 := hk
  have hB0 := below_box w (.cells #[.int .i64 4, .int .u64 os.t, .int .u64 os.s, .int .u64 ov] 40)
  have HP := Lib.hid (hP _ hB0)
  go_enter Try.func47, Try.ntmps47
  go_wp2_with fail
  refine HP.out.mono ?_
  rintro e w1 ⟨v, rfl, hown, hb⟩
  obtain ⟨a, c, rfl, -⟩ := owns_shape hown
  clear hown
  go_wp2_with fail
  go_ret
  exact ⟨_, _, w1, rfl, hB0, hb, below_box _ _, nums_new w1 [(p.length : Int)] (by simp [maxLen])⟩
set_option maxRecDepth 100000 in
theorem arm_least (x : Value) (hx : ∃ a, x = .pointer a) (o : Opd) (hk : o.kind = 7) (p : List Ent) (hN : ∀ e ∈ p, NumV e.v) (w : World)
    (hP : ∀ w0, Below w.heap.size w w0 → Calls Try.prog 90 #[x, o.s.v] w0 (AllPost p w0)) :
    Calls Try.prog 47 #[x, .agg #[.int .i64 o.kind, .int .u64 o.s.t, .int .u64 o.s.s, .int .u64 o.v]] w (Mid w Quiet (firstNums p)) := by
  obtain ⟨xa, rfl⟩ := hx
  obtain ⟨ok, os, ov⟩ := o
  obtain rfl : ok = 7 := hk
  have hB0 := below_box w (.cells #[.int .i64 7, .int .u64 os.t, .int .u64 os.s, .int .u64 ov] 40)
  have HP := Lib.hid (hP _ hB0)
  simp only [] at HP
  unfold St.v at HP
  go_enter Try.func47, Try.ntmps47
  go_wp2_with fail
  refine HP.out.mono ?_
  rintro e w1 ⟨v, rfl, hown, hb⟩
  have HF := Lib.hid (first_any _ v p hN w1 hown)
  obtain ⟨a, c, rfl, -⟩ := owns_shape hown
  clear hown
  go_wp2_with fail
  refine HF.out.mono ?_
  rintro e w2 ⟨v', rfl, hn, hb2⟩
  obtain ⟨a2, c2, rfl, -⟩ := owns_shape hn
  have Hn := Lib.hid hn; clear hn
  go_wp2_with fail
  go_ret
  exact ⟨_, _, w1, rfl, hB0, hb, hb2, Hn.out⟩
set_option maxRecDepth 100000 in
theorem arm_greatest (x : Value) (hx : ∃ a, x = .pointer a) (o : Opd) (hk : o.kind = 8) (p : List Ent) (hN : ∀ e ∈ p, NumV e.v) (w : World)
    (hP : ∀ w0, Below w.heap.size w w0 → Calls Try.prog 91 #[x, o.s.v] w0 (AllPost p w0)) :
    Calls Try.prog 47 #[x, .agg #[.int .i64 o.kind, .int .u64 o.s.t, .int .u64 o.s.s, .int .u64 o.v]] w (Mid w Quiet (firstNums p)) := by
  obtain ⟨xa, rfl⟩ := hx
  obtain ⟨ok, os, ov⟩ := o
  obtain rfl : ok = 8 := hk
  have hB0 := below_box w (.cells #[.int .i64 8, .int .u64 os.t, .int .u64 os.s, .int .u64 ov] 40)
  have HP := Lib.hid (hP _ hB0)
  simp only [] at HP
  unfold St.v at HP
  go_enter Try.func47, Try.ntmps47
  go_wp2_with fail
  refine HP.out.mono ?_
  rintro e w1 ⟨v, rfl, hown, hb⟩
  have HF := Lib.hid (first_any _ v p hN w1 hown)
  obtain ⟨a, c, rfl, -⟩ := owns_shape hown
  clear hown
  go_wp2_with fail
  refine HF.out.mono ?_
  rintro e w2 ⟨v', rfl, hn, hb2⟩
  obtain ⟨a2, c2, rfl, -⟩ := owns_shape hn
  have Hn := Lib.hid hn; clear hn
  go_wp2_with fail
  go_ret
  exact ⟨_, _, w1, rfl, hB0, hb, hb2, Hn.out⟩

/-- a row of entries -/
def OwnQ (B : Nat) (p : List Ent) : RG.Spec := fun u w => ∃ a c, u = .slice a p.length c ∧ w.ownsRow B 60 3 u p.length (cellsOf p)
theorem OwnQ.st (B : Nat) (p : List Ent) : RG.Spec.stable (OwnQ B p) := fun _ _ _ ⟨a, c, h1, h2⟩ hb => ⟨a, c, h1, owns_below h2 hb⟩
set_option maxRecDepth 100000 in
theorem arm_up (x : Value) (hx : ∃ a, x = .pointer a) (o : Opd) (hk : o.kind = 9) (hv : 0 ≤ o.v ∧ o.v < 18446744073709551616) (p : List Ent) (hp : p.length ≤ 274877906) (hN : ∀ e ∈ p, NumV e.v) (w : World)
    (hP : ∀ w0, Below w.heap.size w w0 → Calls Try.prog 90 #[x, o.s.v] w0 (AllPost p w0)) :
    Calls Try.prog 47 #[x, .agg #[.int .i64 o.kind, .int .u64 o.s.t, .int .u64 o.s.s, .int .u64 o.v]] w (Mid w Quiet ((p.take (o.v % 64).toNat).flatMap entNums)) := by
  obtain ⟨xa, rfl⟩ := hx
  obtain ⟨ok, os, ov⟩ := o
  obtain rfl : ok = 9 := hk
  have hB0 := below_box w (.cells #[.int .i64 9, .int .u64 os.t, .int .u64 os.s, .int .u64 ov] 40)
  have hv : 0 ≤ ov ∧ ov < 18446744073709551616 := hv
  obtain ⟨hv1, hv2⟩ := hv
  obtain ⟨m, hm⟩ : ∃ m : Nat, ov % 64 = (m : Int) := ⟨(ov % 64).toNat, by omega⟩
  have hm2 : (ov % 64).toNat = m := by omega
  have hm3 : m < 64 := by omega
  simp only [hm2]
  clear hm2
  have HP := Lib.hid hP; clear hP
  simp only [] at HP
  unfold St.v at HP
  have y1 : (w.alloc (.cells #[.int .i64 9, .int .u64 os.t, .int .u64 os.s, .int .u64 ov] 40)).cell? ⟨w.heap.size, 1, none⟩ = some (.int .u64 os.t) := by simp
  have y2 : (w.alloc (.cells #[.int .i64 9, .int .u64 os.t, .int .u64 os.s, .int .u64 ov] 40)).cell? ⟨w.heap.size, 2, none⟩ = some (.int .u64 os.s) := by simp
  have y3 : (w.alloc (.cells #[.int .i64 9, .int .u64 os.t, .int .u64 os.s, .int .u64 ov] 40)).cell? ⟨w.heap.size, 3, none⟩ = some (.int .u64 ov) := by simp
  go_enter Try.func47, Try.ntmps47
  go_wp2_with fail
  generalize w.alloc (.cells #[.int .i64 9, .int .u64 os.t, .int .u64 os.s, .int .u64 ov] 40) = w0 at hB0 y1 y2 y3 ⊢
  refine wp_region_rg_tail 8 (fun i => if i = 3 then some (OwnQ w.heap.size p) else none) fol (by kernel_rfl) (fun W hW hh => ?_)
  clear hh
  have hBW := hB0.trans (hW.mono hB0.size)
  have q0 : ∀ w1, Below W.heap.size W w1 → w1.cell? ⟨w.heap.size, 1, none⟩ = some (.int .u64 os.t) := fun w1 h => below_cell (below_trans hW h) y1
  have q1 : ∀ w1, Below W.heap.size W w1 → w1.cell? ⟨w.heap.size, 2, none⟩ = some (.int .u64 os.s) := fun w1 h => below_cell (below_trans hW h) y2
  have q2 : ∀ w1, Below W.heap.size W w1 → w1.cell? ⟨w.heap.size, 3, none⟩ = some (.int .u64 ov) := fun w1 h => below_cell (below_trans hW h) y3
  simp only [List.take_succ_cons, List.take_zero, List.drop_succ_cons, List.drop_zero]
  repeat (first
    | (refine lex_move _ (by first | exact Or.inl rfl | exact Or.inr rfl) rfl rfl ?_
       simp only [Act.put, Act.eval, Array.getD_eq_getD_getElem?, List.getElem?_toArray, List.getElem?_cons_zero, List.getElem?_cons_succ, Option.getD_some, List.setIfInBounds_toArray, List.set_cons_succ, List.set_cons_zero]
      )
    | (refine lex_float ?_ rfl rfl (fun w1 hb1 hf1 => ?_) ?_
       rotate_left
       (go_simp; (try simp (disch := omega) only [IntWalk.i64_quo, IntWalk.rem_in, IntWalk.i64_in, IntWalk.u64_in, IntWalk.u32_in, IntWalk.u8_in, IntWalk.toNatUp, IntWalk.iteOmega]); (try go_simp); rfl)
       simp only [Act.put, Act.eval, Array.getD_eq_getD_getElem?, List.getElem?_toArray, List.getElem?_cons_zero, List.getElem?_cons_succ, Option.getD_some, List.setIfInBounds_toArray, List.set_cons_succ, List.set_cons_zero]
      )
    | (refine lex_skip rfl ?_
       simp only [Act.put, Act.eval, Array.getD_eq_getD_getElem?, List.getElem?_toArray, List.getElem?_cons_zero, List.getElem?_cons_succ, Option.getD_some, List.setIfInBounds_toArray, List.set_cons_succ, List.set_cons_zero]
      ))
  refine lex_make _ rfl (by exact OwnQ.st _ _) rfl (fun w1 hb1 hf1 => ?_) ?_
  · have hb1' := hb1
    (unfold makes; go_simp; simp only [makesUpon])
    refine (HP.out w1 (hBW.trans (hb1'.mono hBW.size))).mono ?_
    rintro e w' ⟨v, rfl, hown, hb⟩
    obtain ⟨a, c, rfl, -⟩ := owns_shape hown
    exact ⟨_, rfl, hb, a, c, rfl, owns_base hown fun k hk => by have h1 := (hown.lt k hk).1; have h2 := hBW.size; have h3 := hb1'.size; omega⟩
  rintro u w2 hB2 ⟨au, cu, rfl, hu⟩
  have Hu := Lib.hid hu; clear hu
  simp only [Act.put, Act.eval, Array.getD_eq_getD_getElem?, List.getElem?_toArray, List.getElem?_cons_zero, List.getElem?_cons_succ, Option.getD_some, List.setIfInBounds_toArray, List.set_cons_succ, List.set_cons_zero]
  repeat (first
    | (refine lex_move _ (by first | exact Or.inl rfl | exact Or.inr rfl) rfl rfl ?_
       simp only [Act.put, Act.eval, Array.getD_eq_getD_getElem?, List.getElem?_toArray, List.getElem?_cons_zero, List.getElem?_cons_succ, Option.getD_some, List.setIfInBounds_toArray, List.set_cons_succ, List.set_cons_zero]
      )
    | (refine lex_float ?_ rfl rfl (fun w1 hb1 hf1 => ?_) ?_
       rotate_left
       (go_simp; (try simp (disch := omega) only [IntWalk.i64_quo, IntWalk.rem_in, IntWalk.i64_in, IntWalk.u64_in, IntWalk.u32_in, IntWalk.u8_in, IntWalk.toNatUp, IntWalk.iteOmega]); (try go_simp); rfl)
       simp only [Act.put, Act.eval, Array.getD_eq_getD_getElem?, List.getElem?_toArray, List.getElem?_cons_zero, List.getElem?_cons_succ, Option.getD_some, List.setIfInBounds_toArray, List.set_cons_succ, List.set_cons_zero]
      )
    | (refine lex_skip rfl ?_
       simp only [Act.put, Act.eval, Array.getD_eq_getD_getElem?, List.getElem?_toArray, List.getElem?_cons_zero, List.getElem?_cons_succ, Option.getD_some, List.setIfInBounds_toArray, List.set_cons_succ, List.set_cons_zero]
      ))
  refine lex_nil ?_
  clear q0 q1 q2
  have hBw := hBW.trans (hB2.mono hBW.size)
  have HE := Lib.hid (fun m => entries_any _ m _ p hp hN w2 Hu.out)
  go_wp2_with fail
  refine (HE.out m).mono ?_
  rintro e w3 ⟨v', rfl, hn, hb2⟩
  obtain ⟨a2, c2, hv', -⟩ := owns_shape hn
  have Hn := Lib.hid hn; clear hn
  generalize ((p.take m).flatMap entNums).length = L at hv'
  subst hv'
  go_wp2_with fail
  go_ret
  exact Mid.quiet (hBw.trans (hb2.mono hBw.size)) (Hn.out.base hBw.size)
set_option maxRecDepth 100000 in
theorem arm_down (x : Value) (hx : ∃ a, x = .pointer a) (o : Opd) (hk : o.kind = 10) (hv : 0 ≤ o.v ∧ o.v < 18446744073709551616) (p : List Ent) (hp : p.length ≤ 274877906) (hN : ∀ e ∈ p, NumV e.v) (w : World)
    (hP : ∀ w0, Below w.heap.size w w0 → Calls Try.prog 91 #[x, o.s.v] w0 (AllPost p w0)) :
    Calls Try.prog 47 #[x, .agg #[.int .i64 o.kind, .int .u64 o.s.t, .int .u64 o.s.s, .int .u64 o.v]] w (Mid w Quiet ((p.take (o.v % 64).toNat).flatMap entNums)) := by
  obtain ⟨xa, rfl⟩ := hx
  obtain ⟨ok, os, ov⟩ := o
  obtain rfl : ok = 10 := hk
  have hB0 := below_box w (.cells #[.int .i64 10, .int .u64 os.t, .int .u64 os.s, .int .u64 ov] 40)
  have hv : 0 ≤ ov ∧ ov < 18446744073709551616 := hv
  obtain ⟨hv1, hv2⟩ := hv
  obtain ⟨m, hm⟩ : ∃ m : Nat, ov % 64 = (m : Int) := ⟨(ov % 64).toNat, by omega⟩
  have hm2 : (ov % 64).toNat = m := by omega
  have hm3 : m < 64 := by omega
  simp only [hm2]
  clear hm2
  have HP := Lib.hid hP; clear hP
  simp only [] at HP
  unfold St.v at HP
  have y1 : (w.alloc (.cells #[.int .i64 10, .int .u64 os.t, .int .u64 os.s, .int .u64 ov] 40)).cell? ⟨w.heap.size, 1, none⟩ = some (.int .u64 os.t) := by simp
  have y2 : (w.alloc (.cells #[.int .i64 10, .int .u64 os.t, .int .u64 os.s, .int .u64 ov] 40)).cell? ⟨w.heap.size, 2, none⟩ = some (.int .u64 os.s) := by simp
  have y3 : (w.alloc (.cells #[.int .i64 10, .int .u64 os.t, .int .u64 os.s, .int .u64 ov] 40)).cell? ⟨w.heap.size, 3, none⟩ = some (.int .u64 ov) := by simp
  go_enter Try.func47, Try.ntmps47
  go_wp2_with fail
  generalize w.alloc (.cells #[.int .i64 10, .int .u64 os.t, .int .u64 os.s, .int .u64 ov] 40) = w0 at hB0 y1 y2 y3 ⊢
  refine wp_region_rg_tail 8 (fun i => if i = 3 then some (OwnQ w.heap.size p) else none) fol (by kernel_rfl) (fun W hW hh => ?_)
  clear hh
  have hBW := hB0.trans (hW.mono hB0.size)
  have q0 : ∀ w1, Below W.heap.size W w1 → w1.cell? ⟨w.heap.size, 1, none⟩ = some (.int .u64 os.t) := fun w1 h => below_cell (below_trans hW h) y1
  have q1 : ∀ w1, Below W.heap.size W w1 → w1.cell? ⟨w.heap.size, 2, none⟩ = some (.int .u64 os.s) := fun w1 h => below_cell (below_trans hW h) y2
  have q2 : ∀ w1, Below W.heap.size W w1 → w1.cell? ⟨w.heap.size, 3, none⟩ = some (.int .u64 ov) := fun w1 h => below_cell (below_trans hW h) y3
  simp only [List.take_succ_cons, List.take_zero, List.drop_succ_cons, List.drop_zero]
  repeat (first
    | (refine lex_move _ (by first | exact Or.inl rfl | exact Or.inr rfl) rfl rfl ?_
       simp only [Act.put, Act.eval, Array.getD_eq_getD_getElem?, List.getElem?_toArray, List.getElem?_cons_zero, List.getElem?_cons_succ, Option.getD_some, List.setIfInBounds_toArray, List.set_cons_succ, List.set_cons_zero]
      )
    | (refine lex_float ?_ rfl rfl (fun w1 hb1 hf1 => ?_) ?_
       rotate_left
       (go_simp; (try simp (disch := omega) only [IntWalk.i64_quo, IntWalk.rem_in, IntWalk.i64_in, IntWalk.u64_in, IntWalk.u32_in, IntWalk.u8_in, IntWalk.toNatUp, IntWalk.iteOmega]); (try go_simp); rfl)
       simp only [Act.put, Act.eval, Array.getD_eq_getD_getElem?, List.getElem?_toArray, List.getElem?_cons_zero, List.getElem?_cons_succ, Option.getD_some, List.setIfInBounds_toArray, List.set_cons_succ, List.set_cons_zero]
      )
    | (refine lex_skip rfl ?_
       simp only [Act.put, Act.eval, Array.getD_eq_getD_getElem?, List.getElem?_toArray, List.getElem?_cons_zero, List.getElem?_cons_succ, Option.getD_some, List.setIfInBounds_toArray, List.set_cons_succ, List.set_cons_zero]
      ))
  refine lex_make _ rfl (by exact OwnQ.st _ _) rfl (fun w1 hb1 hf1 => ?_) ?_
  · have hb1' := hb1
    (unfold makes; go_simp; simp only [makesUpon])
    refine (HP.out w1 (hBW.trans (hb1'.mono hBW.size))).mono ?_
    rintro e w' ⟨v, rfl, hown, hb⟩
    obtain ⟨a, c, rfl, -⟩ := owns_shape hown
    exact ⟨_, rfl, hb, a, c, rfl, owns_base hown fun k hk => by have h1 := (hown.lt k hk).1; have h2 := hBW.size; have h3 := hb1'.size; omega⟩
  rintro u w2 hB2 ⟨au, cu, rfl, hu⟩
  have Hu := Lib.hid hu; clear hu
  simp only [Act.put, Act.eval, Array.getD_eq_getD_getElem?, List.getElem?_toArray, List.getElem?_cons_zero, List.getElem?_cons_succ, Option.getD_some, List.setIfInBounds_toArray, List.set_cons_succ, List.set_cons_zero]
  repeat (first
    | (refine lex_move _ (by first | exact Or.inl rfl | exact Or.inr rfl) rfl rfl ?_
       simp only [Act.put, Act.eval, Array.getD_eq_getD_getElem?, List.getElem?_toArray, List.getElem?_cons_zero, List.getElem?_cons_succ, Option.getD_some, List.setIfInBounds_toArray, List.set_cons_succ, List.set_cons_zero]
      )
    | (refine lex_float ?_ rfl rfl (fun w1 hb1 hf1 => ?_) ?_
       rotate_left
       (go_simp; (try simp (disch := omega) only [IntWalk.i64_quo, IntWalk.rem_in, IntWalk.i64_in, IntWalk.u64_in, IntWalk.u32_in, IntWalk.u8_in, IntWalk.toNatUp, IntWalk.iteOmega]); (try go_simp); rfl)
       simp only [Act.put, Act.eval, Array.getD_eq_getD_getElem?, List.getElem?_toArray, List.getElem?_cons_zero, List.getElem?_cons_succ, Option.getD_some, List.setIfInBounds_toArray, List.set_cons_succ, List.set_cons_zero]
      )
    | (refine lex_skip rfl ?_
       simp only [Act.put, Act.eval, Array.getD_eq_getD_getElem?, List.getElem?_toArray, List.getElem?_cons_zero, List.getElem?_cons_succ, Option.getD_some, List.setIfInBounds_toArray, List.set_cons_succ, List.set_cons_zero]
      ))
  refine lex_nil ?_
  clear q0 q1 q2
  have hBw := hBW.trans (hB2.mono hBW.size)
  have HE := Lib.hid (fun m => entries_any _ m _ p hp hN w2 Hu.out)
  go_wp2_with fail
  refine (HE.out m).mono ?_
  rintro e w3 ⟨v', rfl, hn, hb2⟩
  obtain ⟨a2, c2, hv', -⟩ := owns_shape hn
  have Hn := Lib.hid hn; clear hn
  generalize ((p.take m).flatMap entNums).length = L at hv'
  subst hv'
  go_wp2_with fail
  go_ret
  exact Mid.quiet (hBw.trans (hb2.mono hBw.size)) (Hn.out.base hBw.size)
end Go.Proofs.Ytagcohpghgnalaa.QA.doc
