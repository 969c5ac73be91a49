/-
  Small functions of the laws of layer 7: bit, two, same, first, entries.
-/
import Derived.Test.YtagcohpghgnalaaCGR3
import Derived.Test.YtagcohpghgnalaaCIT
import Derived.Test.YtagcohpghgnalaaCGA
set_option linter.unusedSimpArgs false
set_option linter.unusedVariables false
namespace Go.Proofs.Ytagcohpghgnalaa.QA
open Go.RowKit Go.RG Go.Hp Go.Pg Go.Proofs.Ytagcohpghgnalaa Go.Proofs.Ytagcohpghgnalaa.RF Go.Proofs.Ytagcohpghgnalaa.U


theorem und_nums : Try.prog.underlying 76 = some (.slice 32) := by kernel_rfl
theorem info_num : (Try.prog.info? 32).map (fun i => (i.zero, i.size, i.bytes)) = some (some (.int .u64 0), 1, 8) := by kernel_rfl

def nums (l : List Int) : List Value := l.map (Value.int .u64 ·)
theorem nums_length (l : List Int) : (nums l).length = l.length := by simp [nums]
/-- a row of numbers -/
def NumsAt (B : Nat) (w : World) (v : Value) (l : List Int) : Prop := w.ownsRow B 32 1 v l.length (nums l)
theorem NumsAt.below {B : Nat} {w w' : World} {v : Value} {l : List Int} (h : NumsAt B w v l) (hb : Below w.heap.size w w') : NumsAt B w' v l := owns_below h hb
theorem NumsAt.base {B B' : Nat} {w : World} {v : Value} {l : List Int} (h : NumsAt B w v l) (hb : B' ≤ B) : NumsAt B' w v l := owns_base h fun k hk => Nat.le_trans hb (h.lt k hk).1
/-- a row that has just been laid -/
theorem nums_new (w : World) (l : List Int) (hl : l.length ≤ maxLen) : NumsAt w.heap.size (w.alloc (.cells (nums l).toArray 32)) (.slice (some ⟨w.heap.size, 0, none⟩) l.length l.length) l :=
  owns_of_row (row_new w (nums l) 32) (by simp [nums]) (Nat.le_refl _) hl (by rw [Nat.mul_one]; exact List.take_of_length_le (by simp [nums])) (Nat.le_refl _)

def bitN (b : Bool) : Int := if b then 1 else 0
theorem bit_any (b : Bool) (w : World) : Calls Try.prog 81 #[.bool b] w fun e w' => e = .returned (.int .u64 (bitN b)) ∧ w = w' := by
  cases b <;> (go_enter Try.func81, Try.ntmps81; go_wp2; go_ret; exact ⟨rfl, rfl⟩)

set_option maxRecDepth 100000 in
theorem two_any (B : Nat) (v : Value) (l : List Int) (s : St) (x : Int) (hl : l.length ≤ 274877906944) (w w0 : World) (hB : Below B w0 w) (h0 : B ≤ w0.heap.size) (h : NumsAt B w v l) :
    Calls Try.prog 82 #[v, s.v, .int .u64 x] w fun e w' => ∃ v', e = .returned v' ∧ NumsAt B w' v' (l ++ [s.t, s.s, x]) ∧ Below B w0 w' := by
  unfold NumsAt at h
  obtain ⟨a, c, rfl, -⟩ := owns_shape h
  have hb1 := below_box w (.cells #[.int .u64 s.t, .int .u64 s.s] 38)
  obtain ⟨W, hW⟩ : ∃ W, W = (w.alloc (.cells #[.int .u64 s.t, .int .u64 s.s] 38)) := ⟨_, rfl⟩
  have hb2 := below_box (w.alloc (.cells #[.int .u64 s.t, .int .u64 s.s] 38)) (.cells #[.int .u64 s.t, .int .u64 s.s, .int .u64 x] 32)
  have Hown := Lib.hid (owns_below (owns_below h hb1) hb2)
  have hsz := hB.size
  have hbb : Below B w0 ((w.alloc (.cells #[.int .u64 s.t, .int .u64 s.s] 38)).alloc (.cells #[.int .u64 s.t, .int .u64 s.s, .int .u64 x] 32)) := (hB.alloc (by omega) _).alloc (by simp; omega) _
  have Hsrc := Lib.hid (show ∀ (j : Nat) (u : Value), ([.int .u64 s.t, .int .u64 s.s, .int .u64 x] : List Value)[j]? = some u → ((w.alloc (.cells #[.int .u64 s.t, .int .u64 s.s] 38)).alloc (.cells #[.int .u64 s.t, .int .u64 s.s, .int .u64 x] 32)).cell? ((⟨(w.alloc (.cells #[.int .u64 s.t, .int .u64 s.s] 38)).heap.size, 0, none⟩ : Addr).add j) = some u from fun j u hu => by
    have hr : Row ((w.alloc (.cells #[.int .u64 s.t, .int .u64 s.s] 38)).alloc (.cells #[.int .u64 s.t, .int .u64 s.s, .int .u64 x] 32)) _ 32 [.int .u64 s.t, .int .u64 s.s, .int .u64 x] := row_new _ [.int .u64 s.t, .int .u64 s.s, .int .u64 x] 32
    rw [Addr.add_lit, Nat.zero_add, hr.cell]; exact hu)
  have q1 : l.length + 3 ≤ maxLen := by unfold maxLen; omega
  have q2 : (l.length + 3) * 8 ≤ 140737488355328 := by omega
  have q3 : B ≤ ((w.alloc (.cells #[.int .u64 s.t, .int .u64 s.s] 38)).alloc (.cells #[.int .u64 s.t, .int .u64 s.s, .int .u64 x] 32)).heap.size := by simp; omega
  have Q1 := Lib.hid (BK.one3 s x)
  clear h hW W
  obtain ⟨i0, hi, hz0, hz1, hz2⟩ := info_parts info_num
  unfold St.v
  go_enter Try.func82, Try.ntmps82
  go_wp2_with (at_builtin; go_loud (refine wpList_append_own _ rfl _ _ 76 rfl B 32 i0 (.int .u64 0) 1 8 und_nums hi hz0 hz1 hz2 rfl (by decide) _ _ _ rfl Hown.out ⟨w.heap.size + 1, 0, none⟩ 3 3 [.int .u64 s.t, .int .u64 s.s, .int .u64 x] rfl rfl (by simpa using Hsrc.out) Q1.out q1 q2 q3 ?_; intro v' w1 hown' hgrow hnil; clear hnil; have Hbg := Lib.hid (hbb.grown hgrow q3 (fun k hk => (Hown.out.lt k hk).1)); clear hgrow; obtain ⟨a2, cap3, rfl, hx1, hx2⟩ := owns_shape hown'; have Hown' := Lib.hid hown'; clear hown'))
  go_ret
  refine ⟨_, rfl, ?_, Hbg.out⟩
  unfold NumsAt
  have := Hown'.out
  simpa [nums] using this

section
variable {P : Program}
/-- append, and where the list lies then -/
theorem wpList_append_own3 {w : World} {ops : Array Oper} {rest : List Oper} {o : Oper} {a : Act} {Q : Exit → Act → World → Prop} (hgd : o.guard = none) (s x : Operand) (t : TypeId)
    (ho : o.op = .call { callee := .builtin .append, args := #[s, x], argTypes := #[t, t] })
    (base : Nat) (e : TypeId) (i : TypeInfo) (z : Value) (size bytes : Nat) (ht : P.underlying t = some (.slice e)) (hi : P.info? e = some i) (hz : i.zero = some z)
    (hsize : i.size = size) (hby : i.bytes = bytes) (hzs : z.cells.size = size) (hsz : 0 < size)
    (v : Value) (n : Nat) (xs : List Value) (hs : a.eval s = v) (hown : w.ownsRow base e size v n xs)
    (ad : Addr) (m c : Nat) (news : List Value) (hx : a.eval x = .slice (some ad) m c) (hl : news.length = m * size) (hnews : ∀ j u, news[j]? = some u → w.cell? (ad.add j) = some u) (h1 : ∀ u ∈ news, u.oneCell' = true)
    (h63 : n + m ≤ maxLen) (hbytes : (n + m) * bytes ≤ 140737488355328) (hbase : base ≤ w.heap.size)
    (h : ∀ v' w', w'.ownsRow base e size v' (n + m) (xs ++ news) → w.grownBy w' v.ownBlock → (∀ k, v'.ownBlock = some k → v.ownBlock = some k ∨ w.heap.size ≤ k) → wpList P ops Q rest (a.put o.dst v') w') : wpList P ops Q (o :: rest) a w := by
  rcases hown.2 with ⟨hv, hn⟩ | ⟨g, cap, cur, hv, _⟩
  · subst hv hn
    obtain rfl : xs = [] := List.eq_nil_of_length_eq_zero (by have := hown.1; omega)
    exact wpList_append_own w hgd s x t ho w.heap.size e i z size bytes ht hi hz hsize hby hzs hsz _ 0 [] hs (World.ownsRow_nil _ _ e size) ad m c news hx hl hnews h1 h63 hbytes (Nat.le_refl _)
      fun v' w' q1 q2 _ => h v' w' (owns_base q1 fun k hk => Nat.le_trans hbase (q1.lt k hk).1) q2 fun k hk => .inr (q1.lt k hk).1
  · subst hv
    exact wpList_append_own2 hgd s x t ho base e i z size bytes ht hi hz hsize hby hzs hsz g n cap xs hs hown ad m c news hx hl hnews h1 h63 hbytes hbase
      fun v' w' q1 q2 q3 => h v' w' q1 q2 fun k hk => (q3 k hk).elim (fun e => .inl (by rw [e]; rfl)) .inr
end

set_option maxRecDepth 100000 in
/-- two, told exactly: only the list's own row may be written -/
theorem two_ext (B : Nat) (v : Value) (l : List Int) (s : St) (x : Int) (hl : l.length ≤ 274877906944) (w : World) (h0 : B ≤ w.heap.size) (h : NumsAt B w v l) :
    Calls Try.prog 82 #[v, s.v, .int .u64 x] w fun e w' => ∃ v', e = .returned v' ∧ NumsAt B w' v' (l ++ [s.t, s.s, x]) ∧ Ext (fun k => v.ownBlock = some k) w w' ∧ (∀ k, v'.ownBlock = some k → v.ownBlock = some k ∨ w.heap.size ≤ k) := by
  unfold NumsAt at h
  obtain ⟨a, c, rfl, -⟩ := owns_shape h
  have hb1 := below_box w (.cells #[.int .u64 s.t, .int .u64 s.s] 38)
  have hb2 := below_box (w.alloc (.cells #[.int .u64 s.t, .int .u64 s.s] 38)) (.cells #[.int .u64 s.t, .int .u64 s.s, .int .u64 x] 32)
  have hbb := below_trans hb1 hb2
  have Hown := Lib.hid (owns_below h hbb)
  have Hsrc := Lib.hid (show ∀ (j : Nat) (u : Value), ([.int .u64 s.t, .int .u64 s.s, .int .u64 x] : List Value)[j]? = some u → ((w.alloc (.cells #[.int .u64 s.t, .int .u64 s.s] 38)).alloc (.cells #[.int .u64 s.t, .int .u64 s.s, .int .u64 x] 32)).cell? ((⟨(w.alloc (.cells #[.int .u64 s.t, .int .u64 s.s] 38)).heap.size, 0, none⟩ : Addr).add j) = some u from fun j u hu => by
    have hr : Row ((w.alloc (.cells #[.int .u64 s.t, .int .u64 s.s] 38)).alloc (.cells #[.int .u64 s.t, .int .u64 s.s, .int .u64 x] 32)) _ 32 [.int .u64 s.t, .int .u64 s.s, .int .u64 x] := row_new _ [.int .u64 s.t, .int .u64 s.s, .int .u64 x] 32
    rw [Addr.add_lit, Nat.zero_add, hr.cell]; exact hu)
  have q1 : l.length + 3 ≤ maxLen := by unfold maxLen; omega
  have q2 : (l.length + 3) * 8 ≤ 140737488355328 := by omega
  have q3 : B ≤ ((w.alloc (.cells #[.int .u64 s.t, .int .u64 s.s] 38)).alloc (.cells #[.int .u64 s.t, .int .u64 s.s, .int .u64 x] 32)).heap.size := by simp; omega
  have Q1 := Lib.hid (BK.one3 s x)
  clear h
  obtain ⟨i0, hi, hz0, hz1, hz2⟩ := info_parts info_num
  unfold St.v
  go_enter Try.func82, Try.ntmps82
  go_wp2_with (at_builtin; go_loud (refine wpList_append_own3 rfl _ _ 76 rfl B 32 i0 (.int .u64 0) 1 8 und_nums hi hz0 hz1 hz2 rfl (by decide) _ _ _ rfl Hown.out ⟨w.heap.size + 1, 0, none⟩ 3 3 [.int .u64 s.t, .int .u64 s.s, .int .u64 x] rfl rfl (by simpa using Hsrc.out) Q1.out q1 q2 q3 ?_; intro v' w1 hown' hgrow hnil; have Hg := Lib.hid (And.intro hgrow hnil); clear hgrow hnil; obtain ⟨a2, cap3, rfl, hx1, hx2⟩ := owns_shape hown'; have Hown' := Lib.hid hown'; clear hown'))
  go_ret
  obtain ⟨hg, hn⟩ := Hg.out
  refine ⟨_, rfl, ?_, (Ext.of_below hbb).trans (Ext.grown hg (S := fun k => (Value.slice a l.length c).ownBlock = some k) fun k hk _ => hk) fun k _ h => h, fun k hk => (hn k hk).imp id fun h => by simp at h; omega⟩
  unfold NumsAt
  have := Hown'.out
  simpa [nums] using this

theorem nums_cell {B : Nat} {w : World} {v : Value} {l : List Int} (h : NumsAt B w v l) : ∃ a c, v = .slice a l.length c ∧ ∀ i, i < l.length → ∃ g, a = some ⟨g, 0, none⟩ ∧ g < w.heap.size ∧ w.cell? ⟨g, i, none⟩ = some (.int .u64 (l.getD i 0)) := by
  unfold NumsAt at h
  obtain ⟨a, c, hv, -⟩ := owns_shape h
  refine ⟨a, c, hv, fun i hi => ?_⟩
  obtain ⟨g, c', e, _, hg, _, _, hc, _⟩ := owns_parts h (by omega)
  rw [hv] at e
  injection e with e _ _
  refine ⟨g, e, hg, ?_⟩
  rw [hc i (by omega)]
  simp [nums, hi]

set_option maxRecDepth 100000 in
theorem same_any (B B' : Nat) (v v' : Value) (l : List Int) (hl : l.length ≤ 274877906944) (w : World) (h : NumsAt B w v l) (h' : NumsAt B' w v' l) :
    Calls Try.prog 45 #[v, v'] w fun e w' => e = .returned (.bool true) ∧ Below w.heap.size w w' := by
  obtain ⟨a, c, rfl, hc⟩ := nums_cell h
  obtain ⟨a', c', rfl, hc'⟩ := nums_cell h'
  clear h h'
  have Hc := Lib.hid (And.intro hc hc'); clear hc hc'
  go_enter Try.func45, Try.ntmps45
  go_wp2_with fail
  go_loopw [5] (fun vi wr => ∃ i : Nat, vi = .int .i64 i ∧ i ≤ l.length ∧ Below w.heap.size w wr) (fun vi _ => l.length - (intOf vi).toNat)
  case atStart => exact ⟨0, rfl, by omega, Below.refl _ _⟩
  case round =>
    obtain ⟨i, rfl, hin, hB⟩ := hrel
    by_cases hlt : i < l.length
    · have hii : (i : Int) < (l.length : Int) := by omega
      obtain ⟨g, rfl, hg, z0⟩ := Hc.out.1 i hlt
      obtain ⟨g', rfl, hg', z1⟩ := Hc.out.2 i hlt
      have z0 := below_cell hB z0
      have z1 := below_cell hB z1
      go_wp2_with fail
      refine wp_region_rg (fun _ => none) fol (by kernel_rfl) (fun W hW hh => ?_)
      clear hh
      have q0 : ∀ w1, Below W.heap.size W w1 → w1.cell? ⟨g, i, none⟩ = some (.int .u64 (l.getD i 0)) := fun w1 h => below_cell (below_trans hW h) z0
      have q1 : ∀ w1, Below W.heap.size W w1 → w1.cell? ⟨g', i, none⟩ = some (.int .u64 (l.getD i 0)) := fun w1 h => below_cell (below_trans hW h) z1
      generalize l.getD i 0 = num at q0 q1 z0 z1
      repeat (first
        | (refine lex_move _ (by first | exact Or.inl rfl | exact Or.inr rfl) rfl rfl ?_
           simp only [Act.put, Act.eval, Array.getD_eq_getD_getElem?, List.getElem?_toArray, List.getElem?_cons_zero, List.getElem?_cons_succ, Option.getD_some, List.setIfInBounds_toArray, List.set_cons_succ, List.set_cons_zero]
          )
        | (refine lex_float ?_ rfl rfl (fun w1 hb1 hf1 => ?_) ?_
           rotate_left
           (go_simp; (try simp (disch := omega) only [IntWalk.i64_quo, IntWalk.rem_in, IntWalk.i64_in, IntWalk.u64_in, IntWalk.u32_in, IntWalk.u8_in, IntWalk.toNatUp, IntWalk.iteOmega]); (try go_simp); rfl)
           simp only [Act.put, Act.eval, Array.getD_eq_getD_getElem?, List.getElem?_toArray, List.getElem?_cons_zero, List.getElem?_cons_succ, Option.getD_some, List.setIfInBounds_toArray, List.set_cons_succ, List.set_cons_zero]
          )
        | (refine lex_skip rfl ?_
           simp only [Act.put, Act.eval, Array.getD_eq_getD_getElem?, List.getElem?_toArray, List.getElem?_cons_zero, List.getElem?_cons_succ, Option.getD_some, List.setIfInBounds_toArray, List.set_cons_succ, List.set_cons_zero]
          ))
      clear q0 q1
      refine lex_nil ?_
      go_wp2_with fail
      refine ⟨⟨i + 1, by simp, by omega, hB.trans (hW.mono hB.size)⟩, ?_⟩
      show l.length - (((i : Int) + 1).toNat) < l.length - ((i : Int).toNat)
      omega
    · obtain rfl : i = l.length := by omega
      go_wp2_with fail
      go_ret
      exact ⟨rfl, hB⟩

/-- a row of the number one -/
def OneRow (B : Nat) : RG.Spec := fun u w => ∃ g, u = .slice (some ⟨g, 0, none⟩) 1 1 ∧ NumsAt B w u [1]
theorem OneRow.st (B : Nat) : RG.Spec.stable (OneRow B) := fun _ _ _ ⟨g, h1, h2⟩ hb => ⟨g, h1, h2.below hb⟩
/-- an entry as numbers -/
def entNums (e : Ent) : List Int := [e.k.t, e.k.s, numOf e.v]
def firstNums : List Ent → List Int
  | [] => [0, 0, 0, 0]
  | e :: _ => 1 :: entNums e

set_option maxRecDepth 100000 in
theorem first_any (B : Nat) (v : Value) (p : List Ent) (hN : ∀ e ∈ p, U.NumV e.v) (w : World) (h : w.ownsRow B 60 3 v p.length (cellsOf p)) :
    Calls Try.prog 89 #[v] w fun e w' => ∃ v', e = .returned v' ∧ NumsAt w.heap.size w' v' (firstNums p) ∧ Below w.heap.size w w' := by
  cases p with
  | nil =>
    obtain ⟨a, c, rfl, -⟩ := owns_shape h
    clear h
    go_enter Try.func89, Try.ntmps89
    go_wp2_with fail
    go_ret
    exact ⟨_, rfl, nums_new w [0, 0, 0, 0] (by decide), below_box _ _⟩
  | cons e r =>
    obtain ⟨num, hnum⟩ := hN e (by simp)
    have hN0 : (((r.length + 1 : Nat) : Int) == 0) = false := by rw [beq_eq_false_iff_ne]; omega
    obtain ⟨g, c, rfl, -, hg, hc, -⟩ := owns_parts h (by simp)
    obtain ⟨z0, z1, z2⟩ := BK.book_cells (i := 0) h (by simp)
    have e0 : ent (e :: r) 0 = e := rfl
    rw [e0] at z0 z1 z2
    rw [hnum] at z2
    simp only [Nat.zero_mul, Nat.zero_add, List.length_cons] at z0 z1 z2 hN0 ⊢
    have hpos : (0 : Int) < (r.length : Int) + 1 := by omega
    clear h hN hc
    go_enter Try.func89, Try.ntmps89
    go_wp2_with fail
    refine wp_region_rg_tail 9 (fun i => if i = 0 then some (OneRow w.heap.size) else none) fol (by kernel_rfl) (fun W hW hh => ?_)
    clear hh
    have q0 : ∀ w1, Below W.heap.size W w1 → w1.cell? ⟨g, 0, none⟩ = some (.int .u64 e.k.t) := fun w1 h => below_cell (below_trans hW h) z0
    have q1 : ∀ w1, Below W.heap.size W w1 → w1.cell? ⟨g, 1, none⟩ = some (.int .u64 e.k.s) := fun w1 h => below_cell (below_trans hW h) z1
    have q2 : ∀ w1, Below W.heap.size W w1 → w1.cell? ⟨g, 2, none⟩ = some (.int .u64 num) := fun w1 h => below_cell (below_trans hW h) z2
    simp only [List.take_succ_cons, List.take_zero, List.drop_succ_cons, List.drop_zero]
    refine lex_make _ rfl (by exact OneRow.st _) rfl (fun w1 hb1 hf1 => ?_) ?_
    · have hb1' := hb1
      (unfold makes; go_simp; simp only [makesUpon])
      exact ⟨below_box _ _, _, rfl, (nums_new w1 [1] (by decide)).base (by have h2 := hW.size; have h3 := hb1'.size; omega)⟩
    rintro u w2 hB2 ⟨gu, rfl, hu⟩
    have Hu := Lib.hid hu; clear hu
    simp only [Act.put, Act.eval, Array.getD_eq_getD_getElem?, List.getElem?_toArray, List.getElem?_cons_zero, List.getElem?_cons_succ, Option.getD_some, List.setIfInBounds_toArray, List.set_cons_succ, List.set_cons_zero]
    repeat (first
      | (refine lex_move _ (by first | exact Or.inl rfl | exact Or.inr rfl) rfl rfl ?_
         simp only [Act.put, Act.eval, Array.getD_eq_getD_getElem?, List.getElem?_toArray, List.getElem?_cons_zero, List.getElem?_cons_succ, Option.getD_some, List.setIfInBounds_toArray, List.set_cons_succ, List.set_cons_zero]
        )
      | (refine lex_float ?_ rfl rfl (fun w1 hb1 hf1 => ?_) ?_
         rotate_left
         (go_simp; (try simp (disch := omega) only [IntWalk.i64_quo, IntWalk.rem_in, IntWalk.i64_in, IntWalk.u64_in, IntWalk.u32_in, IntWalk.u8_in, IntWalk.toNatUp, IntWalk.iteOmega]); (try go_simp); rfl)
         simp only [Act.put, Act.eval, Array.getD_eq_getD_getElem?, List.getElem?_toArray, List.getElem?_cons_zero, List.getElem?_cons_succ, Option.getD_some, List.setIfInBounds_toArray, List.set_cons_succ, List.set_cons_zero]
        )
      | (refine lex_skip rfl ?_
         simp only [Act.put, Act.eval, Array.getD_eq_getD_getElem?, List.getElem?_toArray, List.getElem?_cons_zero, List.getElem?_cons_succ, Option.getD_some, List.setIfInBounds_toArray, List.set_cons_succ, List.set_cons_zero]
        ))
    refine lex_nil ?_
    have hBw := below_trans hW hB2
    have HT := Lib.hid (two_any w.heap.size _ [1] e.k num (by decide) w2 w hBw (Nat.le_refl _) Hu.out)
    unfold St.v at HT
    clear q0 q1 q2
    go_wp2_with fail
    refine HT.out.mono ?_
    rintro e' w3 ⟨v', rfl, hn, hb⟩
    have Hn := Lib.hid hn; clear hn
    obtain ⟨av, cv, rfl, -⟩ := owns_shape Hn.out
    go_wp2_with fail
    go_ret
    refine ⟨_, rfl, ?_, hb⟩
    have := Hn.out
    simpa [firstNums, entNums, hnum, numOf] using this

theorem ents_len (p : List Ent) : (p.flatMap entNums).length = p.length * 3 := by
  induction p with
  | nil => rfl
  | cons e p ih => rw [List.flatMap_cons, List.length_append, ih]; simp [entNums]; omega
set_option maxRecDepth 100000 in
theorem entries_any (B most : Nat) (v : Value) (p : List Ent) (hn : p.length ≤ 274877906) (hN : ∀ e ∈ p, U.NumV e.v) (w : World) (h : w.ownsRow B 60 3 v p.length (cellsOf p)) :
    Calls Try.prog 92 #[v, .int .i64 most] w fun e w' => ∃ v', e = .returned v' ∧ NumsAt w.heap.size w' v' ((p.take most).flatMap entNums) ∧ Below w.heap.size w w' := by
  obtain ⟨a, c, rfl, -⟩ := owns_shape h
  have H := Lib.hid h; clear h
  go_enter Try.func92, Try.ntmps92
  go_wp2_with fail
  go_loopw [5, 6] (fun vl vi wr => ∃ (i n : Nat) (a : Option Addr) (c : Nat), vi = .int .i64 i ∧ vl = .slice a n c ∧ i ≤ p.length ∧ i ≤ most ∧ n = ((p.take i).flatMap entNums).length ∧ NumsAt w.heap.size wr vl ((p.take i).flatMap entNums) ∧ Below w.heap.size w wr) (fun _ vi _ => p.length - (intOf vi).toNat)
  case atStart => exact ⟨0, 0, none, 0, rfl, rfl, by omega, by omega, by simp, World.ownsRow_nil _ _ 32 1, Below.refl _ _⟩
  case round =>
    obtain ⟨i, n, a2, c2, rfl, rfl, hin, him, hn2, hnum, hB⟩ := hrel
    have Hnum := Lib.hid (And.intro hn2 hnum); clear hnum hn2
    by_cases hlt : i < p.length
    · have hii : (i : Int) < (p.length : Int) := by omega
      by_cases hlm : i < most
      · have hmm : (i : Int) < (most : Int) := by omega
        obtain ⟨g, cap, e1, -, hgl, -⟩ := owns_parts H.out (by omega)
        injection e1 with e1 _ f1
        subst e1 f1
        obtain ⟨z0, z1, z2⟩ := BK.book_cells H.out hlt
        obtain ⟨num, hnm⟩ := hN (ent p i) (by have : ent p i = p[i] := by simp [ent, hlt]
                                              rw [this]; exact List.getElem_mem _)
        rw [hnm] at z2
        have z0 := below_cell hB z0
        have z1 := below_cell hB z1
        have z2 := below_cell hB z2
        have hlen := ents_len (p.take i)
        rw [List.length_take, Nat.min_eq_left hin] at hlen
        have HT := fun (W w2 : World) (hW : Below wr.heap.size wr W) (hB2 : Below W.heap.size W w2) => two_any w.heap.size (.slice a2 n c2) ((p.take i).flatMap entNums) (ent p i).k num (by omega) w2 w (hB.trans ((below_trans hW hB2).mono hB.size)) (Nat.le_refl _) (Hnum.out.2.below (below_trans hW hB2))
        unfold St.v at HT
        have HT := Lib.hid HT
        clear hlen
        go_wp2_with fail
        refine wp_region_rg_tail 11 (fun _ => none) fol (by kernel_rfl) (fun W hW hh => ?_)
        clear hh
        have q0 : ∀ w1, Below W.heap.size W w1 → w1.cell? ⟨g, i * 3, none⟩ = some (.int .u64 (ent p i).k.t) := fun w1 h => below_cell (below_trans hW h) z0
        have q1 : ∀ w1, Below W.heap.size W w1 → w1.cell? ⟨g, i * 3 + 1, none⟩ = some (.int .u64 (ent p i).k.s) := fun w1 h => below_cell (below_trans hW h) z1
        have q2 : ∀ w1, Below W.heap.size W w1 → w1.cell? ⟨g, i * 3 + 2, none⟩ = some (.int .u64 num) := fun w1 h => below_cell (below_trans hW h) z2
        simp only [List.take_succ_cons, List.take_zero, List.drop_succ_cons, List.drop_zero]
        repeat (first
          | (refine lex_move _ (by first | exact Or.inl rfl | exact Or.inr rfl) rfl rfl ?_
             simp only [Act.put, Act.eval, Array.getD_eq_getD_getElem?, List.getElem?_toArray, List.getElem?_cons_zero, List.getElem?_cons_succ, Option.getD_some, List.setIfInBounds_toArray, List.set_cons_succ, List.set_cons_zero]
            )
          | (refine lex_float ?_ rfl rfl (fun w1 hb1 hf1 => ?_) ?_
             rotate_left
             (go_simp; (try simp (disch := omega) only [IntWalk.i64_quo, IntWalk.rem_in, IntWalk.i64_in, IntWalk.u64_in, IntWalk.u32_in, IntWalk.u8_in, IntWalk.toNatUp, IntWalk.iteOmega]); (try go_simp); rfl)
             simp only [Act.put, Act.eval, Array.getD_eq_getD_getElem?, List.getElem?_toArray, List.getElem?_cons_zero, List.getElem?_cons_succ, Option.getD_some, List.setIfInBounds_toArray, List.set_cons_succ, List.set_cons_zero]
            )
          | (refine lex_skip rfl ?_
             simp only [Act.put, Act.eval, Array.getD_eq_getD_getElem?, List.getElem?_toArray, List.getElem?_cons_zero, List.getElem?_cons_succ, Option.getD_some, List.setIfInBounds_toArray, List.set_cons_succ, List.set_cons_zero]
            ))
        refine lex_nil ?_
        clear q0 q1 q2
        have HT := Lib.hid (HT.out W W hW (Below.refl _ _))
        go_wp2_with fail
        refine HT.out.mono ?_
        rintro e w2 ⟨v', rfl, hnn, hb⟩
        have Hnn := Lib.hid hnn; clear hnn
        obtain ⟨av, cv, hv, -⟩ := owns_shape Hnn.out
        obtain ⟨n3, hn3⟩ : ∃ n3, n3 = ((p.take i).flatMap entNums ++ [(ent p i).k.t, (ent p i).k.s, num]).length := ⟨_, rfl⟩
        rw [← hn3] at hv
        subst hv
        have Hn3 := Lib.hid hn3; clear hn3
        have hs : (p.take (i + 1)).flatMap entNums = (p.take i).flatMap entNums ++ [(ent p i).k.t, (ent p i).k.s, num] := by
          have : p.take (i + 1) = p.take i ++ [ent p i] := by rw [List.take_add_one]; simp [ent, hlt]
          rw [this, List.flatMap_append]
          simp [entNums, hnm, numOf]
        have Hs := Lib.hid hs; clear hs
        go_wp2_with fail
        refine ⟨⟨i + 1, n3, av, cv, by simp, rfl, by omega, by omega, by rw [Hs.out, Hn3.out], by rw [Hs.out]; exact Hnn.out, hb⟩, ?_⟩
        show p.length - (((i : Int) + 1).toNat) < p.length - ((i : Int).toNat)
        omega
      · obtain rfl : i = most := by omega
        have hmm : ¬ (i : Int) < (i : Int) := by omega
        go_wp2_with fail
        go_ret
        exact ⟨_, rfl, Hnum.out.2, hB⟩
    · obtain rfl : i = p.length := by omega
      go_wp2_with fail
      go_ret
      refine ⟨_, rfl, ?_, hB⟩
      rw [List.take_of_length_le (show p.length ≤ most by omega)]
      have := Hnum.out.2
      rwa [List.take_length] at this
end Go.Proofs.Ytagcohpghgnalaa.QA
