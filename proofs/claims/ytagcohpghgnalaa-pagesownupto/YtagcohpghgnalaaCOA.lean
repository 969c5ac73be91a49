/-
  An append of one's own after which the slice that was appended to still reads as it did; rows of numbers apart from each other. No walk.
-/
import Derived.Test.YtagcohpghgnalaaCQ1
set_option linter.unusedSimpArgs false
set_option linter.unusedVariables false
namespace Go.Hp
open Go.RowKit Go.RG
variable {P : Program} {w : World}
theorem owns_setRow {base size n cap g : Nat} {xs cur' : List Value} {T : TypeId} (h : w.ownsRow base T size (.slice (some ⟨g, 0, none⟩) n cap) n xs) (hl : cur'.length = cap * size) (ht : cur'.take (n * size) = xs) :
    (w.setRow g cur'.toArray).ownsRow base T size (.slice (some ⟨g, 0, none⟩) n cap) n xs := by
  refine ⟨h.1, ?_⟩
  rcases h.2 with ⟨hv, _⟩ | ⟨g', cap', cur, hv, hb, hg, hnc, hcm, hcs, _⟩
  · cases hv
  · injection hv with hv hn2 hc2
    injection hv with hv
    injection hv with hv
    subst hv hc2
    exact .inr ⟨g, cap, cur'.toArray, rfl, hb, setRow_heap w g cur _ T _ hg, hnc, hcm, by simpa using hl, by simpa using ht⟩
theorem wpList_append_own4 {ops : Array Oper} {rest : List Oper} {o : Oper} {a : Act} {Q : Exit → Act → World → Prop} (hgd : o.guard = none) (s x : Operand) (t : TypeId)
    (ho : o.op = .call { callee := .builtin .append, args := #[s, x], argTypes := #[t, t] })
    (base : Nat) (e : TypeId) (i : TypeInfo) (z : Value) (size bytes : Nat) (ht : P.underlying t = some (.slice e)) (hi : P.info? e = some i) (hz : i.zero = some z)
    (hsize : i.size = size) (hby : i.bytes = bytes) (hzs : z.cells.size = size) (hsz : 0 < size)
    (v : Value) (n : Nat) (xs : List Value) (hs : a.eval s = v) (hown : w.ownsRow base e size v n xs)
    (ad : Addr) (m c : Nat) (news : List Value) (hx : a.eval x = .slice (some ad) m c) (hl : news.length = m * size) (hnews : ∀ j u, news[j]? = some u → w.cell? (ad.add j) = some u) (h1 : ∀ u ∈ news, u.oneCell' = true)
    (h63 : n + m ≤ maxLen) (hbytes : (n + m) * bytes ≤ 140737488355328) (hbase : base ≤ w.heap.size)
    (h : ∀ v' w', w'.ownsRow base e size v' (n + m) (xs ++ news) → w.grownBy w' v.ownBlock → (∀ k, v'.ownBlock = some k → v.ownBlock = some k ∨ w.heap.size ≤ k) → w'.ownsRow base e size v n xs → wpList P ops Q rest (a.put o.dst v') w') : wpList P ops Q (o :: rest) a w := by
  obtain ⟨v', w', hr, q1, q2, -⟩ := run_append_own (P := P) w base t o.type e i z size bytes ht hi hz hsize hby hzs hsz _ n xs hown ad m c news hl hnews h1 h63 hbytes hbase
  have key : (∀ k, v'.ownBlock = some k → v.ownBlock = some k ∨ w.heap.size ≤ k) ∧ w'.ownsRow base e size v n xs := by
    rcases hown.2 with ⟨hv, hn⟩ | ⟨g, cap, cur, hv, hbg, hg, hnc, hcm, hcs, htake⟩
    · subst hv hn
      obtain rfl : xs = [] := List.eq_nil_of_length_eq_zero (by have := hown.1; omega)
      obtain ⟨v2, w2, hr2, p1, p2, -⟩ := run_append_own (P := P) w w.heap.size t o.type e i z size bytes ht hi hz hsize hby hzs hsz _ 0 [] (World.ownsRow_nil _ _ e size) ad m c news hl hnews h1 h63 hbytes (Nat.le_refl _)
      rw [hr2] at hr
      injection hr with e1 e2
      subst e1 e2
      exact ⟨fun k hk => .inr (p1.lt k hk).1, World.ownsRow_nil _ _ e size⟩
    · subst hv
      have hsmall : n + m ≤ 9223372036854775807 := by simp only [maxLen] at h63; omega
      subst hsize hby
      obtain ⟨L, hL, hLl, hLt, hnc, hcm⟩ := owns_row hown
      by_cases hroom : n + m ≤ cap
      · have hfit : n * i.size + news.length ≤ L.toArray.size := by rw [List.size_toArray, hl, hLl, ← Nat.add_mul]; exact Nat.mul_le_mul_right _ hroom
        have hr2 := run_append_room (P := P) w t o.type e i ht hi g n cap L.toArray hL ad m c news hl hnews h1 hroom hfit
        rw [hr2] at hr
        injection hr with hv hw
        subst hv hw
        rw [List.size_toArray] at hfit
        refine ⟨fun k hk => .inl hk, owns_setRow hown ?_ ?_⟩
        · simp only [List.length_append, List.length_take, List.length_drop]
          omega
        · have hnl : n * i.size ≤ L.length := by omega
          rw [show L.toArray.toList = L from rfl, List.append_assoc, List.take_append_of_le_length (by rw [List.length_take]; omega), List.take_take, Nat.min_self]
          exact hLt
      · have hr2 := run_append_grow (P := P) w t o.type e i z ht hi hz ⟨g, 0, none⟩ n cap xs hown.1 (hown.cells (g := g) rfl) ad m c news hl hnews (by omega) (by omega) (growslice_fits (by omega) hbytes)
        rw [hr2] at hr
        injection hr with hv hw
        subst hv hw
        refine ⟨fun k hk => ?_, owns_of_block hown fun k hk => ?_⟩
        · have hk : w.heap.size = k := Option.some.inj hk
          exact .inr (by omega)
        · obtain rfl : g = k := Option.some.inj hk
          exact ((Below.refl w.heap.size w).drew.alloc (by simp) _).block g (block_lt_of_heap hL)
  exact wpList_value hgd (exec_append s x t t ho (by rw [hs, hx]; exact hr)) (h v' w' q1 q2 key.1 key.2)
end Go.Hp

namespace Go.Proofs.Ytagcohpghgnalaa.OW
open Go.RowKit Go.RG Go.Hp Go.Pg Go.Proofs.Ytagcohpghgnalaa

/-- the mark of the list number k -/
def mark (k : Nat) : Value := .int .i64 (-1000 - (k : Int))
/-- lists of numbers, each with a row of its own in blocks from B on: L their lengths, c what lies there -/
structure Lists (B : Nat) (w : World) (vs : List Value) (L : Nat → Nat) (c : Nat → List Value) : Prop where
  row : ∀ k, k < vs.length → w.ownsRow B 3 1 (val vs k) (L k) (c k)
  off : ∀ j k, j < vs.length → k < vs.length → j ≠ k → ∀ b, (val vs j).ownBlock = some b → (val vs k).ownBlock ≠ some b
/-- a block of one of the lists -/
def LB (vs : List Value) (b : Nat) : Prop := ∃ k, k < vs.length ∧ (val vs k).ownBlock = some b
theorem Lists.len {B : Nat} {w : World} {vs : List Value} {L : Nat → Nat} {c : Nat → List Value} (h : Lists B w vs L c) {k : Nat} (hk : k < vs.length) : (c k).length = L k := by have := (h.row k hk).1; omega
theorem Lists.below {B : Nat} {w w' : World} {vs : List Value} {L : Nat → Nat} {c : Nat → List Value} (h : Lists B w vs L c) (hb : Below w.heap.size w w') : Lists B w' vs L c := ⟨fun k hk => owns_below (h.row k hk) hb, h.off⟩
theorem Lists.ext {B : Nat} {w w' : World} {vs : List Value} {L : Nat → Nat} {c : Nat → List Value} {S : Nat → Prop} (h : Lists B w vs L c) (hb : Ext S w w') (hS : ∀ b, LB vs b → ¬ S b) : Lists B w' vs L c := ⟨fun k hk => owns_ext (h.row k hk) hb fun b hb' => hS b ⟨k, hk, hb'⟩, h.off⟩
/-- one list's place is written -/
theorem Lists.set {B : Nat} {w : World} {vs : List Value} {L : Nat → Nat} {c : Nat → List Value} (h : Lists B w vs L c) {i j g : Nat} (hi : i < vs.length) (hg : (val vs i).ownBlock = some g) (u : Value) :
    Lists B (w.setCell ⟨g, j, none⟩ u) vs L (fun k => if k = i then (c i).set j u else c k) := by
  refine ⟨fun k hk => ?_, h.off⟩
  by_cases e : k = i
  · subst e
    rw [if_pos rfl]
    have hr := h.row k hk
    obtain ⟨a, cap, hv, -⟩ := owns_shape hr
    rw [hv] at hg hr ⊢
    cases a with
    | none => cases hg
    | some a =>
      obtain ⟨b, o, sp⟩ := a
      obtain rfl : b = g := Option.some.inj hg
      rcases hr.2 with ⟨h1, _⟩ | ⟨g', cap', cur, h1, _⟩
      · cases h1
      · injection h1 with h1 _ _
        injection h1 with h1
        injection h1 with h1 h2 h3
        subst h2 h3
        exact owns_setCell (j := j) hr u
  · rw [if_neg e]
    refine owns_of_block (h.row k hk) fun b hb => heap_setCell_ne _ _ _ _ fun e2 => ?_
    have e2 : b = g := e2
    subst e2
    exact h.off i k hi hk (fun e3 => e e3.symm) b hg hb
theorem Lists.cell {B : Nat} {w : World} {vs : List Value} {L : Nat → Nat} {c : Nat → List Value} (h : Lists B w vs L c) {i j : Nat} (hi : i < vs.length) (hj : j < L i) :
    ∃ g cap, val vs i = .slice (some ⟨g, 0, none⟩) (L i) cap ∧ g < w.heap.size ∧ B ≤ g ∧ w.cell? ⟨g, j, none⟩ = (c i)[j]? ∧ w.frozen? ⟨g, j, none⟩ = false ∧ L i ≤ cap := by
  obtain ⟨g, cap, hv, hb, hg, hc, _, hcell, hfr⟩ := owns_parts (h.row i hi) (by omega)
  exact ⟨g, cap, hv, hg, hb, hcell j (by omega), hfr j, hc⟩
end Go.Proofs.Ytagcohpghgnalaa.OW
