/-
  ApartInts: lists that lie apart from each other do not see each other's writes, nor what grows of them.
-/
import Derived.Test.YtagcohpghgnalaaCOA
import Derived.Test.YtagcohpghgnalaaCGC
set_option linter.unusedSimpArgs false
set_option linter.unusedVariables false
namespace Go.Proofs.Ytagcohpghgnalaa.OW
open Go.RowKit Go.RG Go.Hp Go.Pg Go.Proofs.Ytagcohpghgnalaa


theorem mark_any (k : Nat) (hk : k ≤ 4611686018427387904) (w : World) : Calls Try.prog 93 #[.int .i64 k] w fun e w' => e = .returned (mark k) ∧ w = w' := by
  unfold mark
  go_enter Try.func93, Try.ntmps93
  go_wp2_with fail
  go_ret
  exact ⟨rfl, rfl⟩

theorem kept' {w w' : World} {base e size n : Nat} {v u : Value} {xs : List Value} (h : w.ownsRow base e size u n xs) (hg : w.grownBy w' v.ownBlock) (hne : ∀ b, u.ownBlock = some b → v.ownBlock ≠ some b) : w'.ownsRow base e size u n xs := by
  refine h.kept hg ?_
  cases hu : u.ownBlock with
  | none => exact .inl rfl
  | some b => exact .inr fun e => hne b hu e.symm
/-- two slices over one block: when the longer reads as before, so does the shorter -/
theorem owns_prefix {w w' : World} {base e n m : Nat} {u v : Value} {xs ys : List Value} {b : Nat} (hu : w.ownsRow base e 1 u n ys) (hv : w.ownsRow base e 1 v m xs) (hub : u.ownBlock = some b) (hvb : v.ownBlock = some b) (hv' : w'.ownsRow base e 1 v m xs) (hnm : n ≤ m) : w'.ownsRow base e 1 u n ys := by
  refine ⟨hu.1, ?_⟩
  rcases hu.2 with ⟨rfl, _⟩ | ⟨g, cap, cur, rfl, hb, hg, hnc, hcm, hcs, ht⟩
  · cases hub
  obtain rfl : g = b := Option.some.inj hub
  rcases hv.2 with ⟨rfl, _⟩ | ⟨g2, cap2, cur2, rfl, hb2, hg2, hnc2, hcm2, hcs2, ht2⟩
  · cases hvb
  obtain rfl : g2 = g := Option.some.inj hvb
  rw [hg] at hg2
  injection hg2 with hg2
  injection hg2 with hg2 _ _
  subst hg2
  rcases hv'.2 with ⟨h, _⟩ | ⟨g3, cap3, cur3, h, hb3, hg3, hnc3, hcm3, hcs3, ht3⟩
  · cases h
  injection h with h h2 h3
  injection h with h
  injection h with h
  subst h h3
  refine .inr ⟨g2, cap, cur3, rfl, hb, hg3, hnc, hcm, by omega, ?_⟩
  have e1 : cur3.toList.take (n * 1) = (cur3.toList.take (m * 1)).take (n * 1) := by rw [List.take_take, Nat.min_eq_left (by omega)]
  have e2 : cur.toList.take (n * 1) = (cur.toList.take (m * 1)).take (n * 1) := by rw [List.take_take, Nat.min_eq_left (by omega)]
  rw [e1, ht3, ← ht2, ← e2, ht]

/-- the marks of the list number k -/
def marks (k n : Nat) : List Value := List.replicate n (mark k)
theorem marks_succ (k n : Nat) : marks k n ++ [mark k] = marks k (n + 1) := by unfold marks; rw [List.replicate_succ']
theorem marks_get {k n j : Nat} (h : j < n) : (marks k n)[j]? = some (mark k) := by unfold marks; rw [List.getElem?_replicate, if_pos h]

/-- behind so many lists that have been grown -/
structure Grown (B : Nat) (w : World) (vs : List Value) (L : Nat → Nat) (i : Nat) (gs : List Value) (vg : Value) (wr : World) : Prop where
  lists : Lists B wr vs L (fun k => marks k (L k))
  len : gs.length = i
  row : wr.ownsRow B 52 1 vg i gs
  grow : ∀ k, k < i → wr.ownsRow B 3 1 (val gs k) (L k + 64) (marks k (L k + 64))
  own : ∀ k, k < i → ∀ b, (val gs k).ownBlock = some b → (val vs k).ownBlock = some b ∨ w.heap.size ≤ b
  vgo : ∀ b, vg.ownBlock = some b → w.heap.size ≤ b ∧ ∀ k, k < i → (val gs k).ownBlock ≠ some b
  ext : Ext (LB vs) w wr
/-- one more is being grown: v, by n so far -/
structure Growing (B : Nat) (w : World) (vs : List Value) (L : Nat → Nat) (i : Nat) (gs : List Value) (vg : Value) (n : Nat) (v : Value) (wr : World) : Prop where
  base : Grown B w vs L i gs vg wr
  row : wr.ownsRow B 3 1 v (L i + n) (marks i (L i + n))
  own : ∀ b, v.ownBlock = some b → (val vs i).ownBlock = some b ∨ w.heap.size ≤ b
  off : ∀ b, v.ownBlock = some b → vg.ownBlock ≠ some b ∧ ∀ k, k < i → (val gs k).ownBlock ≠ some b
theorem Grown.below {B : Nat} {w : World} {vs : List Value} {L : Nat → Nat} {i : Nat} {gs : List Value} {vg : Value} {wr w' : World} (h : Grown B w vs L i gs vg wr) (hb : Below wr.heap.size wr w') : Grown B w vs L i gs vg w' :=
  ⟨h.lists.below hb, h.len, owns_below h.row hb, fun k hk => owns_below (h.grow k hk) hb, h.own, h.vgo, h.ext.trans (Ext.of_below (S := LB vs) hb) fun _ _ h => h⟩
theorem Growing.below {B : Nat} {w : World} {vs : List Value} {L : Nat → Nat} {i : Nat} {gs : List Value} {vg : Value} {n : Nat} {v : Value} {wr w' : World} (h : Growing B w vs L i gs vg n v wr) (hb : Below wr.heap.size wr w') : Growing B w vs L i gs vg n v w' :=
  ⟨h.base.below hb, owns_below h.row hb, h.own, h.off⟩
theorem Grown.start {B : Nat} {w : World} {vs : List Value} {L : Nat → Nat} {i : Nat} {gs : List Value} {vg : Value} {wr : World} (h : Grown B w vs L i gs vg wr) (hi : i < vs.length) (hlt : ∀ b, LB vs b → b < w.heap.size) : Growing B w vs L i gs vg 0 (val vs i) wr :=
  ⟨h, h.lists.row i hi, fun b hb => .inl hb, fun b hb => ⟨fun e => by have := (h.vgo b e).1; have := hlt b ⟨i, hi, hb⟩; omega, fun k hk e => by
    rcases h.own k hk b e with h1 | h1
    · exact h.lists.off k i (by omega) hi (by omega) b h1 hb
    · have := hlt b ⟨i, hi, hb⟩; omega⟩⟩
theorem Growing.step {B : Nat} {w : World} {vs : List Value} {L : Nat → Nat} {i : Nat} {gs : List Value} {vg : Value} {n : Nat} {v v' : Value} {wr w' : World} (h : Growing B w vs L i gs vg n v wr) (hi : i < vs.length) (hlt : ∀ b, LB vs b → b < w.heap.size)
    (hown : w'.ownsRow B 3 1 v' (L i + n + 1) (marks i (L i + n) ++ [mark i])) (hg : wr.grownBy w' v.ownBlock) (hnew : ∀ k, v'.ownBlock = some k → v.ownBlock = some k ∨ wr.heap.size ≤ k) (hold : w'.ownsRow B 3 1 v (L i + n) (marks i (L i + n))) :
    Growing B w vs L i gs vg (n + 1) v' w' := by
  have hs := h.base.ext.size
  have hrow : ∀ b, v.ownBlock = some b → LB vs b ∨ w.heap.size ≤ b := fun b hb => (h.own b hb).imp (fun e => ⟨i, hi, e⟩) id
  refine ⟨⟨⟨fun k hk => ?_, h.base.lists.off⟩, h.base.len, kept' h.base.row hg fun b hb e => (h.off b e).1 hb, fun k hk => kept' (h.base.grow k hk) hg fun b hb e => (h.off b e).2 k hk hb, h.base.own, h.base.vgo, ?_⟩, ?_, fun b hb => ?_, fun b hb => ?_⟩
  · by_cases e : k = i
    · subst e
      cases hv : (val vs k).ownBlock with
      | none => exact kept' (h.base.lists.row k hk) hg fun b hb => by rw [hv] at hb; cases hb
      | some b =>
        by_cases hvb : v.ownBlock = some b
        · exact owns_prefix (h.base.lists.row k hk) h.row hv hvb hold (by omega)
        · exact kept' (h.base.lists.row k hk) hg fun b' hb' => by rw [hv] at hb'; injection hb' with hb'; subst hb'; exact hvb
    · exact kept' (h.base.lists.row k hk) hg fun b hb e2 => by
        rcases h.own b e2 with h1 | h1
        · exact h.base.lists.off k i hk hi e b hb h1
        · have := hlt b ⟨k, hk, hb⟩; omega
  · refine h.base.ext.trans (S' := fun b => LB vs b ∨ w.heap.size ≤ b) (Ext.grown hg fun k hk _ => hrow k hk) fun k hk h => ?_
    rcases h with h | h
    · exact h
    · omega
  · rw [marks_succ] at hown
    exact hown
  · rcases hnew b hb with h1 | h1
    · exact h.own b h1
    · exact .inr (by omega)
  · rcases hnew b hb with h1 | h1
    · exact h.off b h1
    · exact ⟨fun e => by have := (h.base.row.lt b e).2; omega, fun k hk e => by have := ((h.base.grow k hk).lt b e).2; omega⟩
theorem val_snoc_lt {l : List Value} {u : Value} {k : Nat} (h : k < l.length) : val (l ++ [u]) k = val l k := by unfold val; rw [List.getD_eq_getElem?_getD, List.getD_eq_getElem?_getD, List.getElem?_append_left h]
theorem val_snoc_eq {l : List Value} {u : Value} : val (l ++ [u]) l.length = u := by unfold val; rw [List.getD_eq_getElem?_getD, List.getElem?_append_right (Nat.le_refl _)]; simp
theorem Growing.done {B : Nat} {w : World} {vs : List Value} {L : Nat → Nat} {i : Nat} {gs : List Value} {vg vg' : Value} {v : Value} {wr w' : World} (h : Growing B w vs L i gs vg 64 v wr) (hi : i < vs.length) (hlt : ∀ b, LB vs b → b < w.heap.size)
    (hown : w'.ownsRow B 52 1 vg' (i + 1) (gs ++ [v])) (hg : wr.grownBy w' vg.ownBlock) (hnew : ∀ k, vg'.ownBlock = some k → vg.ownBlock = some k ∨ wr.heap.size ≤ k) :
    Grown B w vs L (i + 1) (gs ++ [v]) vg' w' := by
  have hs := h.base.ext.size
  have hl := h.base.len
  have hval : ∀ k, k < i + 1 → val (gs ++ [v]) k = if k = i then v else val gs k := fun k hk => by
    split
    · rename_i e; subst e; rw [← hl]; exact val_snoc_eq
    · exact val_snoc_lt (by omega)
  refine ⟨⟨fun k hk => kept' (h.base.lists.row k hk) hg fun b hb e => by have := (h.base.vgo b e).1; have := hlt b ⟨k, hk, hb⟩; omega, h.base.lists.off⟩, by simp [hl], hown, fun k hk => ?_, fun k hk b hb => ?_, fun b hb => ⟨?_, fun k hk e => ?_⟩, ?_⟩
  · rw [hval k hk]
    split
    · rename_i e; subst e
      exact kept' h.row hg fun b hb e => (h.off b hb).1 e
    · exact kept' (h.base.grow k (by omega)) hg fun b hb e => (h.base.vgo b e).2 k (by omega) hb
  · rw [hval k hk] at hb
    split at hb
    · rename_i e; subst e
      exact h.own b hb
    · exact h.base.own k (by omega) b hb
  · rcases hnew b hb with h1 | h1
    · exact (h.base.vgo b h1).1
    · omega
  · rw [hval k hk] at e
    rcases hnew b hb with h1 | h1
    · split at e
      · exact (h.off b e).1 h1
      · exact (h.base.vgo b h1).2 k (by omega) e
    · split at e
      · have := (h.row.lt b e).2; omega
      · have := ((h.base.grow k (by omega)).lt b e).2; omega
  · refine h.base.ext.trans (S' := fun b => w.heap.size ≤ b) (Ext.grown hg fun k hk _ => (h.base.vgo k hk).1) fun k hk h => by omega
end Go.Proofs.Ytagcohpghgnalaa.OW
