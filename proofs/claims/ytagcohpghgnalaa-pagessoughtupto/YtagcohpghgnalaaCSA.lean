/-
  PagesSought: plain laws, and the two rows that are gathered. No walk.
-/
import Derived.Test.YtagcohpghgnalaaCPU
import Derived.Test.YtagcohpghgnalaaCQA
set_option linter.unusedSimpArgs false
set_option linter.unusedVariables false
namespace Go.Proofs.Ytagcohpghgnalaa.SO
open Go.RowKit Go.RG Go.Hp Go.Pg Go.Proofs.Ytagcohpghgnalaa Go.Proofs.Ytagcohpghgnalaa.RF Go.Proofs.Ytagcohpghgnalaa.U Go.Proofs.Ytagcohpghgnalaa.BK

theorem upR_nil (s : St) : upR s [] = [] := rfl
theorem dnR_nil (s : St) : dnR s [] = [] := rfl
theorem dnR_take (s : St) {p : List Ent} {i : Nat} (h : i < p.length) : dnR s (p.take (i + 1)) = if s.lt (ent p i).k then dnR s (p.take i) else ent p i :: dnR s (p.take i) := by
  have e : p.take (i + 1) = p.take i ++ [ent p i] := by rw [List.take_add_one]; simp [ent, h]
  unfold dnR
  rw [e, List.filter_append, List.reverse_append]
  cases hc : s.lt (ent p i).k <;> simp [hc]

/-- the two rows between two rounds: their boxes and their cells -/
structure Rows2 (z UB DB : Nat) (vu vd : Value) (up dn : List Ent) (w : World) : Prop where
  bu : w.heap[UB]? = some (.cells #[vu] 35 (0, 0))
  bd : w.heap[DB]? = some (.cells #[vd] 35 (0, 0))
  ru : w.ownsRow z 60 3 vu up.length (cellsOf up)
  rd : w.ownsRow z 60 3 vd dn.length (cellsOf dn)
  off : ∀ k, vu.ownBlock = some k → vd.ownBlock ≠ some k
  nil : dn = [] → vd = .slice none 0 0
theorem Rows2.below {z UB DB : Nat} {vu vd : Value} {up dn : List Ent} {w w' : World} (h : Rows2 z UB DB vu vd up dn w) (hb : Below w.heap.size w w') : Rows2 z UB DB vu vd up dn w' :=
  ⟨below_heap hb h.bu, below_heap hb h.bd, owns_below h.ru hb, owns_below h.rd hb, h.off, h.nil⟩
theorem Rows2.ext {z UB DB : Nat} {vu vd : Value} {up dn : List Ent} {S : Nat → Prop} {w w' : World} (h : Rows2 z UB DB vu vd up dn w) (hb : Ext S w w') (hU : ¬ S UB) (hD : ¬ S DB) (hu : ∀ k, vu.ownBlock = some k → ¬ S k) (hd : ∀ k, vd.ownBlock = some k → ¬ S k) : Rows2 z UB DB vu vd up dn w' :=
  ⟨hb.heap h.bu hU, hb.heap h.bd hD, owns_ext h.ru hb hu, owns_ext h.rd hb hd, h.off, h.nil⟩
/-- the upper row has grown -/
theorem Rows2.up {z UB DB : Nat} {vu vd vu' : Value} {up dn up' : List Ent} {w w1 : World} (h : Rows2 z UB DB vu vd up dn w) (hUz : UB < z) (hDz : DB < z) (hne : UB ≠ DB) (hown : w1.ownsRow z 60 3 vu' up'.length (cellsOf up')) (hg : w.grownBy w1 vu.ownBlock)
    (hnew : ∀ k, vu'.ownBlock = some k → vu.ownBlock = some k ∨ w.heap.size ≤ k) : Rows2 z UB DB vu' vd up' dn (w1.setCell ⟨UB, 0, none⟩ vu') := by
  have hX : Ext (fun k => vu.ownBlock = some k) w w1 := Ext.grown hg fun k hk _ => hk
  have hz := fun k hk => (h.ru.lt k hk).1
  have e1 : w1.heap[UB]? = some (.cells #[vu] 35 (0, 0)) := hX.heap h.bu fun e => by have := hz _ e; omega
  have e2 : w1.heap[DB]? = some (.cells #[vd] 35 (0, 0)) := hX.heap h.bd fun e => by have := hz _ e; omega
  have rd := owns_ext h.rd hX fun k hk e => h.off k e hk
  refine ⟨heap1_set vu' e1, heap_set_ne _ e2 (Ne.symm hne), ?_, ?_, fun k hk e => ?_, h.nil⟩
  · exact owns_of_block hown fun k hk => heap_setCell_ne _ _ _ _ (by have := (hown.lt k hk).1; show k ≠ UB; omega)
  · exact owns_of_block rd fun k hk => heap_setCell_ne _ _ _ _ (by have := (rd.lt k hk).1; show k ≠ UB; omega)
  · rcases hnew k hk with h1 | h1
    · exact h.off k h1 e
    · have := (h.rd.lt k e).2; omega
/-- the lower row is a new one -/
theorem Rows2.dn {z UB DB : Nat} {vu vd vd' : Value} {up dn dn' : List Ent} {w w1 : World} (h : Rows2 z UB DB vu vd up dn w) (hUz : UB < z) (hDz : DB < z) (hne : UB ≠ DB) (hb : Below w.heap.size w w1) (hown : w1.ownsRow w.heap.size 60 3 vd' dn'.length (cellsOf dn')) (hzw : z ≤ w.heap.size) (hn : dn' ≠ []) :
    Rows2 z UB DB vu vd' up dn' (w1.setCell ⟨DB, 0, none⟩ vd') := by
  have hu := owns_below h.ru hb
  refine ⟨heap_set_ne _ (below_heap hb h.bu) hne, heap1_set vd' (below_heap hb h.bd), ?_, ?_, fun k hk e => ?_, fun e => absurd e hn⟩
  · exact owns_of_block hu fun k hk => heap_setCell_ne _ _ _ _ (by have := (hu.lt k hk).1; show k ≠ DB; omega)
  · exact owns_base (owns_of_block hown fun k hk => heap_setCell_ne _ _ _ _ (by have := (hown.lt k hk).1; show k ≠ DB; omega)) fun k hk => Nat.le_trans hzw (hown.lt k hk).1
  · have := (h.ru.lt k hk).2
    have := (hown.lt k e).1
    omega

theorem ahead_len {R : List (List Ent)} (s : St) (hR : 0 < R.length) : (ahead' R s).length = total (R.take (pageOf R s)) + entOf R s := by
  have := entOf_le R s
  unfold ahead'
  rw [List.length_append, List.length_take, Nat.min_eq_left this, total_flat]
theorem there_is {size : Nat} {R : List (List Ent)} (hG : Pg.Good size R) (s : St) (hR : 0 < R.length) : there R s = (decide (0 < (behind' R s).length) && decide ((ent (behind' R s) 0).k = s)) := by
  cases ht : there R s
  · cases hb : behind' R s with
    | nil => rfl
    | cons e l =>
      have h1 := behind_gt hG hR s ht e (by rw [hb]; simp)
      have h2 : ¬ (ent (e :: l) 0).k = s := fun h => by
        have h : e.k = s := h
        rw [h, St.lt_irrefl] at h1
        cases h1
      rw [decide_eq_false h2, Bool.and_false]
  · obtain ⟨e, hk, -, hb⟩ := behind_rest ht
    rw [hb]
    have h2 : (ent (e :: rest' R s) 0).k = s := hk
    rw [decide_eq_true h2]
    rfl
end Go.Proofs.Ytagcohpghgnalaa.SO
