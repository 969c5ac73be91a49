/-
  A loop whose body appends to a list of its own: what the iterator may rely on. The contracts of Up and Down there.
-/
import Derived.Test.YtagcohpghgnalaaCDN
import Derived.Test.YtagcohpghgnalaaCQ1
set_option linter.unusedSimpArgs false
set_option linter.unusedVariables false
namespace Go.Proofs.Ytagcohpghgnalaa.QA
open Go.RowKit Go.RG Go.Hp Go.Pg Go.Shelf Go.Proofs.Ytagcohpghgnalaa Go.Proofs.Ytagcohpghgnalaa.RF Go.Proofs.Ytagcohpghgnalaa.U

/-- the list's box is L, the count's box is C; the list's row lies somewhere -/
def InvL (L C : Nat) (W : World) : Prop := C < W.heap.size ∧ ∃ v, W.heap[L]? = some (.cells #[v] 76 (0, 0)) ∧ ∀ b, v.ownBlock = some b → b < W.heap.size
/-- a block that is neither box nor the list's row -/
def PrL (L C : Nat) (W : World) (k : Nat) : Prop := k ≠ L ∧ k ≠ C ∧ (∃ o, W.heap[k]? = some o ∧ o.isCells = true) ∧ ∃ v, W.heap[L]? = some (.cells #[v] 76 (0, 0)) ∧ v.ownBlock ≠ some k
abbrev KpL (L C : Nat) : World → World → Prop := KeepP (InvL L C) (PrL L C)

theorem InvL.below {L C : Nat} {W W1 : World} (h : InvL L C W) (hb : Below W.heap.size W W1) : InvL L C W1 := by
  obtain ⟨h1, v, h2, h3⟩ := h
  have := hb.size
  exact ⟨by omega, v, below_heap hb h2, fun b hb' => by have := h3 b hb'; omega⟩
theorem PrL.below {L C k : Nat} {W W1 : World} (h : PrL L C W k) (hb : Below W.heap.size W W1) : PrL L C W1 k := by
  obtain ⟨h1, h2, ⟨o, h3, h4⟩, v, h5, h6⟩ := h
  exact ⟨h1, h2, ⟨o, below_heap hb h3, h4⟩, v, below_heap hb h5, h6⟩
theorem guard_L (L C : Nat) : GuardP (InvL L C) (KpL L C) (PrL L C) where
  fresh := fun W W1 hi hb => ⟨hi.below hb, fun k hk => hk.below hb, fun k o hk ho hc => by
    obtain ⟨h1, v, h2, h3⟩ := hi
    have hL := block_lt_of_heap h2
    exact ⟨by omega, by omega, ⟨o, ho, hc⟩, v, below_heap hb h2, fun e => by have := h3 k e; omega⟩⟩
  keep := fun W W' hi h => ⟨h.inv hi, h.size, h.keep⟩
  lt := fun W k h => by obtain ⟨-, -, ⟨o, h, -⟩, -⟩ := h; exact block_lt_of_heap h
  grown := fun W W' row hg hr => by
    have hk : ∀ {k : Nat} {o : Obj}, W.heap[k]? = some o → o.isCells = true → W'.heap[k]? = some o := fun h1 h2 => heap_keep h1 h2 hg hr
    refine ⟨fun ⟨h1, v, h2, h3⟩ => ⟨by have := hg.size; omega, v, hk h2 rfl, fun b hb => by have := h3 b hb; have := hg.size; omega⟩, hg.size, fun k hp => ?_⟩
    obtain ⟨h1, h2, ⟨o, h3, h4⟩, v, h5, h6⟩ := hp
    exact ⟨⟨h1, h2, ⟨o, hk h3 h4, h4⟩, v, hk h5 rfl, h6⟩, by rw [h3]; exact hk h3 h4⟩

/-- behind a store of a list that has grown: old is what lay in the box, W5 the world behind -/
theorem KpL.turn {L C : Nat} {W W5 : World} {old new : Value} (hL : W.heap[L]? = some (.cells #[old] 76 (0, 0))) (hsz : W.heap.size ≤ W5.heap.size)
    (hb : ∀ k, k < W.heap.size → k ≠ L → k ≠ C → old.ownBlock ≠ some k → W5.heap[k]? = W.heap[k]?) (hN : W5.heap[L]? = some (.cells #[new] 76 (0, 0)))
    (hn : ∀ b, new.ownBlock = some b → (old.ownBlock = some b ∨ W.heap.size ≤ b) ∧ b < W5.heap.size) : KpL L C W W5 := by
  refine ⟨fun ⟨h1, _⟩ => ⟨by omega, new, hN, fun b hb => (hn b hb).2⟩, hsz, fun k hp => ?_⟩
  obtain ⟨h1, h2, ⟨o, h3, h4⟩, v, h5, h6⟩ := hp
  rw [hL] at h5
  injection h5 with h5
  injection h5 with h5
  injection h5 with h5
  injection h5 with h5 _
  subst h5
  have hlt := block_lt_of_heap h3
  have e := hb k hlt h1 h2 h6
  refine ⟨⟨h1, h2, ⟨o, e.trans h3, h4⟩, new, hN, fun e => ?_⟩, e⟩
  rcases (hn k e).1 with h | h
  · exact h6 h
  · omega

def encE (e : Ev) : Array Value := #[.agg #[.int .u64 e.k.t, .int .u64 e.k.s], .int .u64 e.n]
/-- what the loop of 'along' asks of an iterator f over the pointer p: it gives E -/
def SeqAt (f : Nat) (p : Option Addr) (s : St) (E : List Ev) (w : World) : Prop :=
  ∀ (W0 : World) (Bx Bs L C : Nat), Below w.heap.size w W0 → w.heap.size ≤ L → w.heap.size ≤ C → W0.cell? ⟨Bx, 0, none⟩ = some (.pointer p) → W0.cell? ⟨Bs, 0, none⟩ = some (.int .u64 s.t) → W0.cell? ⟨Bs, 1, none⟩ = some (.int .u64 s.s) →
    W0.heap[L]? = some (.cells #[.slice none 0 0] 76 (0, 0)) → C < W0.heap.size →
    SeqO Fence.wide 2 Try.prog f #[.pointer (some ⟨Bx, 0, none⟩), .pointer (some ⟨Bs, 0, none⟩)] encE (KpL L C) (fun xs => xs = E) (fun pre => pre <+: E) (fun pre x => pre ++ [x] <+: E ∨ pre.length < E.length) W0

theorem pages_PrL {L C bx : Nat} {size : Int} {R : List (List Ent)} {Z : Nat → Prop} {vr : Value} {pvs : List Value} {w W0 W : World} (hM : MemV w bx size R Z vr pvs) (hB : Below w.heap.size w W0) (hL : w.heap.size ≤ L) (hC : w.heap.size ≤ C)
    (hl : W0.heap[L]? = some (.cells #[.slice none 0 0] 76 (0, 0))) (hW : Below W0.heap.size W0 W) : ∀ i, i < R.length → ∀ k, (val pvs i).ownBlock = some k → PrL L C W k := by
  intro i hi k hk
  have hlt := owns_lt (hM.pages i hi).row hk
  have hM' := (hM.below hB).below hW
  obtain ⟨o, ho, hoc⟩ := owns_cells (hM'.pages i hi).row hk
  exact ⟨by omega, by omega, ⟨o, ho, hoc⟩, _, below_heap hW hl, fun e => by cases e⟩

theorem up_at (bx size : Nat) (h0s : 0 < size) (R : List (List Ent)) (hm : R.length ≤ 274877906944) (hO : Ordered R) (hl : ∀ i, i < R.length → (pageAt R i).length ≤ 64) (hN : ∀ e ∈ R.flatten, NumV e.v) (s : St)
    (Z : Nat → Prop) (vr : Value) (pvs : List Value) (w : World) (hM : MemV w bx size R Z vr pvs) : SeqAt 75 (some ⟨bx, 0, none⟩) s (evs (behind' R s)) w := by
  intro W0 Bx Bs L C hB hL hC hx h0 h1 hl0 hc
  refine SeqO.of_K (N := (evs (behind' R s)).length) (fun pre x h => Or.inr h) ?_
  exact up_stops 2 bx size h0s R hm hO hl hN s Z vr pvs Bx Bs _ W0 (hM.below hB) hx h0 h1 (KpL L C) _ (guard_L L C).toGuard ⟨hc, _, hl0, fun b hb => by cases hb⟩ (fun W hW i hi k hk => pages_PrL hM hB hL hC hl0 hW i hi k hk)
theorem down_at (bx size : Nat) (h0s : 0 < size) (R : List (List Ent)) (hm : R.length ≤ 274877906944) (hO : Ordered R) (hl : ∀ i, i < R.length → (pageAt R i).length ≤ 64) (hN : ∀ e ∈ R.flatten, NumV e.v) (s : St)
    (Z : Nat → Prop) (vr : Value) (pvs : List Value) (w : World) (hM : MemV w bx size R Z vr pvs) : SeqAt 77 (some ⟨bx, 0, none⟩) s (evs (downs R s)) w := by
  intro W0 Bx Bs L C hB hL hC hx h0 h1 hl0 hc
  have h := down_stops 2 bx size h0s R hm hO hl hN s Z vr pvs Bx Bs _ W0 (hM.below hB) hx h0 h1 (KpL L C) _ (guard_L L C) ⟨hc, _, hl0, fun b hb => by cases hb⟩ (fun W hW i hi k hk => pages_PrL hM hB hL hC hl0 hW i hi k hk)
  exact fun l J Jx W hW hJ hJx hY h0 => h l J Jx W hW hJ hJx (fun pre x W1 hj hok => hY pre x W1 hj (Or.inl hok)) h0
end Go.Proofs.Ytagcohpghgnalaa.QA
