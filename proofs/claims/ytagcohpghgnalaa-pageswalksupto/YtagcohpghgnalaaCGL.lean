/-
  A loop over an iterator that itself loops over iterators: what it may turn are blocks of its own. The law for its caller.
-/
import Derived.RangeFuncNested
import Derived.Test.YtagcohpghgnalaaCGA
import Derived.Test.YtagcohpghgnalaaCIT
set_option linter.unusedSimpArgs false
set_option linter.unusedVariables false
namespace Go.RG
open Go.RowKit

/-- as the contract of an iterator that reads memory; but what the caller keeps in mind abides any turn of blocks laid since -/
def SeqO {α : Type} (F : Fence) (n : Nat) (P : Program) (g : Nat) (lb : Array Value) (encs : α → Array Value) (Kp : World → World → Prop) (S Sp : List α → Prop) (Ok : List α → α → Prop) (w : World) : Prop :=
  ∀ (l : Nat) (J Jx : List α → World → Prop) (W : World), Below w.heap.size w W → OwnFrom W.heap.size J → OwnFrom W.heap.size Jx →
    (∀ pre x W1, J pre W1 → Ok pre x → YieldAt F (n - 1) P l (encs x) W1 fun e W' =>
      (e = .returned (.bool true) ∧ J (pre ++ [x]) W' ∧ Kp W1 W' ∧ KeepsFrom W.heap.size W1 W') ∨ (e = .returned (.bool false) ∧ Jx (pre ++ [x]) W' ∧ KeepsFrom W.heap.size W1 W')) →
    J [] W →
    CallsIn F n P g (#[.func (.yield l) #[] #[]] ++ lb) W fun e W' => (∃ v, e = .returned v) ∧ ((∃ xs, S xs ∧ J xs W') ∨ (∃ pre, Sp pre ∧ Jx pre W'))

theorem KeepsFrom.up {B B' : Nat} {W W' : World} (h : KeepsFrom B W W') (hB : B ≤ B') : KeepsFrom B' W W' := ⟨h.size, fun k o hk => h.same k o (Nat.le_trans hB hk)⟩

theorem YieldAt.mono' {F : Fence} {n : Nat} {P : Program} {l : Nat} {args : Array Value} {W : World} {R R' : Ending → World → Prop} (h : YieldAt F n P l args W R) (hR : ∀ e w, R e w → R' e w) : YieldAt F n P l args W R' :=
  let ⟨fn, tmps, assign, body, hy, hr⟩ := h; ⟨fn, tmps, assign, body, hy, hr.mono hR⟩

theorem SeqO.of_K {α : Type} {F : Fence} {n : Nat} {P : Program} {g : Nat} {lb : Array Value} {encs : α → Array Value} {Kp : World → World → Prop} {S Sp : List α → Prop} {N : Nat} {w : World}
    {Ok : List α → α → Prop} (hOk : ∀ pre x, pre.length < N → Ok pre x) (h : SeqStopsK F n P g lb encs Kp S Sp N w) : SeqO F n P g lb encs Kp S Sp Ok w := fun l J Jx W hW hJ hJx hY h0 =>
  h l J Jx W hW (fun s A B row hs hg hr => hJ s A B row hs hg fun r e => let ⟨h1, o, h2, h3⟩ := hr r e; ⟨h1, o, h2, Obj.not_cells_of_walk h3⟩)
    (fun s A B row hs hg hr => hJx s A B row hs hg fun r e => let ⟨h1, o, h2, h3⟩ := hr r e; ⟨h1, o, h2, Obj.not_cells_of_walk h3⟩) (fun pre x W1 hj hl => (YieldAt.mono' (hY pre x W1 hj (hOk pre x hl)) fun e W' h => h.elim (fun h => .inl ⟨h.1, h.2.1, h.2.2.1⟩) (fun h => .inr ⟨h.1, h.2.1⟩))) h0

section
variable {F : Fence} {n : Nat} {P : Program}
set_option maxHeartbeats 1000000 in
theorem wpIn_range_own {α : Type} {g : Operand} {ps : Array Tmp} {assign body : Code} {Q : Exit → Act → World → Prop} {a : Act} {w : World}
    (hro : F.round = none) (h1 : 1 ≤ n) {gf : Nat} {lb : Array Value} (hg : a.eval g = .func (.func gf) #[] lb) (hFg : F.fn gf) (eg : ∀ args w, (callFunc gf args).run P w = .ok (.enter gf args) w)
    {encs : α → Array Value} {Kp : World → World → Prop} {S Sp : List α → Prop} {Ok : List α → α → Prop} {w0 : World} (hseq : SeqO F (n - 1) P gf lb encs Kp S Sp Ok w0)
    (hKt : ∀ {A B C : World}, Kp A B → Kp B C → Kp A C) (hKb : ∀ (W : World) (l : Nat) (o o' : Obj), w.heap.size ≤ l → W.heap[l]? = some o → o.isCells = false → o.isWalk = false → Kp W (W.putObj l o')) (hb0 : Below w0.heap.size w0 w) (hps : ∀ x, (encs x).size = ps.size)
    (I : List α → World → Prop) (Ix : Code → List α → World → Prop) (hI : OwnFrom w.heap.size I) (hIx : ∀ c, OwnFrom w.heap.size (Ix c)) (h0 : I [] w) (Ax : α → Act → World → Prop) (hAx : ∀ x a', OwnFrom w.heap.size (fun (_ : Unit) W => Ax x a' W))
    (hassign : ∀ (l : Nat) (pre : List α) (x : α) (W : World) (K : Act → World → Prop), I pre W → Ok pre x → (∀ a' W', KeepsFrom w.heap.size W W' → Kp W W' → I pre W' → Ax x a' W' → K a' W') →
      assign.wpIn (F.inRound l) (n - 1 - 1) P (Exit.then K (fun _ _ _ => False)) { tmps := (ps.zip (encs x)).foldl (fun t (p, v) => t.setIfInBounds p v) a.tmps, defers := [] } W)
    (hbody : ∀ (l : Nat) (pre : List α) (x : α) (a' : Act) (W : World), w.heap.size ≤ l → (∃ r, W.heap[l]? = some (.loop r)) → I pre W → Ax x a' W → Ok pre x → body.wpIn (F.inRound l) (n - 1 - 1) P (ownPostG w.heap.size Kp I Ix (pre ++ [x]) W) a' W)
    (hdone : ∀ (D : Nat) (xs : List α) (W : World), w.heap.size ≤ D → S xs → I xs W → W.heap[D]? = some (.deferred (some [])) → Q .normal { a with defers := { target := .collected D, args := #[] } :: a.defers } W)
    (hstop : ∀ (D : Nat) (c : Code) (pre : List α) (W : World), w.heap.size ≤ D → Sp pre → Ix c pre W → W.heap[D]? = some (.deferred (some [])) → c.wpIn F n P Q { a with defers := { target := .collected D, args := #[] } :: a.defers } W) :
    (Code.rangeFunc g ps assign body).wpIn F n P Q a w := by
  refine wpIn_rangeFunc ?_
  intro fn hfn
  rw [hro]
  -- the loop's record lies at L, the block for the rounds' deferred calls at D
  obtain ⟨D, hD⟩ : ∃ D, D = w.heap.size := ⟨_, rfl⟩
  obtain ⟨rc, hrc⟩ : ∃ rc : LoopState → Option Code → Loop, rc = fun st pe => { state := st, pending := pe, fn, tmps := a.tmps, params := ps, assign, body, defers := D } := ⟨_, rfl⟩
  obtain ⟨V, hV⟩ : ∃ V, (w.alloc (.deferred (some []))).alloc (.loop (rc .ready none)) = V := ⟨_, rfl⟩
  have vL : V.heap[D + 1]? = some (.loop (rc .ready none)) := by
    rw [← hV, hD]
    have := World.alloc_heap_new (w.alloc (.deferred (some []))) (.loop (rc .ready none))
    rwa [World.size_alloc] at this
  have vD : V.heap[D]? = some (.deferred (some [])) := by
    rw [← hV, hD]
    exact (Below.heap_alloc _ _ _ (by simp)).trans (World.alloc_heap_new w _)
  have vI : I [] V := by rw [← hV]; exact hI.alloc _ (hI.alloc _ h0)
  have vB : Below w0.heap.size w0 V := by
    rw [← hV]
    exact hb0.trans ((((Below.refl _ w).alloc (Nat.le_refl _) _).alloc (by simp) _).mono hb0.size)
  have vz : D + 1 < V.heap.size := (Array.getElem?_eq_some_iff.1 vL).1
  refine ⟨D + 1, [{ target := .collected D, args := #[] }], V, { target := .fn (.func gf) lb, args := #[.func (.yield (D + 1)) #[] #[]] }, V, gf, #[.func (.yield (D + 1)) #[] #[]] ++ lb, V, ?_, ?_, ?_, ?_, fun _ => h1, ?_⟩
  · rw [← hV, hrc, hD]
    exact run_enterLoop_outer _ _ _ _ _
  · simp only [resolve, hg]
    simp [go_sem]
  · intro f' hf'
    simp [Target.leads] at hf'
    subst hf'
    exact hFg
  · simp [invoke, go_sem, eg]
  · -- a block that lies where it lay: the record, the deferred calls' block
    have stay : ∀ {A B : World} {row : Option Nat} {k : Nat} {o : Obj}, A.heap[k]? = some o → k < V.heap.size → A.grownBy B row → (∀ r, row = some r → V.heap.size ≤ r ∧ ∃ o : Obj, A.heap[r]? = some o ∧ o.isCells = false) → B.heap[k]? = some o :=
      fun hk hlt hg hr => (hg.block _ (Array.getElem?_eq_some_iff.1 hk).1 (fun e => by have := (hr _ e.symm).1; omega)).trans hk
    have up : ∀ {A : World} {row : Option Nat}, (∀ r, row = some r → V.heap.size ≤ r ∧ ∃ o : Obj, A.heap[r]? = some o ∧ o.isCells = false) → ∀ r, row = some r → w.heap.size ≤ r ∧ ∃ o : Obj, A.heap[r]? = some o ∧ o.isCells = false :=
      fun hr r e => ⟨by have := (hr r e).1; omega, (hr r e).2⟩
    refine (hseq (D + 1) (fun pre W => I pre W ∧ W.heap[D + 1]? = some (.loop (rc .ready none)) ∧ W.heap[D]? = some (.deferred (some [])))
      (fun pre W => ∃ c, Ix c pre W ∧ W.heap[D + 1]? = some (.loop (rc .done (some c))) ∧ W.heap[D]? = some (.deferred (some []))) V vB
      (fun s A B row hs hg' hr => ⟨hI s A B row hs.1 hg' (up hr), stay hs.2.1 vz hg' hr, stay hs.2.2 (by omega) hg' hr⟩)
      (fun s A B row ⟨c, hc, hl, hk⟩ hg' hr => ⟨c, hIx c s A B row hc hg' (up hr), stay hl vz hg' hr, stay hk (by omega) hg' hr⟩) ?_ ⟨vI, vL, vD⟩).mono ?_
    · -- a round
      rintro pre x W ⟨hi, hl, hk⟩ hlen
      have hy := run_yield (P := P) (args := encs x) hl (by rw [hrc]; exact hps x)
      rw [hrc] at hy
      refine ⟨fn, _, assign, body, hy, roundIn_of_wpIn hfn (hassign _ pre x W _ hi hlen ?_)⟩
      clear hy
      intro a' A hkf hkp hia hax
      have lA := hkf.same _ _ (by omega) hl rfl
      have dA := hkf.same _ _ (by omega) hk rfl
      have zA : D + 1 < A.heap.size := (Array.getElem?_eq_some_iff.1 lA).1
      refine ⟨_, run_beginRound lA (by rw [hrc]), ?_⟩
      obtain ⟨C, hC⟩ : ∃ C, A.putObj (D + 1) (.loop { rc .ready none with state := .busy }) = C := ⟨_, rfl⟩
      have lC : C.heap[D + 1]? = some (.loop { rc .ready none with state := .busy }) := by rw [← hC]; exact World.putObj_heap_same zA
      have dC : C.heap[D]? = some (.deferred (some [])) := by rw [← hC]; exact (World.putObj_heap_other (by omega)).trans dA
      have kC : Kp A C := by rw [← hC]; exact hKb _ _ _ _ (by omega) lA rfl rfl
      have iC : I pre C := by rw [← hC]; exact hI.putObj _ hia (by omega) lA rfl
      have xC : Ax x a' C := by rw [← hC]; exact (hAx x a').putObj (s := ()) _ hax (by omega) lA rfl
      rw [hC]
      refine wpIn_mono (hbody _ pre x a' C (by omega) ⟨_, lC⟩ iC xC hlen) ?_
      have fin : ∀ (jump : Option Code) (E : World), KeepsFrom w.heap.size C E →
          ∃ T, (Instr.endRound (D + 1) jump).run P E = .ok (.bool jump.isNone) T ∧ T = E.putObj (D + 1) (.loop (rc (if jump.isNone then .ready else .done) jump)) ∧ E.heap[D + 1]? = some (.loop { rc .ready none with state := .busy }) ∧
            T.heap[D + 1]? = some (.loop (rc (if jump.isNone then .ready else .done) jump)) ∧ T.heap[D]? = some (.deferred (some [])) := fun jump E hE => by
        have lE := hE.same _ _ (by omega) lC rfl
        have dE := hE.same _ _ (by omega) dC rfl
        have r := run_endRound (P := P) jump lE
        rw [hrc] at r lE ⊢
        exact ⟨_, r, rfl, lE, World.putObj_heap_same (Array.getElem?_eq_some_iff.1 lE).1, (World.putObj_heap_other (by omega)).trans dE⟩
      have kf : ∀ {E T : World} {o : Obj}, KeepsFrom w.heap.size C E → T = E.putObj (D + 1) o → KeepsFrom V.heap.size W T := fun hE hT => by
        subst hT
        have hA : KeepsFrom V.heap.size W A := KeepsFrom.up hkf (by omega)
        have hC' : KeepsFrom V.heap.size A C := by rw [← hC]; exact KeepsFrom.of_grownBy (grownBy_putObj' _ _ _) fun j e => by cases e; omega
        exact ((hA.trans hC').trans (KeepsFrom.up hE (by omega))).trans (KeepsFrom.of_grownBy (grownBy_putObj' _ _ _) fun j e => by cases e; omega)
      rintro e a3 E hp
      cases e with
      | normal =>
        obtain ⟨hE, hkE, hiE⟩ := hp
        obtain ⟨T, hr, rfl, lE, lT, dT⟩ := fin none E hE
        exact ⟨_, _, hr, .inl ⟨rfl, ⟨hI.putObj _ hiE (by omega) lE rfl, lT, dT⟩, hKt hkp (hKt (hKt kC hkE) (hKb _ _ _ _ (by omega) lE rfl rfl)), kf hE rfl⟩⟩
      | ret =>
        obtain ⟨T, hr, rfl, lE, lT, dT⟩ := fin (some .ret) E hp.1
        exact ⟨_, _, hr, .inr ⟨rfl, ⟨.ret, (hIx _).putObj _ hp.2 (by omega) lE rfl, lT, dT⟩, kf hp.1 rfl⟩⟩
      | exit id =>
        obtain ⟨T, hr, rfl, lE, lT, dT⟩ := fin (some (.exit id)) E hp.1
        exact ⟨_, _, hr, .inr ⟨rfl, ⟨.exit id, (hIx _).putObj _ hp.2 (by omega) lE rfl, lT, dT⟩, kf hp.1 rfl⟩⟩
      | goto t =>
        obtain ⟨T, hr, rfl, lE, lT, dT⟩ := fin (some (.goto t)) E hp.1
        exact ⟨_, _, hr, .inr ⟨rfl, ⟨.goto t, (hIx _).putObj _ hp.2 (by omega) lE rfl, lT, dT⟩, kf hp.1 rfl⟩⟩
      | panic ch => exact hp.elim
      | outgrown => exact hp.elim
    · -- behind the iterator
      rintro e E ⟨⟨v, rfl⟩, (⟨xs, hS, hi, hl, hk⟩ | ⟨pre, hSp, c, hi, hl, hk⟩)⟩
      · have r := run_endLoop (P := P) hl (by rw [hrc]; simp)
        rw [hrc] at r
        exact ⟨none, _, r, hdone _ xs _ (by omega) hS (hI.putObj _ hi (by omega) hl rfl) ((World.putObj_heap_other (by omega)).trans hk)⟩
      · have r := run_endLoop (P := P) hl (by rw [hrc]; simp)
        rw [hrc] at r
        exact ⟨some c, _, r, hstop _ c pre _ (by omega) hSp ((hIx c).putObj _ hi (by omega) hl rfl) ((World.putObj_heap_other (by omega)).trans hk)⟩
set_option maxHeartbeats 1000000 in
/-- the same within a round of another loop -/
theorem wpIn_range_in {α : Type} {g : Operand} {ps : Array Tmp} {assign body : Code} {Q : Exit → Act → World → Prop} {a : Act} {w : World}
    {l₀ : Nat} {r₀ : Loop} (hro : F.round = some l₀) (hl₀ : w.heap[l₀]? = some (.loop r₀)) (h1 : 1 ≤ n) {gf : Nat} {lb : Array Value} (hg : a.eval g = .func (.func gf) #[] lb) (hFg : F.fn gf) (eg : ∀ args w, (callFunc gf args).run P w = .ok (.enter gf args) w)
    {encs : α → Array Value} {Kp : World → World → Prop} {S Sp : List α → Prop} {Ok : List α → α → Prop} {w0 : World} (hseq : SeqO F (n - 1) P gf lb encs Kp S Sp Ok w0)
    (hKt : ∀ {A B C : World}, Kp A B → Kp B C → Kp A C) (hKb : ∀ (W : World) (l : Nat) (o o' : Obj), w.heap.size ≤ l → W.heap[l]? = some o → o.isCells = false → o.isWalk = false → Kp W (W.putObj l o')) (hb0 : Below w0.heap.size w0 w) (hps : ∀ x, (encs x).size = ps.size)
    (I : List α → World → Prop) (Ix : Code → List α → World → Prop) (hI : OwnFrom w.heap.size I) (hIx : ∀ c, OwnFrom w.heap.size (Ix c)) (h0 : I [] w) (Ax : α → Act → World → Prop) (hAx : ∀ x a', OwnFrom w.heap.size (fun (_ : Unit) W => Ax x a' W))
    (hassign : ∀ (l : Nat) (pre : List α) (x : α) (W : World) (K : Act → World → Prop), I pre W → Ok pre x → (∀ a' W', KeepsFrom w.heap.size W W' → Kp W W' → I pre W' → Ax x a' W' → K a' W') →
      assign.wpIn (F.inRound l) (n - 1 - 1) P (Exit.then K (fun _ _ _ => False)) { tmps := (ps.zip (encs x)).foldl (fun t (p, v) => t.setIfInBounds p v) a.tmps, defers := [] } W)
    (hbody : ∀ (l : Nat) (pre : List α) (x : α) (a' : Act) (W : World), w.heap.size ≤ l → (∃ r, W.heap[l]? = some (.loop r)) → I pre W → Ax x a' W → Ok pre x → body.wpIn (F.inRound l) (n - 1 - 1) P (ownPostG w.heap.size Kp I Ix (pre ++ [x]) W) a' W)
    (hdone : ∀ (xs : List α) (W : World), S xs → I xs W → Q .normal a W)
    (hstop : ∀ (c : Code) (pre : List α) (W : World), Sp pre → Ix c pre W → c.wpIn F n P Q a W) :
    (Code.rangeFunc g ps assign body).wpIn F n P Q a w := by
  refine wpIn_rangeFunc ?_
  intro fn hfn
  rw [hro]
  obtain ⟨D, hD⟩ : ∃ D, D = w.heap.size := ⟨_, rfl⟩
  obtain ⟨rc, hrc⟩ : ∃ rc : LoopState → Option Code → Loop, rc = fun st pe => { state := st, pending := pe, fn, tmps := a.tmps, params := ps, assign, body, defers := r₀.defers } := ⟨_, rfl⟩
  obtain ⟨V, hV⟩ : ∃ V, w.alloc (.loop (rc .ready none)) = V := ⟨_, rfl⟩
  have vL : V.heap[D]? = some (.loop (rc .ready none)) := by
    rw [← hV, hD]
    exact World.alloc_heap_new w _
  have vI : I [] V := by rw [← hV]; exact hI.alloc _ h0
  have vB : Below w0.heap.size w0 V := by
    rw [← hV]
    exact hb0.trans (((Below.refl _ w).alloc (Nat.le_refl _) _).mono hb0.size)
  have vz : D < V.heap.size := (Array.getElem?_eq_some_iff.1 vL).1
  refine ⟨D, [], V, { target := .fn (.func gf) lb, args := #[.func (.yield (D)) #[] #[]] }, V, gf, #[.func (.yield (D)) #[] #[]] ++ lb, V, ?_, ?_, ?_, ?_, fun _ => h1, ?_⟩
  · rw [← hV, hrc, hD]
    exact run_enterLoop_inner hl₀ _ _ _ _ _
  · simp only [resolve, hg]
    simp [go_sem]
  · intro f' hf'
    simp [Target.leads] at hf'
    subst hf'
    exact hFg
  · simp [invoke, go_sem, eg]
  · -- a block that lies where it lay: the record, the deferred calls' block
    have stay : ∀ {A B : World} {row : Option Nat} {k : Nat} {o : Obj}, A.heap[k]? = some o → k < V.heap.size → A.grownBy B row → (∀ r, row = some r → V.heap.size ≤ r ∧ ∃ o : Obj, A.heap[r]? = some o ∧ o.isCells = false) → B.heap[k]? = some o :=
      fun hk hlt hg hr => (hg.block _ (Array.getElem?_eq_some_iff.1 hk).1 (fun e => by have := (hr _ e.symm).1; omega)).trans hk
    have up : ∀ {A : World} {row : Option Nat}, (∀ r, row = some r → V.heap.size ≤ r ∧ ∃ o : Obj, A.heap[r]? = some o ∧ o.isCells = false) → ∀ r, row = some r → w.heap.size ≤ r ∧ ∃ o : Obj, A.heap[r]? = some o ∧ o.isCells = false :=
      fun hr r e => ⟨by have := (hr r e).1; omega, (hr r e).2⟩
    refine (hseq (D) (fun pre W => I pre W ∧ W.heap[D]? = some (.loop (rc .ready none)))
      (fun pre W => ∃ c, Ix c pre W ∧ W.heap[D]? = some (.loop (rc .done (some c)))) V vB
      (fun s A B row hs hg' hr => ⟨hI s A B row hs.1 hg' (up hr), stay hs.2 vz hg' hr⟩)
      (fun s A B row ⟨c, hc, hl⟩ hg' hr => ⟨c, hIx c s A B row hc hg' (up hr), stay hl vz hg' hr⟩) ?_ ⟨vI, vL⟩).mono ?_
    · -- a round
      rintro pre x W ⟨hi, hl⟩ hlen
      have hy := run_yield (P := P) (args := encs x) hl (by rw [hrc]; exact hps x)
      rw [hrc] at hy
      refine ⟨fn, _, assign, body, hy, roundIn_of_wpIn hfn (hassign _ pre x W _ hi hlen ?_)⟩
      clear hy
      intro a' A hkf hkp hia hax
      have lA := hkf.same _ _ (by omega) hl rfl
      have zA : D < A.heap.size := (Array.getElem?_eq_some_iff.1 lA).1
      refine ⟨_, run_beginRound lA (by rw [hrc]), ?_⟩
      obtain ⟨C, hC⟩ : ∃ C, A.putObj (D) (.loop { rc .ready none with state := .busy }) = C := ⟨_, rfl⟩
      have lC : C.heap[D]? = some (.loop { rc .ready none with state := .busy }) := by rw [← hC]; exact World.putObj_heap_same zA
      have kC : Kp A C := by rw [← hC]; exact hKb _ _ _ _ (by omega) lA rfl rfl
      have iC : I pre C := by rw [← hC]; exact hI.putObj _ hia (by omega) lA rfl
      have xC : Ax x a' C := by rw [← hC]; exact (hAx x a').putObj (s := ()) _ hax (by omega) lA rfl
      rw [hC]
      refine wpIn_mono (hbody _ pre x a' C (by omega) ⟨_, lC⟩ iC xC hlen) ?_
      have fin : ∀ (jump : Option Code) (E : World), KeepsFrom w.heap.size C E →
          ∃ T, (Instr.endRound (D) jump).run P E = .ok (.bool jump.isNone) T ∧ T = E.putObj (D) (.loop (rc (if jump.isNone then .ready else .done) jump)) ∧ E.heap[D]? = some (.loop { rc .ready none with state := .busy }) ∧
            T.heap[D]? = some (.loop (rc (if jump.isNone then .ready else .done) jump)) := fun jump E hE => by
        have lE := hE.same _ _ (by omega) lC rfl
        have r := run_endRound (P := P) jump lE
        rw [hrc] at r lE ⊢
        exact ⟨_, r, rfl, lE, World.putObj_heap_same (Array.getElem?_eq_some_iff.1 lE).1⟩
      have kf : ∀ {E T : World} {o : Obj}, KeepsFrom w.heap.size C E → T = E.putObj D o → KeepsFrom V.heap.size W T := fun hE hT => by
        subst hT
        have hA : KeepsFrom V.heap.size W A := KeepsFrom.up hkf (by omega)
        have hC' : KeepsFrom V.heap.size A C := by rw [← hC]; exact KeepsFrom.of_grownBy (grownBy_putObj' _ _ _) fun j e => by cases e; omega
        exact ((hA.trans hC').trans (KeepsFrom.up hE (by omega))).trans (KeepsFrom.of_grownBy (grownBy_putObj' _ _ _) fun j e => by cases e; omega)
      rintro e a3 E hp
      cases e with
      | normal =>
        obtain ⟨hE, hkE, hiE⟩ := hp
        obtain ⟨T, hr, rfl, lE, lT⟩ := fin none E hE
        exact ⟨_, _, hr, .inl ⟨rfl, ⟨hI.putObj _ hiE (by omega) lE rfl, lT⟩, hKt hkp (hKt (hKt kC hkE) (hKb _ _ _ _ (by omega) lE rfl rfl)), kf hE rfl⟩⟩
      | ret =>
        obtain ⟨T, hr, rfl, lE, lT⟩ := fin (some .ret) E hp.1
        exact ⟨_, _, hr, .inr ⟨rfl, ⟨.ret, (hIx _).putObj _ hp.2 (by omega) lE rfl, lT⟩, kf hp.1 rfl⟩⟩
      | exit id =>
        obtain ⟨T, hr, rfl, lE, lT⟩ := fin (some (.exit id)) E hp.1
        exact ⟨_, _, hr, .inr ⟨rfl, ⟨.exit id, (hIx _).putObj _ hp.2 (by omega) lE rfl, lT⟩, kf hp.1 rfl⟩⟩
      | goto t =>
        obtain ⟨T, hr, rfl, lE, lT⟩ := fin (some (.goto t)) E hp.1
        exact ⟨_, _, hr, .inr ⟨rfl, ⟨.goto t, (hIx _).putObj _ hp.2 (by omega) lE rfl, lT⟩, kf hp.1 rfl⟩⟩
      | panic ch => exact hp.elim
      | outgrown => exact hp.elim
    · -- behind the iterator
      rintro e E ⟨⟨v, rfl⟩, (⟨xs, hS, hi, hl⟩ | ⟨pre, hSp, c, hi, hl⟩)⟩
      · have r := run_endLoop (P := P) hl (by rw [hrc]; simp)
        rw [hrc] at r
        exact ⟨none, _, r, hdone xs _ hS (hI.putObj _ hi (by omega) hl rfl)⟩
      · have r := run_endLoop (P := P) hl (by rw [hrc]; simp)
        rw [hrc] at r
        exact ⟨some c, _, r, hstop c pre _ hSp ((hIx c).putObj _ hi (by omega) hl rfl)⟩
end
end Go.RG
namespace Go.Proofs.Ytagcohpghgnalaa.U
open Go.RowKit Go.RG Go.Hp Go.Pg Go.Shelf Go.Proofs.Ytagcohpghgnalaa
attribute [local go_sem] Oper.semAt_some


/-- what is safe stays safe, and lies as it lay -/
structure KeepP (n0 : World → Prop) (Pr : World → Nat → Prop) (W W' : World) : Prop where
  inv : n0 W → n0 W'
  size : W.heap.size ≤ W'.heap.size
  keep : ∀ k, Pr W k → Pr W' k ∧ W'.heap[k]? = W.heap[k]?
theorem KeepP.refl (n0 : World → Prop) (Pr : World → Nat → Prop) (W : World) : KeepP n0 Pr W W := ⟨id, Nat.le_refl _, fun _ h => ⟨h, rfl⟩⟩
theorem KeepP.trans {n0 : World → Prop} {Pr : World → Nat → Prop} {A B C : World} (h : KeepP n0 Pr A B) (k : KeepP n0 Pr B C) : KeepP n0 Pr A C :=
  ⟨fun h0 => k.inv (h.inv h0), Nat.le_trans h.size k.size, fun i hi => let ⟨h1, h2⟩ := h.keep i hi; let ⟨h3, h4⟩ := k.keep i h1; ⟨h3, h4.trans h2⟩⟩
/-- a guard that a turn of a block that is no cells leaves standing -/
structure GuardP (n0 : World → Prop) (Kp : World → World → Prop) (Pr : World → Nat → Prop) : Prop extends Guard n0 Kp Pr where
  lt : ∀ W k, Pr W k → k < W.heap.size
  grown : ∀ W W' row, W.grownBy W' row → (∀ r, row = some r → ∃ o : Obj, W.heap[r]? = some o ∧ o.isCells = false) → KeepP n0 Pr W W'
theorem KeepP.below {n0 : World → Prop} {Kp : World → World → Prop} {Pr : World → Nat → Prop} (hG : GuardP n0 Kp Pr) {A B : World} (h0 : n0 A) (hb : Below A.heap.size A B) : KeepP n0 Pr A B :=
  ⟨fun _ => (hG.fresh A B h0 hb).1, hb.size, fun k hk => ⟨(hG.fresh A B h0 hb).2.1 k hk, hb.block k (hG.lt A k hk)⟩⟩
theorem KeepP.of {n0 : World → Prop} {Kp : World → World → Prop} {Pr : World → Nat → Prop} (hG : GuardP n0 Kp Pr) {A B : World} (h0 : n0 A) (hb : Kp A B) : KeepP n0 Pr A B :=
  let ⟨h3, h1, h2⟩ := hG.keep A B h0 hb; ⟨fun _ => h3, h1, h2⟩
theorem guard_P {n0 : World → Prop} {Kp : World → World → Prop} {Pr : World → Nat → Prop} (hG : GuardP n0 Kp Pr) : Guard n0 (KeepP n0 Pr) Pr where
  fresh := hG.fresh
  keep := fun W W' h0 h => ⟨h.inv h0, h.size, h.keep⟩
theorem guardP_keepC {n0 : Nat} {T : Nat → Prop} (hT : ∀ k, T k → k < n0) : GuardP (fun W => n0 ≤ W.heap.size) (KeepC T) (fun W k => ¬ T k ∧ ∃ o, W.heap[k]? = some o ∧ o.isCells = true) where
  toGuard := guard_keepC hT
  lt := fun W k ⟨_, o, h, _⟩ => block_lt_of_heap h
  grown := fun W W' row hg hr => ⟨fun h0 => Nat.le_trans h0 hg.size, hg.size, fun k ⟨h1, o1, h2, h3⟩ =>
    have := heap_keep h2 h3 hg hr
    ⟨⟨h1, o1, this, h3⟩, by rw [h2]; exact this⟩⟩

def upl {α : Type} (f : Nat → α) (k : Nat) : List α := (List.range k).map f
theorem upl_succ {α : Type} (f : Nat → α) (k : Nat) : upl f (k + 1) = upl f k ++ [f k] := by simp [upl, List.range_succ]
theorem upl_length {α : Type} (f : Nat → α) (k : Nat) : (upl f k).length = k := by simp [upl]

theorem back_rows (m Bx g len cap : Nat) (n0 : World → Prop) (V : Nat → Value) (hlen : len ≤ 274877906944) (Kp : World → World → Prop) (Pr : World → Nat → Prop) (hG : Guard n0 Kp Pr) (w : World) (hn0 : n0 w)
    (hbx : w.cell? ⟨Bx, 0, none⟩ = some (.slice (some ⟨g, 0, none⟩) len cap)) (hgl : g < w.heap.size) (hV : ∀ j, j < len → w.cell? ⟨g, j, none⟩ = some (V j)) (hP : ∀ W, Below w.heap.size w W → Pr W Bx ∧ Pr W g) :
    SeqO Fence.wide m Try.prog 108 #[.pointer (some ⟨Bx, 0, none⟩)] (fun x : Nat × Value => #[.int .i64 x.1, x.2]) Kp (fun xs => xs = upl (fun q => (len - 1 - q, V (len - 1 - q))) len) (fun pre => ∃ k, k ≤ len ∧ pre = upl (fun q => (len - 1 - q, V (len - 1 - q))) k) (fun pre x => ∃ k, k < len ∧ pre = upl (fun q => (len - 1 - q, V (len - 1 - q))) k ∧ x = (len - 1 - k, V (len - 1 - k))) w := by
  obtain ⟨G, hGd⟩ : ∃ G : Nat → Nat × Value, (fun q => (len - 1 - q, V (len - 1 - q))) = G := ⟨_, rfl⟩
  rw [hGd]
  intro l J Jx W hW hJ hJx hY hJ0
  have hbx := below_cell hW hbx
  have hK : Kept n0 Pr (fun k => k = Bx ∨ k = g) W W := by
    refine ⟨(hG.fresh w W hn0 hW).1, ?_, ?_, fun _ _ => rfl⟩
    · rintro k (rfl | rfl)
      · exact (hP W hW).1
      · exact (hP W hW).2
    · rintro k (rfl | rfl)
      · exact block_lt_of_cell hbx
      · exact Nat.lt_of_lt_of_le hgl hW.size
  refine callsIn_of_wp Try.func108 rfl trivial ?_ rfl
  simp only [Try.ntmps108, List.size_toArray, List.length_cons, List.length_nil, Nat.reduceAdd, Nat.reduceSub, Array.replicate_succ, Array.replicate_zero, List.push_toArray, List.append_toArray, List.nil_append, List.cons_append]
  gi_wp2_with fail
  gi_loopw [3] (fun vi wr => ∃ k : Nat, k ≤ len ∧ vi = .int .i64 ((len : Int) - 1 - k) ∧ J (upl G k) wr ∧ Kept n0 Pr (fun k => k = Bx ∨ k = g) W wr) (fun vi _ => (intOf vi + 1).toNat)
  case atStart => exact ⟨0, by omega, by simp, hJ0, hK⟩
  case round =>
    obtain ⟨k, hkl, rfl, hJ1, hK1⟩ := hrel
    have hbx1 := hK1.cell (Or.inl rfl) hbx
    by_cases hk : k < len
    · have hk2 : (len : Int) - 1 - k = ((len - 1 - k : Nat) : Int) := by omega
      have hc := hK1.cell (Or.inr rfl) ((hW.cell (p := ⟨g, len - 1 - k, none⟩) hgl).trans (hV (len - 1 - k) (by omega)))
      have hGk : G k = (len - 1 - k, V (len - 1 - k)) := by rw [← hGd]
      obtain ⟨fn, tmps, assign, body, hy, hR⟩ := hY _ (G k) wr hJ1 ⟨k, hk, rfl, hGk⟩
      rw [hGk] at hy
      dsimp only at hy
      have hge : (0 : Int) ≤ ((len - 1 - k : Nat) : Int) := by omega
      have hlt : ((len - 1 - k : Nat) : Int) < (len : Int) := by omega
      generalize hq : len - 1 - k = q at hk2 hc hy hge hlt
      rw [hk2]
      gi_wp2_with fail
      refine ⟨fun h => (by cases h), hR.mono ?_⟩
      rintro e W3 (⟨rfl, hJ3, hk3, -⟩ | ⟨rfl, hJx3, -⟩)
      · gi_wp2_with fail
        go_roundw
        case rel => exact ⟨k + 1, by omega, by congr 1; omega, by rw [upl_succ]; exact hJ3, hK1.keep hG hk3⟩
        case measure =>
          simp only [intOf]
          omega
      · gi_wp2_with fail
        refine bodyPost_ret (results_none rfl _ _ _) rfl ?_
        exact ⟨⟨_, rfl⟩, .inr ⟨_, ⟨k + 1, by omega, (upl_succ _ _).symm⟩, hJx3⟩⟩
    · obtain rfl : k = len := by omega
      have hm1 : (k : Int) - 1 - k = -1 := by omega
      rw [hm1]
      gi_wp2_with fail
      go_end0
      exact ⟨⟨_, rfl⟩, .inl ⟨_, rfl, hJ1⟩⟩
theorem back_ents (m Bx g len cap : Nat) (n0 : World → Prop) (E : Nat → Ev) (hlen : len ≤ 274877906944) (Kp : World → World → Prop) (Pr : World → Nat → Prop) (hG : Guard n0 Kp Pr) (w : World) (hn0 : n0 w)
    (hbx : w.cell? ⟨Bx, 0, none⟩ = some (.slice (some ⟨g, 0, none⟩) len cap)) (hgl : g < w.heap.size)
    (hV : ∀ j, j < len → w.cell? ⟨g, j * 3, none⟩ = some (.int .u64 (E j).k.t) ∧ w.cell? ⟨g, j * 3 + 1, none⟩ = some (.int .u64 (E j).k.s) ∧ w.cell? ⟨g, j * 3 + 2, none⟩ = some (.int .u64 (E j).n)) (hP : ∀ W, Below w.heap.size w W → Pr W Bx ∧ Pr W g) :
    SeqO Fence.wide m Try.prog 109 #[.pointer (some ⟨Bx, 0, none⟩)] (fun x : Nat × Ev => #[.int .i64 x.1, .agg #[.int .u64 x.2.k.t, .int .u64 x.2.k.s, .int .u64 x.2.n]]) Kp (fun xs => xs = upl (fun q => (len - 1 - q, E (len - 1 - q))) len) (fun pre => ∃ k, k ≤ len ∧ pre = upl (fun q => (len - 1 - q, E (len - 1 - q))) k) (fun pre x => ∃ k, k < len ∧ pre = upl (fun q => (len - 1 - q, E (len - 1 - q))) k ∧ x = (len - 1 - k, E (len - 1 - k))) w := by
  obtain ⟨G, hGd⟩ : ∃ G : Nat → Nat × Ev, (fun q => (len - 1 - q, E (len - 1 - q))) = G := ⟨_, rfl⟩
  rw [hGd]
  intro l J Jx W hW hJ hJx hY hJ0
  have hbx := below_cell hW hbx
  have hK : Kept n0 Pr (fun k => k = Bx ∨ k = g) W W := by
    refine ⟨(hG.fresh w W hn0 hW).1, ?_, ?_, fun _ _ => rfl⟩
    · rintro k (rfl | rfl)
      · exact (hP W hW).1
      · exact (hP W hW).2
    · rintro k (rfl | rfl)
      · exact block_lt_of_cell hbx
      · exact Nat.lt_of_lt_of_le hgl hW.size
  refine callsIn_of_wp Try.func109 rfl trivial ?_ rfl
  simp only [Try.ntmps109, List.size_toArray, List.length_cons, List.length_nil, Nat.reduceAdd, Nat.reduceSub, Array.replicate_succ, Array.replicate_zero, List.push_toArray, List.append_toArray, List.nil_append, List.cons_append]
  gi_wp2_with fail
  gi_loopw [3] (fun vi wr => ∃ k : Nat, k ≤ len ∧ vi = .int .i64 ((len : Int) - 1 - k) ∧ J (upl G k) wr ∧ Kept n0 Pr (fun k => k = Bx ∨ k = g) W wr) (fun vi _ => (intOf vi + 1).toNat)
  case atStart => exact ⟨0, by omega, by simp, hJ0, hK⟩
  case round =>
    obtain ⟨k, hkl, rfl, hJ1, hK1⟩ := hrel
    have hbx1 := hK1.cell (Or.inl rfl) hbx
    by_cases hk : k < len
    · have hk2 : (len : Int) - 1 - k = ((len - 1 - k : Nat) : Int) := by omega
      obtain ⟨c0, c1, c2⟩ := hV (len - 1 - k) (by omega)
      have c0 := hK1.cell (Or.inr rfl) ((hW.cell (p := ⟨g, (len - 1 - k) * 3, none⟩) hgl).trans c0)
      have c1 := hK1.cell (Or.inr rfl) ((hW.cell (p := ⟨g, (len - 1 - k) * 3 + 1, none⟩) hgl).trans c1)
      have c2 := hK1.cell (Or.inr rfl) ((hW.cell (p := ⟨g, (len - 1 - k) * 3 + 2, none⟩) hgl).trans c2)
      have hGk : G k = (len - 1 - k, E (len - 1 - k)) := by rw [← hGd]
      obtain ⟨fn, tmps, assign, body, hy, hR⟩ := hY _ (G k) wr hJ1 ⟨k, hk, rfl, hGk⟩
      rw [hGk] at hy
      dsimp only at hy
      have hge : (0 : Int) ≤ ((len - 1 - k : Nat) : Int) := by omega
      have hlt : ((len - 1 - k : Nat) : Int) < (len : Int) := by omega
      generalize hq : len - 1 - k = q at hk2 c0 c1 c2 hy hge hlt
      rw [hk2]
      gi_wp2_with fail
      refine ⟨fun h => (by cases h), hR.mono ?_⟩
      rintro e W3 (⟨rfl, hJ3, hk3, -⟩ | ⟨rfl, hJx3, -⟩)
      · gi_wp2_with fail
        go_roundw
        case rel => exact ⟨k + 1, by omega, by congr 1; omega, by rw [upl_succ]; exact hJ3, hK1.keep hG hk3⟩
        case measure =>
          simp only [intOf]
          omega
      · gi_wp2_with fail
        refine bodyPost_ret (results_none rfl _ _ _) rfl ?_
        exact ⟨⟨_, rfl⟩, .inr ⟨_, ⟨k + 1, by omega, (upl_succ _ _).symm⟩, hJx3⟩⟩
    · obtain rfl : k = len := by omega
      have hm1 : (k : Int) - 1 - k = -1 := by omega
      rw [hm1]
      gi_wp2_with fail
      go_end0
      exact ⟨⟨_, rfl⟩, .inl ⟨_, rfl, hJ1⟩⟩

theorem bkR_call (a : Option Addr) (n c : Nat) (w : World) : Calls Try.prog 78 #[.slice a n c] w fun e w' => e = .returned (.func (.func 108) #[] #[.pointer (some ⟨w.heap.size, 0, none⟩)]) ∧ w' = w.alloc (.cells #[.slice a n c] 80) := by
  go_enter Try.func78, Try.ntmps78
  go_wp2_with fail
  go_ret
  exact ⟨rfl, rfl⟩
theorem bkE_call (a : Option Addr) (n c : Nat) (w : World) : Calls Try.prog 79 #[.slice a n c] w fun e w' => e = .returned (.func (.func 109) #[] #[.pointer (some ⟨w.heap.size, 0, none⟩)]) ∧ w' = w.alloc (.cells #[.slice a n c] 89) := by
  go_enter Try.func79, Try.ntmps79
  go_wp2_with fail
  go_ret
  exact ⟨rfl, rfl⟩
end Go.Proofs.Ytagcohpghgnalaa.U
