/-
  The document's index: Put, where a page is split.
-/
import Derived.Test.YtagcohpghgnalaaCGR2
set_option linter.unusedSimpArgs false
set_option linter.unusedVariables false
namespace Go.Proofs.Ytagcohpghgnalaa.RF
open Go.RowKit Go.RG Go.Hp Go.Pg Go.Proofs.Ytagcohpghgnalaa



section
variable {P : Program}
theorem makes_mono {o : Oper} {a : Act} {w : World} {R R' : Value → World → Prop} (h : makes P o a w R) (k : ∀ v w', R v w' → R' v w') : makes P o a w R' := by
  unfold makes at *
  revert h
  generalize (execOp a.eval o).run P w = r
  unfold makesUpon
  intro h
  split
  · exact k _ _ h
  · exact k _ _ h
  · exact Calls.mono h fun e w'' ⟨v, h1, h2⟩ => ⟨v, h1, k _ _ h2⟩
  · rename_i h1 h2 h3
    revert h
    split <;> first | exact fun h => (h1 _ _ rfl).elim | exact fun h => (h2 _ rfl).elim | exact fun h => (h3 _ _ _ rfl).elim | exact id
/-- append onto a row without room makes a new one -/
theorem makes_append_new (o : Oper) (a : Act) (d x : Operand) (t : TypeId) (ho : o.op = .call { callee := .builtin .append, args := #[d, x], argTypes := #[t, t] })
    (e : TypeId) (i : TypeInfo) (z : Value) (size bytes B : Nat) (ht : P.underlying t = some (.slice e)) (hi : P.info? e = some i) (hz : i.zero = some z)
    (hsize : i.size = size) (hby : i.bytes = bytes) (hzs : z.cells.size = size) (w : World) (b : Addr) (hd : a.eval d = .slice (some b) 0 0)
    (ad : Addr) (m c : Nat) (hx : a.eval x = .slice (some ad) m c) (news : List Value) (hl : news.length = m * size) (hnews : ∀ j u, news[j]? = some u → w.cell? (ad.add j) = some u)
    (hm : 0 < m) (h63 : m ≤ maxLen) (hbytes : m * bytes ≤ 140737488355328) (hB : B ≤ w.heap.size) :
    makes P o a w fun v w' => Below w.heap.size w w' ∧ ∃ g cap, v = .slice (some ⟨g, 0, none⟩) m cap ∧ w.heap.size ≤ g ∧ w'.ownsRow B e size v m news := by
  subst hsize hby
  have hms : m ≤ 9223372036854775807 := by simp only [maxLen] at h63; omega
  have hr := run_append_grow (P := P) w t o.type e i z ht hi hz b 0 0 [] (by simp) (fun j v h => by simp at h) ad m c news hl hnews (by omega) (by omega) (by rw [Nat.zero_add]; exact growslice_fits (by omega) hbytes)
  rw [Nat.zero_add] at hr
  unfold makes
  rw [exec_append d x t t ho (by rw [hd, hx]; exact hr)]
  have hge := grownCap_ge w m 0 e
  have hle := grownCap_le_maxLen w m 0 e h63
  refine ⟨(Below.refl _ w).drew.alloc (by simp) _, w.heap.size, grownCap w m 0 e, rfl, Nat.le_refl _, ?_⟩
  refine owns_of_row (L := news ++ (Builtin.zeroCells z.cells (grownCap w m 0 e - m)).toList) ?_ ?_ hge hle ?_ hB
  · have := row_new w.drew (news ++ (Builtin.zeroCells z.cells (grownCap w m 0 e - m)).toList) e
    have e1 : (news ++ (Builtin.zeroCells z.cells (grownCap w m 0 e - m)).toList).toArray = ([] : List Value).toArray ++ news.toArray ++ Builtin.zeroCells z.cells (grownCap w m 0 e - m) := by
      apply Array.ext'; simp
    rw [e1] at this
    exact this
  · simp only [List.length_append, hl, Array.length_toList, size_zeroCells, hzs, ← Nat.add_mul]
    congr 1
    omega
  · rw [List.take_append_of_le_length (by omega), List.take_of_length_le (by omega)]
end

/-- a slice of nothing -/
def E0 : RG.Spec := fun u _ => ∃ g, u = .slice (some ⟨g, 0, none⟩) 0 0
theorem E0.st : RG.Spec.stable E0 := fun _ _ _ h _ => h
/-- a page of one's own -/
def OwnE (B n : Nat) (p : List Ent) : RG.Spec := fun u w => ∃ g c, u = .slice (some ⟨g, 0, none⟩) n c ∧ B ≤ g ∧ w.ownsRow B 60 3 u n (cellsOf p)
theorem OwnE.st (B n : Nat) (p : List Ent) : RG.Spec.stable (OwnE B n p) := fun _ _ _ ⟨g, c, h1, h2, h3⟩ hb => ⟨g, c, h1, h2, owns_below h3 hb⟩
/-- two pages in their row -/
def OwnP (B m n : Nat) (p q : List Ent) : RG.Spec := fun u w => ∃ gv va vb, u = .slice (some ⟨gv, 0, none⟩) 2 2 ∧ B ≤ gv ∧ Row w gv 34 [va, vb] ∧ OwnE B m p va w ∧ OwnE B n q vb w
theorem OwnP.st (B m n : Nat) (p q : List Ent) : RG.Spec.stable (OwnP B m n p q) := fun _ _ _ ⟨gv, va, vb, h1, h2, h3, h4, h5⟩ hb => ⟨gv, va, vb, h1, h2, h3.below hb, OwnE.st _ _ _ _ _ _ h4 hb, OwnE.st _ _ _ _ _ _ h5 hb⟩
/-- the new row of pages -/
def RowS (B m n N : Nat) (p q : List Ent) (A Z : List Value) : RG.Spec := fun u w => ∃ va vb a c, u = .slice a N c ∧ w.ownsRow B 34 1 u N (A ++ ([va, vb] ++ Z)) ∧ OwnE B m p va w ∧ OwnE B n q vb w ∧ ∀ k, u.ownBlock = some k → va.ownBlock ≠ some k ∧ vb.ownBlock ≠ some k
theorem RowS.st (B m n N : Nat) (p q : List Ent) (A Z : List Value) : RG.Spec.stable (RowS B m n N p q A Z) := fun _ _ _ ⟨va, vb, a, c, h1, h2, h3, h4, h5⟩ hb => ⟨va, vb, a, c, h1, owns_below h2 hb, OwnE.st _ _ _ _ _ _ h3 hb, OwnE.st _ _ _ _ _ _ h4 hb, h5⟩

set_option maxHeartbeats 2000000 in
set_option maxRecDepth 100000 in
theorem put_rsplit (s : St) (x : Int) (bx size : Nat) (h4 : 4 ≤ size) (R : List (List Ent)) (hR : 0 < R.length) (hm : R.length ≤ 274877906942) (hO : Ordered R)
    (hl : ∀ i, i < R.length → (pageAt R i).length ≤ 64) (ht : there R s = false) (hfit : (pageAt R (pageOf R s)).length ≤ size) (hfit2 : size < (pageAt R (pageOf R s)).length + 1) (S : Nat → Prop) (vr : Value) (pvs : List Value) (w : World) (hM : RMemV w bx size R S vr pvs) :
    Calls Try.prog 84 #[.pointer (some ⟨bx, 0, none⟩), s.v, .int .u64 x] w (RPutPost w bx size (putR size R s (.int .u64 x)) S true) := by
  have hB0 := below_box w (.cells #[.int .u64 s.t, .int .u64 s.s] 38)
  have HP := Lib.hid (place_rsome s bx size R hR (by omega) hO (fun i hi => by have := hl i hi; omega) S vr pvs _ (hM.below hB0))
  have hpl := pageOf_lt (s := s) hR
  have hel := entOf_le R s
  have hlp := hl _ hpl
  have hf0 := hO.full _ hpl
  obtain ⟨m0, m1⟩ := hM.cells
  obtain ⟨g, cap, rfl, hg, hc, hcm, hrow, hfr⟩ := hM.row hR
  obtain ⟨g2, cap2, hv2, hg2, hc2, hcm2, hpage, hone, -⟩ := (hM.pages _ hpl).parts hf0
  have hrp := hrow _ hpl
  rw [hv2] at hrp
  have hbx := block_lt_of_heap hM.str
  have hpi := hM.pages _ hpl
  rw [hv2] at hpi
  have Hpi := Lib.hid hpi; clear hpi
  have HM := Lib.hid (And.intro hM (And.intro hO hv2)); clear hM hO
  rw [ht] at HP
  have e1 : (pageOf R s : Int) < (R.length : Int) := by omega
  have e2 : (entOf R s : Int) ≤ ((pageAt R (pageOf R s)).length : Int) := by omega
  have hfr := hfr (pageOf R s)
  have hRz : ((R.length : Int) == 0) = false := by rw [beq_eq_false_iff_ne]; omega
  clear hpage hone hrow hl hv2
  obtain ⟨i0, hi, hz0, hz1, hz2⟩ := info_parts BK.info_Entry
  unfold St.v at HP ⊢
  have s0 : (w.alloc (.cells #[.int .u64 s.t, .int .u64 s.s] 38)).cell? ⟨w.heap.size, 0, none⟩ = some (.int .u64 s.t) := by simp
  have s1 : (w.alloc (.cells #[.int .u64 s.t, .int .u64 s.s] 38)).cell? ⟨w.heap.size, 1, none⟩ = some (.int .u64 s.s) := by simp
  go_enter Try.func84, Try.ntmps84
  go_wp2_with fail
  generalize w.alloc (.cells #[.int .u64 s.t, .int .u64 s.s] 38) = w0 at hB0 s0 s1 HP ⊢
  refine HP.out.mono ?_
  rintro e w1 ⟨rfl, hB⟩
  have hB2 := hB0.trans (hB.mono hB0.size)
  have s0 := below_cell hB s0
  have s1 := below_cell hB s1
  have n0 := below_cell hB2 m0
  have n1 := below_cell hB2 m1
  have nrp := below_cell hB2 hrp
  have hz1' := hB2.size
  have hs2 : bx < w1.heap.size := by omega
  have hs3 : g < w1.heap.size := by omega
  have hne1 : ¬ bx = w1.heap.size := by omega
  have hne2 : ¬ g = w1.heap.size := by omega
  have hB3 : Below w.heap.size w (w1.alloc (.cells #[.int .u64 s.t, .int .u64 s.s, .int .u64 x] 60)) := hB2.alloc (by omega) _
  have Hown0 := Lib.hid (World.ownsRow_nil (w1.alloc (.cells #[.int .u64 s.t, .int .u64 s.s, .int .u64 x] 60)) (w1.alloc (.cells #[.int .u64 s.t, .int .u64 s.s, .int .u64 x] 60)).heap.size 60 3)
  have q1 : 0 + entOf R s ≤ maxLen := by unfold maxLen; omega
  have q2 : (0 + entOf R s) * 24 ≤ 140737488355328 := by omega
  have q3 := Nat.le_refl (w1.alloc (.cells #[.int .u64 s.t, .int .u64 s.s, .int .u64 x] 60)).heap.size
  have Hsrc := Lib.hid (fun j u hj => (src_take Hpi.out hB3 hel j u hj))
  have Hone1 := Lib.hid (cellsOf_one (p := (pageAt R (pageOf R s)).take (entOf R s)) fun e he => Hpi.out.one e (List.mem_of_mem_take he))
  have Hlen1 := Lib.hid (show (cellsOf ((pageAt R (pageOf R s)).take (entOf R s))).length = entOf R s * 3 by rw [length_cellsOf, List.length_take, Nat.min_eq_left hel])
  by_cases hci : cap2 = entOf R s
  · have Hoff := Lib.hid (show ∀ W, Below w.heap.size w W → ∀ (j : Nat) (u : Value), (cellsOf ((pageAt R (pageOf R s)).drop (entOf R s)))[j]? = some u → W.cell? ((⟨g2, 0, none⟩ : Addr).add j) = some u from fun W _ j u hj => by
      rw [List.drop_eq_nil_of_le (by omega)] at hj
      cases hj)
    have hif : ¬ ((pageAt R (pageOf R s)).length : Int) + 1 ≤ (size : Int) := by omega
    go_wp2_with (at_builtin; first | (refine wpList_append_own _ rfl _ _ 34 rfl (w1.alloc (.cells #[.int .u64 s.t, .int .u64 s.s, .int .u64 x] 60)).heap.size 60 i0 (.agg #[.int .u64 0, .int .u64 0, .int .u64 0]) 3 24 und_page hi hz0 hz1 hz2 rfl (by decide) _ _ _ rfl Hown0.out ⟨g2, 0, none⟩ _ _ (cellsOf ((pageAt R (pageOf R s)).take (entOf R s))) rfl Hlen1.out Hsrc.out Hone1.out q1 q2 q3 ?_; intro v' w2 hown' hgrow hnil; clear hnil; rw [Nat.zero_add] at hown'; have Hb2 := Lib.hid ((Below.refl _ _).grown hgrow q3 (fun k hk => by cases hk)); clear hgrow q1 q2 q3 Hsrc Hone1 Hlen1 Hown0; obtain ⟨a2, cap3, rfl, hx1, hx2⟩ := owns_shape hown'; have o0 := (Hb2.out.cell (p := ⟨bx, 0, none⟩) (by simp; omega)).trans (below_cell (below_box w1 (.cells #[.int .u64 s.t, .int .u64 s.s, .int .u64 x] 60)) n0); have o1 := (Hb2.out.cell (p := ⟨bx, 1, none⟩) (by simp; omega)).trans (below_cell (below_box w1 (.cells #[.int .u64 s.t, .int .u64 s.s, .int .u64 x] 60)) n1); have orp := (Hb2.out.cell (p := ⟨g, pageOf R s, none⟩) (by simp; omega)).trans (below_cell (below_box w1 (.cells #[.int .u64 s.t, .int .u64 s.s, .int .u64 x] 60)) nrp); have c0 : w2.cell? ⟨w1.heap.size, 0, none⟩ = some (.int .u64 s.t) := (Hb2.out.cell (p := ⟨w1.heap.size, 0, none⟩) (by simp)).trans (by simp); have c1 : w2.cell? ⟨w1.heap.size, 1, none⟩ = some (.int .u64 s.s) := (Hb2.out.cell (p := ⟨w1.heap.size, 1, none⟩) (by simp)).trans (by simp); have c2 : w2.cell? ⟨w1.heap.size, 2, none⟩ = some (.int .u64 x) := (Hb2.out.cell (p := ⟨w1.heap.size, 2, none⟩) (by simp)).trans (by simp); have hb2s := Hb2.out.size; have hb2t : bx < w2.heap.size ∧ g < w2.heap.size ∧ w1.heap.size < w2.heap.size := (by simp at hb2s; omega); obtain ⟨hb2t, hb2u, hb2v⟩ := hb2t; have Hown1 := Lib.hid (owns_below hown' (below_box w2 (.cells #[.int .u64 s.t, .int .u64 s.s, .int .u64 x] 60))); clear hown'; have Hsrc1 := Lib.hid (BK.src3 w2 (.int .u64 s.t) (.int .u64 s.s) (.int .u64 x)); have q1 : entOf R s + 1 ≤ maxLen := (by unfold maxLen; omega); have q2 : (entOf R s + 1) * 24 ≤ 140737488355328 := (by omega); have q3 : (w1.alloc (.cells #[.int .u64 s.t, .int .u64 s.s, .int .u64 x] 60)).heap.size ≤ (w2.alloc (.cells #[.int .u64 s.t, .int .u64 s.s, .int .u64 x] 60)).heap.size := (by simp at hb2s ⊢; omega); have Q1 := Lib.hid (BK.one3 s x)) | (refine wpList_append_own _ rfl _ _ 34 rfl (w1.alloc (.cells #[.int .u64 s.t, .int .u64 s.s, .int .u64 x] 60)).heap.size 60 i0 (.agg #[.int .u64 0, .int .u64 0, .int .u64 0]) 3 24 und_page hi hz0 hz1 hz2 rfl (by decide) _ _ _ rfl Hown1.out ⟨w2.heap.size, 0, none⟩ 1 1 [.int .u64 s.t, .int .u64 s.s, .int .u64 x] rfl rfl Hsrc1.out Q1.out q1 q2 q3 ?_; intro v' w3 hown' hgrow hnil; clear hnil; have Hb3 := Lib.hid ((Hb2.out.trans ((below_box w2 (.cells #[.int .u64 s.t, .int .u64 s.s, .int .u64 x] 60)).mono Hb2.out.size)).grown hgrow q3 (fun k hk => (Hown1.out.lt k hk).1)); clear hgrow q1 q2 q3 Hsrc1 Q1 Hown1; clear o0 o1 orp c0 c1 c2; obtain ⟨a3, cap4, rfl, hx3, hx4⟩ := owns_shape hown'; have o0 := (Hb3.out.cell (p := ⟨bx, 0, none⟩) (by simp; omega)).trans (below_cell (below_box w1 (.cells #[.int .u64 s.t, .int .u64 s.s, .int .u64 x] 60)) n0); have o1 := (Hb3.out.cell (p := ⟨bx, 1, none⟩) (by simp; omega)).trans (below_cell (below_box w1 (.cells #[.int .u64 s.t, .int .u64 s.s, .int .u64 x] 60)) n1); have orp := (Hb3.out.cell (p := ⟨g, pageOf R s, none⟩) (by simp; omega)).trans (below_cell (below_box w1 (.cells #[.int .u64 s.t, .int .u64 s.s, .int .u64 x] 60)) nrp); have Hown3 := Lib.hid hown'; clear hown'; have Hsrc3 := Lib.hid (fun j u hj => Hoff.out w3 (hB3.trans (Hb3.out.mono hB3.size)) j u hj); have Hone3 := Lib.hid (cellsOf_one (p := (pageAt R (pageOf R s)).drop (entOf R s)) fun e he => Hpi.out.one e (List.mem_of_mem_drop he)); have Hlen3 := Lib.hid (show (cellsOf ((pageAt R (pageOf R s)).drop (entOf R s))).length = ((pageAt R (pageOf R s)).length - entOf R s) * 3 by rw [length_cellsOf, List.length_drop]); have q1 : entOf R s + 1 + ((pageAt R (pageOf R s)).length - entOf R s) ≤ maxLen := (by unfold maxLen; omega); have q2 : (entOf R s + 1 + ((pageAt R (pageOf R s)).length - entOf R s)) * 24 ≤ 140737488355328 := (by omega); have q3 : (w1.alloc (.cells #[.int .u64 s.t, .int .u64 s.s, .int .u64 x] 60)).heap.size ≤ w3.heap.size := Hb3.out.size) | (go_loud (refine wpList_append_own _ rfl _ _ 34 rfl (w1.alloc (.cells #[.int .u64 s.t, .int .u64 s.s, .int .u64 x] 60)).heap.size 60 i0 (.agg #[.int .u64 0, .int .u64 0, .int .u64 0]) 3 24 und_page hi hz0 hz1 hz2 rfl (by decide) _ _ _ rfl Hown3.out ⟨g2, 0, none⟩ _ _ (cellsOf ((pageAt R (pageOf R s)).drop (entOf R s))) rfl Hlen3.out Hsrc3.out Hone3.out q1 q2 q3 ?_; intro v' w4 hown' hgrow hnil; clear hnil; have Hb4 := Lib.hid (Hb3.out.grown hgrow q3 (fun k hk => (Hown3.out.lt k hk).1)); clear hgrow q1 q2 q3 Hsrc3 Hone3 Hlen3 Hown3; clear o0 o1 orp; have o0 := (Hb4.out.cell (p := ⟨bx, 0, none⟩) (by simp; omega)).trans (below_cell (below_box w1 (.cells #[.int .u64 s.t, .int .u64 s.s, .int .u64 x] 60)) n0); have o1 := (Hb4.out.cell (p := ⟨bx, 1, none⟩) (by simp; omega)).trans (below_cell (below_box w1 (.cells #[.int .u64 s.t, .int .u64 s.s, .int .u64 x] 60)) n1); have orp := (Hb4.out.cell (p := ⟨g, pageOf R s, none⟩) (by simp; omega)).trans (below_cell (below_box w1 (.cells #[.int .u64 s.t, .int .u64 s.s, .int .u64 x] 60)) nrp); have hn4 : entOf R s + 1 + ((pageAt R (pageOf R s)).length - entOf R s) = (pageAt R (pageOf R s)).length + 1 := (by omega); rw [hn4] at hown'; obtain ⟨a4, cap5, rfl, hx5, hx6⟩ := owns_shape hown'; have Hown4 := Lib.hid hown'; clear hown' hn4; have hB5 := hB3.trans (Hb4.out.mono hB3.size); have hfr4 : w4.frozen? ⟨g, pageOf R s, none⟩ = false := (by rw [← hfr]; unfold World.frozen?; rw [hB5.block _ hg]))))
    have hc4 := owns_parts Hown4.out (by omega)
    obtain ⟨g4, cc4, e4, hg4, hg4s, hc4, -⟩ := hc4
    injection e4 with e4 _ e5
    subst e4 e5
    obtain ⟨h, eh⟩ : ∃ h, h = ((pageAt R (pageOf R s)).length + 1) / 2 := ⟨_, rfl⟩
    have hk2 : ((size : Int) + 1) / 2 = (h : Int) := by omega
    rw [hk2]
    clear hk2
    have hh0 : 0 < h := by omega
    have hh1 : h < (pageAt R (pageOf R s)).length + 1 := by omega
    obtain ⟨l, el⟩ : ∃ l, l = (pageAt R (pageOf R s)).take (entOf R s) ++ (⟨s, .int .u64 x⟩ :: (pageAt R (pageOf R s)).drop (entOf R s)) := ⟨_, rfl⟩
    have hlen : l.length = (pageAt R (pageOf R s)).length + 1 := by rw [el]; exact mid_len _ _ hel
    have hol := Hown4.out
    rw [mid_cells, ← el] at hol
    have Hl1 := Lib.hid (show ∀ e ∈ l, e.v.oneCell' = true by rw [el]; exact mid_one Hpi.out.one rfl)
    have Hol := Lib.hid hol; clear hol
    have El := Lib.hid el; clear el
    have Eh := Lib.hid eh; clear eh
    obtain ⟨N, eN⟩ : ∃ N, N = (pageAt R (pageOf R s)).length + 1 := ⟨_, rfl⟩
    rw [← eN] at hh1 hlen Hol hc4 ⊢
    have hN65 : N ≤ 65 := by omega
    have Hlen := Lib.hid hlen; clear hlen
    have EN := Lib.hid eN; clear eN
    have hci5 : ¬ cap5 = h := by omega
    have hW0 : w.heap.size ≤ w4.heap.size := hB5.size
    have hsl : ∀ q, q < R.length → ∃ a m c, val pvs q = .slice a m c := fun q hq => by
      obtain ⟨a, c, h, -⟩ := owns_shape (HM.out.1.pages q hq).row
      exact ⟨_, _, _, h⟩
    have Hrow := Lib.hid (fun (f : Value) (fs : List Value) (h1 : R.length + fs.length ≤ 274877906944) (h2 : ∀ u ∈ fs, u.oneCell' = true) (w' : World) (hb : Below w.heap.size w w') (hf : NewsAt w' f fs) => row_ref 0 (.slice (some ⟨g, 0, none⟩) R.length cap) f R.length (pageOf R s) (pageOf R s + 1) pvs fs (by omega) (by omega) h1 hsl h2 w' (owns_below HM.out.1.rows hb) hf)
    clear hsl
    refine wp_region_rg_tail 22 (fun i => if i = 8 then some E0 else if i = 12 then some (OwnE w.heap.size h (l.take h)) else if i = 13 then some E0 else if i = 17 then some (OwnE w.heap.size (N - h) (l.drop h)) else if i = 18 then some (OwnP w.heap.size h (N - h) (l.take h) (l.drop h)) else if i = 19 then some (RowS w.heap.size h (N - h) (R.length + 1) (l.take h) (l.drop h) (pvs.take (pageOf R s)) (pvs.drop (pageOf R s + 1))) else none) fol (by kernel_rfl) (fun W hW hh => ?_)
    clear hh
    have k1 : ∀ w1, Below W.heap.size W w1 → w1.cell? ⟨bx, 1, none⟩ = some (.slice (some ⟨g, 0, none⟩) R.length cap) := fun w1 h => below_cell (below_trans hW h) o1
    have Hol1 := fun w1 h => Lib.hid (owns_below (w' := w1) Hol.out (below_trans hW h))
    simp only [List.take_succ_cons, List.take_zero, List.drop_succ_cons, List.drop_zero]
    repeat (first
      | (refine lex_move _ (by first | exact Or.inl rfl | exact Or.inr rfl) rfl rfl ?_
         simp only [Act.put, Act.eval, Array.getD_eq_getD_getElem?, List.getElem?_toArray, List.getElem?_cons_zero, List.getElem?_cons_succ, Option.getD_some, List.setIfInBounds_toArray, List.set_cons_succ, List.set_cons_zero]
        )
      | (refine lex_float ?_ rfl rfl (fun w1 hb1 hf1 => ?_) ?_
         rotate_left
         (go_simp; (try simp (disch := omega) only [IntWalk.i64_quo, IntWalk.rem_in, IntWalk.i64_in, IntWalk.u64_in, IntWalk.u32_in, IntWalk.u8_in, IntWalk.toNatUp, IntWalk.iteOmega]); (try go_simp); rfl)
         simp only [Act.put, Act.eval, Array.getD_eq_getD_getElem?, List.getElem?_toArray, List.getElem?_cons_zero, List.getElem?_cons_succ, Option.getD_some, List.setIfInBounds_toArray, List.set_cons_succ, List.set_cons_zero]
        )
      | (refine lex_skip rfl ?_
         simp only [Act.put, Act.eval, Array.getD_eq_getD_getElem?, List.getElem?_toArray, List.getElem?_cons_zero, List.getElem?_cons_succ, Option.getD_some, List.setIfInBounds_toArray, List.set_cons_succ, List.set_cons_zero]
        ))
    refine lex_make _ rfl (by exact E0.st) rfl (fun w1 hb1 hf1 => ?_) ?_
    · (unfold makes; go_simp; simp only [makesUpon])
      exact ⟨below_box _ _, _, rfl⟩
    rintro u5 w5 hB7 ⟨ge, rfl⟩
    simp only [Act.put, Act.eval, Array.getD_eq_getD_getElem?, List.getElem?_toArray, List.getElem?_cons_zero, List.getElem?_cons_succ, Option.getD_some, List.setIfInBounds_toArray, List.set_cons_succ, List.set_cons_zero]
    repeat (first
      | (refine lex_move _ (by first | exact Or.inl rfl | exact Or.inr rfl) rfl rfl ?_
         simp only [Act.put, Act.eval, Array.getD_eq_getD_getElem?, List.getElem?_toArray, List.getElem?_cons_zero, List.getElem?_cons_succ, Option.getD_some, List.setIfInBounds_toArray, List.set_cons_succ, List.set_cons_zero]
        )
      | (refine lex_float ?_ rfl rfl (fun w1 hb1 hf1 => ?_) ?_
         rotate_left
         (go_simp; (try simp (disch := omega) only [IntWalk.i64_quo, IntWalk.rem_in, IntWalk.i64_in, IntWalk.u64_in, IntWalk.u32_in, IntWalk.u8_in, IntWalk.toNatUp, IntWalk.iteOmega]); (try go_simp); rfl)
         simp only [Act.put, Act.eval, Array.getD_eq_getD_getElem?, List.getElem?_toArray, List.getElem?_cons_zero, List.getElem?_cons_succ, Option.getD_some, List.setIfInBounds_toArray, List.set_cons_succ, List.set_cons_zero]
        )
      | (refine lex_skip rfl ?_
         simp only [Act.put, Act.eval, Array.getD_eq_getD_getElem?, List.getElem?_toArray, List.getElem?_cons_zero, List.getElem?_cons_succ, Option.getD_some, List.setIfInBounds_toArray, List.set_cons_succ, List.set_cons_zero]
        ))
    refine lex_make _ rfl (by exact OwnE.st _ _ _) rfl (fun w1 hb1 hf1 => ?_) ?_
    · have hb1' := hb1
      refine makes_mono (makes_append_new _ _ (.tmp 103) (.tmp 106) 34 rfl 60 i0 (.agg #[.int .u64 0, .int .u64 0, .int .u64 0]) 3 24 w.heap.size und_page hi hz0 hz1 hz2 rfl w1 ⟨ge, 0, none⟩ rfl ⟨g4, 0, none⟩ h cap5 rfl (cellsOf (l.take h)) (by rw [length_cellsOf, List.length_take, Hlen.out, Nat.min_eq_left (by omega)]) ?_ hh0 (by unfold maxLen; omega) (by omega) (by have h2 := hW.size; have h3 := hb1'.size; omega)) ?_
      · intro j u hj
        rw [← cellsOf_take, List.getElem?_take] at hj
        split at hj
        · exact owns_src (Hol1 _ hb1').out j u hj
        · cases hj
      · rintro v w' ⟨hb, ga, ca, rfl, hga, hown⟩
        exact ⟨hb, ga, ca, rfl, by have h2 := hW.size; have h3 := hb1'.size; omega, hown⟩
    rintro u6 w6 hB8 ⟨ga, ca, rfl, hga, howna⟩
    have Howna := Lib.hid howna; clear howna
    simp only [Act.put, Act.eval, Array.getD_eq_getD_getElem?, List.getElem?_toArray, List.getElem?_cons_zero, List.getElem?_cons_succ, Option.getD_some, List.setIfInBounds_toArray, List.set_cons_succ, List.set_cons_zero]
    repeat (first
      | (refine lex_move _ (by first | exact Or.inl rfl | exact Or.inr rfl) rfl rfl ?_
         simp only [Act.put, Act.eval, Array.getD_eq_getD_getElem?, List.getElem?_toArray, List.getElem?_cons_zero, List.getElem?_cons_succ, Option.getD_some, List.setIfInBounds_toArray, List.set_cons_succ, List.set_cons_zero]
        )
      | (refine lex_float ?_ rfl rfl (fun w1 hb1 hf1 => ?_) ?_
         rotate_left
         (go_simp; (try simp (disch := omega) only [IntWalk.i64_quo, IntWalk.rem_in, IntWalk.i64_in, IntWalk.u64_in, IntWalk.u32_in, IntWalk.u8_in, IntWalk.toNatUp, IntWalk.iteOmega]); (try go_simp); rfl)
         simp only [Act.put, Act.eval, Array.getD_eq_getD_getElem?, List.getElem?_toArray, List.getElem?_cons_zero, List.getElem?_cons_succ, Option.getD_some, List.setIfInBounds_toArray, List.set_cons_succ, List.set_cons_zero]
        )
      | (refine lex_skip rfl ?_
         simp only [Act.put, Act.eval, Array.getD_eq_getD_getElem?, List.getElem?_toArray, List.getElem?_cons_zero, List.getElem?_cons_succ, Option.getD_some, List.setIfInBounds_toArray, List.set_cons_succ, List.set_cons_zero]
        ))
    refine lex_make _ rfl (by exact E0.st) rfl (fun w1 hb1 hf1 => ?_) ?_
    · (unfold makes; go_simp; simp only [makesUpon])
      exact ⟨below_box _ _, _, rfl⟩
    rintro u7 w7 hB9 ⟨gf, rfl⟩
    simp only [Act.put, Act.eval, Array.getD_eq_getD_getElem?, List.getElem?_toArray, List.getElem?_cons_zero, List.getElem?_cons_succ, Option.getD_some, List.setIfInBounds_toArray, List.set_cons_succ, List.set_cons_zero]
    repeat (first
      | (refine lex_move _ (by first | exact Or.inl rfl | exact Or.inr rfl) rfl rfl ?_
         simp only [Act.put, Act.eval, Array.getD_eq_getD_getElem?, List.getElem?_toArray, List.getElem?_cons_zero, List.getElem?_cons_succ, Option.getD_some, List.setIfInBounds_toArray, List.set_cons_succ, List.set_cons_zero]
        )
      | (refine lex_float ?_ rfl rfl (fun w1 hb1 hf1 => ?_) ?_
         rotate_left
         (go_simp; (try simp (disch := omega) only [IntWalk.i64_quo, IntWalk.rem_in, IntWalk.i64_in, IntWalk.u64_in, IntWalk.u32_in, IntWalk.u8_in, IntWalk.toNatUp, IntWalk.iteOmega]); (try go_simp); rfl)
         simp only [Act.put, Act.eval, Array.getD_eq_getD_getElem?, List.getElem?_toArray, List.getElem?_cons_zero, List.getElem?_cons_succ, Option.getD_some, List.setIfInBounds_toArray, List.set_cons_succ, List.set_cons_zero]
        )
      | (refine lex_skip rfl ?_
         simp only [Act.put, Act.eval, Array.getD_eq_getD_getElem?, List.getElem?_toArray, List.getElem?_cons_zero, List.getElem?_cons_succ, Option.getD_some, List.setIfInBounds_toArray, List.set_cons_succ, List.set_cons_zero]
        ))
    refine lex_make _ rfl (by exact OwnE.st _ _ _) rfl (fun w1 hb1 hf1 => ?_) ?_
    · have hb1' := hb1
      refine makes_mono (makes_append_new _ _ (.tmp 108) (.tmp 111) 34 rfl 60 i0 (.agg #[.int .u64 0, .int .u64 0, .int .u64 0]) 3 24 w.heap.size und_page hi hz0 hz1 hz2 rfl w1 ⟨gf, 0, none⟩ rfl ⟨g4, h * 3, none⟩ (N - h) (cap5 - h) rfl (cellsOf (l.drop h)) (by rw [length_cellsOf, List.length_drop, Hlen.out]) ?_ (by omega) (by unfold maxLen; omega) (by omega) (by have h2 := hW.size; have h3 := hb1'.size; omega)) ?_
      · intro j u hj
        rw [← cellsOf_drop, List.getElem?_drop] at hj
        have := owns_src (Hol1 _ hb1').out _ u hj
        rw [Addr.add_lit] at this ⊢
        simpa using this
      · rintro v w' ⟨hb, ga, ca, rfl, hga, hown⟩
        exact ⟨hb, ga, ca, rfl, by have h2 := hW.size; have h3 := hb1'.size; omega, hown⟩
    rintro u8 w8 hB10 ⟨gb, cb, rfl, hgb, hownb⟩
    have Hownb := Lib.hid hownb; clear hownb
    simp only [Act.put, Act.eval, Array.getD_eq_getD_getElem?, List.getElem?_toArray, List.getElem?_cons_zero, List.getElem?_cons_succ, Option.getD_some, List.setIfInBounds_toArray, List.set_cons_succ, List.set_cons_zero]
    repeat (first
      | (refine lex_move _ (by first | exact Or.inl rfl | exact Or.inr rfl) rfl rfl ?_
         simp only [Act.put, Act.eval, Array.getD_eq_getD_getElem?, List.getElem?_toArray, List.getElem?_cons_zero, List.getElem?_cons_succ, Option.getD_some, List.setIfInBounds_toArray, List.set_cons_succ, List.set_cons_zero]
        )
      | (refine lex_float ?_ rfl rfl (fun w1 hb1 hf1 => ?_) ?_
         rotate_left
         (go_simp; (try simp (disch := omega) only [IntWalk.i64_quo, IntWalk.rem_in, IntWalk.i64_in, IntWalk.u64_in, IntWalk.u32_in, IntWalk.u8_in, IntWalk.toNatUp, IntWalk.iteOmega]); (try go_simp); rfl)
         simp only [Act.put, Act.eval, Array.getD_eq_getD_getElem?, List.getElem?_toArray, List.getElem?_cons_zero, List.getElem?_cons_succ, Option.getD_some, List.setIfInBounds_toArray, List.set_cons_succ, List.set_cons_zero]
        )
      | (refine lex_skip rfl ?_
         simp only [Act.put, Act.eval, Array.getD_eq_getD_getElem?, List.getElem?_toArray, List.getElem?_cons_zero, List.getElem?_cons_succ, Option.getD_some, List.setIfInBounds_toArray, List.set_cons_succ, List.set_cons_zero]
        ))
    refine lex_make _ rfl (by exact OwnP.st _ _ _ _ _) rfl (fun w1 hb1 hf1 => ?_) ?_
    · have hb1' := hb1
      have f4 : OwnE w.heap.size h (l.take h) (.slice (some ⟨ga, 0, none⟩) h ca) w1 := hf1 107 (by decide) (by simp)
      have f5 : OwnE w.heap.size (N - h) (l.drop h) (.slice (some ⟨gb, 0, none⟩) (N - h) cb) w1 := hf1 112 (by decide) (by simp)
      clear hf1
      (unfold makes; go_simp; simp only [makesUpon])
      have hb2 := below_box w1 (.cells #[.slice (some ⟨ga, 0, none⟩) h ca, .slice (some ⟨gb, 0, none⟩) (N - h) cb] 34)
      refine ⟨hb2, w1.heap.size, _, _, rfl, ?_, row_new _ _ _, OwnE.st _ _ _ _ _ _ f4 hb2, OwnE.st _ _ _ _ _ _ f5 hb2⟩
      have h2 := hW.size; have h3 := hb1'.size; omega
    rintro u9 w9 hB11 ⟨gv, va, vb, rfl, hgv, hrowv, hva, hvb⟩
    have Hvab := Lib.hid (And.intro hrowv (And.intro hva hvb)); clear hrowv hva hvb
    simp only [Act.put, Act.eval, Array.getD_eq_getD_getElem?, List.getElem?_toArray, List.getElem?_cons_zero, List.getElem?_cons_succ, Option.getD_some, List.setIfInBounds_toArray, List.set_cons_succ, List.set_cons_zero]
    refine lex_make _ rfl (by exact RowS.st _ _ _ _ _ _ _ _) rfl (fun w1 hb1 hf1 => ?_) ?_
    · have hb1' := hb1
      have f4 : OwnP w.heap.size h (N - h) (l.take h) (l.drop h) (.slice (some ⟨gv, 0, none⟩) 2 2) w1 := hf1 113 (by decide) (by simp)
      clear hf1
      (unfold makes; go_simp; simp only [makesUpon])
      obtain ⟨gv', va', vb', ev, hgv', hrow', hva', hvb'⟩ := f4
      injection ev with ev _ _
      injection ev with ev
      injection ev with ev _ _
      subst ev
      obtain ⟨xa, ya, eva, -, hoa⟩ := hva'
      obtain ⟨xb, yb, evb, -, hob⟩ := hvb'
      have hxa : xa < w1.heap.size := owns_lt hoa (by rw [eva]; rfl)
      have hxb : xb < w1.heap.size := owns_lt hob (by rw [evb]; rfl)
      have hBw1 := hB5.trans ((below_trans hW hb1').mono hB5.size)
      have one6 : ∀ u ∈ [va', vb'], u.oneCell' = true := fun u hu => by
        rcases List.mem_cons.1 hu with rfl | hu
        · rw [eva]; rfl
        · obtain rfl := List.mem_singleton.1 hu
          rw [evb]; rfl
      refine (Hrow.out _ [va', vb'] (by simp only [List.length_cons, List.length_nil]; omega) one6 w1 hBw1 (Or.inr ⟨gv, 2, rfl, fun j u hu => by rw [Addr.add_lit, Nat.zero_add, hrow'.cell]; exact hu⟩)).mono ?_
      rintro e w' ⟨v, rfl, hown, hb⟩
      have en : R.length - (pageOf R s + 1 - pageOf R s) + [va', vb'].length = R.length + 1 := by simp only [List.length_cons, List.length_nil]; omega
      rw [en] at hown
      obtain ⟨av, cv, hsv, -⟩ := owns_shape hown
      refine ⟨v, rfl, hb, va', vb', av, cv, hsv, owns_base hown fun k hk => Nat.le_trans hBw1.size (hown.lt k hk).1, OwnE.st _ _ _ _ _ _ ⟨xa, ya, eva, (hoa.lt xa (by rw [eva]; rfl)).1, hoa⟩ hb, OwnE.st _ _ _ _ _ _ ⟨xb, yb, evb, (hob.lt xb (by rw [evb]; rfl)).1, hob⟩ hb, fun k hk => ?_⟩
      have hk1 := (hown.lt k hk).1
      rw [eva, evb]
      exact ⟨fun e => by have e : xa = k := Option.some.inj e; omega, fun e => by have e : xb = k := Option.some.inj e; omega⟩
    rintro u w10 hB12 ⟨va2, vb2, av, cv, rfl, hown, hva, hvb, hne⟩
    have HE := Lib.hid (And.intro hown (And.intro hva (And.intro hvb hne))); clear hown hva hvb hne
    have hBe := below_trans (below_trans (below_trans (below_trans (below_trans hB7 hB8) hB9) hB10) hB11) hB12
    have hBx := hB5.trans ((below_trans hW hBe).mono hB5.size)
    simp only [Act.put, Act.eval, Array.getD_eq_getD_getElem?, List.getElem?_toArray, List.getElem?_cons_zero, List.getElem?_cons_succ, Option.getD_some, List.setIfInBounds_toArray, List.set_cons_succ, List.set_cons_zero]
    repeat (first
      | (refine lex_move _ (by first | exact Or.inl rfl | exact Or.inr rfl) rfl rfl ?_
         simp only [Act.put, Act.eval, Array.getD_eq_getD_getElem?, List.getElem?_toArray, List.getElem?_cons_zero, List.getElem?_cons_succ, Option.getD_some, List.setIfInBounds_toArray, List.set_cons_succ, List.set_cons_zero]
        )
      | (refine lex_float ?_ rfl rfl (fun w1 hb1 hf1 => ?_) ?_
         rotate_left
         (go_simp; (try simp (disch := omega) only [IntWalk.i64_quo, IntWalk.rem_in, IntWalk.i64_in, IntWalk.u64_in, IntWalk.u32_in, IntWalk.u8_in, IntWalk.toNatUp, IntWalk.iteOmega]); (try go_simp); rfl)
         simp only [Act.put, Act.eval, Array.getD_eq_getD_getElem?, List.getElem?_toArray, List.getElem?_cons_zero, List.getElem?_cons_succ, Option.getD_some, List.setIfInBounds_toArray, List.set_cons_succ, List.set_cons_zero]
        )
      | (refine lex_skip rfl ?_
         simp only [Act.put, Act.eval, Array.getD_eq_getD_getElem?, List.getElem?_toArray, List.getElem?_cons_zero, List.getElem?_cons_succ, Option.getD_some, List.setIfInBounds_toArray, List.set_cons_succ, List.set_cons_zero]
        ))
    refine lex_nil ?_
    have k2 := k1 _ hBe
    have k3 := (HM.out.1.below hBx).frozen 1
    clear k1
    go_wp2_with fail
    go_ret
    have hlen := Hlen.out
    have hh := Eh.out
    have hN := EN.out
    have hput : putR size R s (.int .u64 x) = R.take (pageOf R s) ++ ([l.take h, l.drop h] ++ R.drop (pageOf R s + 1)) := by
      unfold putR
      rw [if_neg (by omega), if_neg (by rw [ht]; decide), ← El.out]
      simp only [hlen]
      rw [if_neg (by omega), show N / 2 = h by rw [hN, hh]]
      rfl
    obtain ⟨ho, hva, hvb, hne⟩ := HE.out
    obtain ⟨xa, ya, eva, hxa, hoa⟩ := hva
    obtain ⟨xb, yb, evb, hxb, hob⟩ := hvb
    have hend := HM.out.1.rows_end (ms := [l.take h, l.drop h]) (vs := [va2, vb2]) (vr' := .slice av (R.length + 1) cv) (i := pageOf R s) (j := pageOf R s + 1) (n' := R.length + 1) hBx (by omega) (by omega) rfl (by simp only [List.length_cons, List.length_nil]; omega) ho ?_ ?_
    · rw [hput]
      exact ⟨rfl, _, _, hend.1, hend.2⟩
    · intro q hq
      rcases (show q = 0 ∨ q = 1 by simp only [List.length_cons, List.length_nil] at hq; omega) with rfl | rfl
      · refine ⟨?_, fun e he => Hl1.out e (List.mem_of_mem_take he)⟩
        have : (pageAt [l.take h, l.drop h] 0).length = h := by show (l.take h).length = h; rw [List.length_take]; omega
        rw [this]
        exact owns_base hoa fun k _ => Nat.zero_le _
      · refine ⟨?_, fun e he => Hl1.out e (List.mem_of_mem_drop he)⟩
        have : (pageAt [l.take h, l.drop h] 1).length = N - h := by show (l.drop h).length = N - h; rw [List.length_drop]; omega
        rw [this]
        exact owns_base hob fun k _ => Nat.zero_le _
    · intro q hq k hk
      rcases (show q = 0 ∨ q = 1 by simp only [List.length_cons, List.length_nil] at hq; omega) with rfl | rfl
      · have hk : va2.ownBlock = some k := hk
        exact ⟨by rw [eva] at hk; have hk : xa = k := Option.some.inj hk; omega, fun e => (hne k e).1 hk⟩
      · have hk : vb2.ownBlock = some k := hk
        exact ⟨by rw [evb] at hk; have hk : xb = k := Option.some.inj hk; omega, fun e => (hne k e).2 hk⟩
  · have Hoff := Lib.hid (fun W hW => src_drop (i := entOf R s) Hpi.out (w' := W) hW)
    have hif : ¬ ((pageAt R (pageOf R s)).length : Int) + 1 ≤ (size : Int) := by omega
    go_wp2_with (at_builtin; first | (refine wpList_append_own _ rfl _ _ 34 rfl (w1.alloc (.cells #[.int .u64 s.t, .int .u64 s.s, .int .u64 x] 60)).heap.size 60 i0 (.agg #[.int .u64 0, .int .u64 0, .int .u64 0]) 3 24 und_page hi hz0 hz1 hz2 rfl (by decide) _ _ _ rfl Hown0.out ⟨g2, 0, none⟩ _ _ (cellsOf ((pageAt R (pageOf R s)).take (entOf R s))) rfl Hlen1.out Hsrc.out Hone1.out q1 q2 q3 ?_; intro v' w2 hown' hgrow hnil; clear hnil; rw [Nat.zero_add] at hown'; have Hb2 := Lib.hid ((Below.refl _ _).grown hgrow q3 (fun k hk => by cases hk)); clear hgrow q1 q2 q3 Hsrc Hone1 Hlen1 Hown0; obtain ⟨a2, cap3, rfl, hx1, hx2⟩ := owns_shape hown'; have o0 := (Hb2.out.cell (p := ⟨bx, 0, none⟩) (by simp; omega)).trans (below_cell (below_box w1 (.cells #[.int .u64 s.t, .int .u64 s.s, .int .u64 x] 60)) n0); have o1 := (Hb2.out.cell (p := ⟨bx, 1, none⟩) (by simp; omega)).trans (below_cell (below_box w1 (.cells #[.int .u64 s.t, .int .u64 s.s, .int .u64 x] 60)) n1); have orp := (Hb2.out.cell (p := ⟨g, pageOf R s, none⟩) (by simp; omega)).trans (below_cell (below_box w1 (.cells #[.int .u64 s.t, .int .u64 s.s, .int .u64 x] 60)) nrp); have c0 : w2.cell? ⟨w1.heap.size, 0, none⟩ = some (.int .u64 s.t) := (Hb2.out.cell (p := ⟨w1.heap.size, 0, none⟩) (by simp)).trans (by simp); have c1 : w2.cell? ⟨w1.heap.size, 1, none⟩ = some (.int .u64 s.s) := (Hb2.out.cell (p := ⟨w1.heap.size, 1, none⟩) (by simp)).trans (by simp); have c2 : w2.cell? ⟨w1.heap.size, 2, none⟩ = some (.int .u64 x) := (Hb2.out.cell (p := ⟨w1.heap.size, 2, none⟩) (by simp)).trans (by simp); have hb2s := Hb2.out.size; have hb2t : bx < w2.heap.size ∧ g < w2.heap.size ∧ w1.heap.size < w2.heap.size := (by simp at hb2s; omega); obtain ⟨hb2t, hb2u, hb2v⟩ := hb2t; have Hown1 := Lib.hid (owns_below hown' (below_box w2 (.cells #[.int .u64 s.t, .int .u64 s.s, .int .u64 x] 60))); clear hown'; have Hsrc1 := Lib.hid (BK.src3 w2 (.int .u64 s.t) (.int .u64 s.s) (.int .u64 x)); have q1 : entOf R s + 1 ≤ maxLen := (by unfold maxLen; omega); have q2 : (entOf R s + 1) * 24 ≤ 140737488355328 := (by omega); have q3 : (w1.alloc (.cells #[.int .u64 s.t, .int .u64 s.s, .int .u64 x] 60)).heap.size ≤ (w2.alloc (.cells #[.int .u64 s.t, .int .u64 s.s, .int .u64 x] 60)).heap.size := (by simp at hb2s ⊢; omega); have Q1 := Lib.hid (BK.one3 s x)) | (refine wpList_append_own _ rfl _ _ 34 rfl (w1.alloc (.cells #[.int .u64 s.t, .int .u64 s.s, .int .u64 x] 60)).heap.size 60 i0 (.agg #[.int .u64 0, .int .u64 0, .int .u64 0]) 3 24 und_page hi hz0 hz1 hz2 rfl (by decide) _ _ _ rfl Hown1.out ⟨w2.heap.size, 0, none⟩ 1 1 [.int .u64 s.t, .int .u64 s.s, .int .u64 x] rfl rfl Hsrc1.out Q1.out q1 q2 q3 ?_; intro v' w3 hown' hgrow hnil; clear hnil; have Hb3 := Lib.hid ((Hb2.out.trans ((below_box w2 (.cells #[.int .u64 s.t, .int .u64 s.s, .int .u64 x] 60)).mono Hb2.out.size)).grown hgrow q3 (fun k hk => (Hown1.out.lt k hk).1)); clear hgrow q1 q2 q3 Hsrc1 Q1 Hown1; clear o0 o1 orp c0 c1 c2; obtain ⟨a3, cap4, rfl, hx3, hx4⟩ := owns_shape hown'; have o0 := (Hb3.out.cell (p := ⟨bx, 0, none⟩) (by simp; omega)).trans (below_cell (below_box w1 (.cells #[.int .u64 s.t, .int .u64 s.s, .int .u64 x] 60)) n0); have o1 := (Hb3.out.cell (p := ⟨bx, 1, none⟩) (by simp; omega)).trans (below_cell (below_box w1 (.cells #[.int .u64 s.t, .int .u64 s.s, .int .u64 x] 60)) n1); have orp := (Hb3.out.cell (p := ⟨g, pageOf R s, none⟩) (by simp; omega)).trans (below_cell (below_box w1 (.cells #[.int .u64 s.t, .int .u64 s.s, .int .u64 x] 60)) nrp); have Hown3 := Lib.hid hown'; clear hown'; have Hsrc3 := Lib.hid (fun j u hj => Hoff.out w3 (hB3.trans (Hb3.out.mono hB3.size)) j u hj); have Hone3 := Lib.hid (cellsOf_one (p := (pageAt R (pageOf R s)).drop (entOf R s)) fun e he => Hpi.out.one e (List.mem_of_mem_drop he)); have Hlen3 := Lib.hid (show (cellsOf ((pageAt R (pageOf R s)).drop (entOf R s))).length = ((pageAt R (pageOf R s)).length - entOf R s) * 3 by rw [length_cellsOf, List.length_drop]); have q1 : entOf R s + 1 + ((pageAt R (pageOf R s)).length - entOf R s) ≤ maxLen := (by unfold maxLen; omega); have q2 : (entOf R s + 1 + ((pageAt R (pageOf R s)).length - entOf R s)) * 24 ≤ 140737488355328 := (by omega); have q3 : (w1.alloc (.cells #[.int .u64 s.t, .int .u64 s.s, .int .u64 x] 60)).heap.size ≤ w3.heap.size := Hb3.out.size) | (go_loud (refine wpList_append_own _ rfl _ _ 34 rfl (w1.alloc (.cells #[.int .u64 s.t, .int .u64 s.s, .int .u64 x] 60)).heap.size 60 i0 (.agg #[.int .u64 0, .int .u64 0, .int .u64 0]) 3 24 und_page hi hz0 hz1 hz2 rfl (by decide) _ _ _ rfl Hown3.out ⟨g2, entOf R s * 3, none⟩ _ _ (cellsOf ((pageAt R (pageOf R s)).drop (entOf R s))) rfl Hlen3.out Hsrc3.out Hone3.out q1 q2 q3 ?_; intro v' w4 hown' hgrow hnil; clear hnil; have Hb4 := Lib.hid (Hb3.out.grown hgrow q3 (fun k hk => (Hown3.out.lt k hk).1)); clear hgrow q1 q2 q3 Hsrc3 Hone3 Hlen3 Hown3; clear o0 o1 orp; have o0 := (Hb4.out.cell (p := ⟨bx, 0, none⟩) (by simp; omega)).trans (below_cell (below_box w1 (.cells #[.int .u64 s.t, .int .u64 s.s, .int .u64 x] 60)) n0); have o1 := (Hb4.out.cell (p := ⟨bx, 1, none⟩) (by simp; omega)).trans (below_cell (below_box w1 (.cells #[.int .u64 s.t, .int .u64 s.s, .int .u64 x] 60)) n1); have orp := (Hb4.out.cell (p := ⟨g, pageOf R s, none⟩) (by simp; omega)).trans (below_cell (below_box w1 (.cells #[.int .u64 s.t, .int .u64 s.s, .int .u64 x] 60)) nrp); have hn4 : entOf R s + 1 + ((pageAt R (pageOf R s)).length - entOf R s) = (pageAt R (pageOf R s)).length + 1 := (by omega); rw [hn4] at hown'; obtain ⟨a4, cap5, rfl, hx5, hx6⟩ := owns_shape hown'; have Hown4 := Lib.hid hown'; clear hown' hn4; have hB5 := hB3.trans (Hb4.out.mono hB3.size); have hfr4 : w4.frozen? ⟨g, pageOf R s, none⟩ = false := (by rw [← hfr]; unfold World.frozen?; rw [hB5.block _ hg]))))
    have hc4 := owns_parts Hown4.out (by omega)
    obtain ⟨g4, cc4, e4, hg4, hg4s, hc4, -⟩ := hc4
    injection e4 with e4 _ e5
    subst e4 e5
    obtain ⟨h, eh⟩ : ∃ h, h = ((pageAt R (pageOf R s)).length + 1) / 2 := ⟨_, rfl⟩
    have hk2 : ((size : Int) + 1) / 2 = (h : Int) := by omega
    rw [hk2]
    clear hk2
    have hh0 : 0 < h := by omega
    have hh1 : h < (pageAt R (pageOf R s)).length + 1 := by omega
    obtain ⟨l, el⟩ : ∃ l, l = (pageAt R (pageOf R s)).take (entOf R s) ++ (⟨s, .int .u64 x⟩ :: (pageAt R (pageOf R s)).drop (entOf R s)) := ⟨_, rfl⟩
    have hlen : l.length = (pageAt R (pageOf R s)).length + 1 := by rw [el]; exact mid_len _ _ hel
    have hol := Hown4.out
    rw [mid_cells, ← el] at hol
    have Hl1 := Lib.hid (show ∀ e ∈ l, e.v.oneCell' = true by rw [el]; exact mid_one Hpi.out.one rfl)
    have Hol := Lib.hid hol; clear hol
    have El := Lib.hid el; clear el
    have Eh := Lib.hid eh; clear eh
    obtain ⟨N, eN⟩ : ∃ N, N = (pageAt R (pageOf R s)).length + 1 := ⟨_, rfl⟩
    rw [← eN] at hh1 hlen Hol hc4 ⊢
    have hN65 : N ≤ 65 := by omega
    have Hlen := Lib.hid hlen; clear hlen
    have EN := Lib.hid eN; clear eN
    have hci5 : ¬ cap5 = h := by omega
    have hW0 : w.heap.size ≤ w4.heap.size := hB5.size
    have hsl : ∀ q, q < R.length → ∃ a m c, val pvs q = .slice a m c := fun q hq => by
      obtain ⟨a, c, h, -⟩ := owns_shape (HM.out.1.pages q hq).row
      exact ⟨_, _, _, h⟩
    have Hrow := Lib.hid (fun (f : Value) (fs : List Value) (h1 : R.length + fs.length ≤ 274877906944) (h2 : ∀ u ∈ fs, u.oneCell' = true) (w' : World) (hb : Below w.heap.size w w') (hf : NewsAt w' f fs) => row_ref 0 (.slice (some ⟨g, 0, none⟩) R.length cap) f R.length (pageOf R s) (pageOf R s + 1) pvs fs (by omega) (by omega) h1 hsl h2 w' (owns_below HM.out.1.rows hb) hf)
    clear hsl
    refine wp_region_rg_tail 22 (fun i => if i = 8 then some E0 else if i = 12 then some (OwnE w.heap.size h (l.take h)) else if i = 13 then some E0 else if i = 17 then some (OwnE w.heap.size (N - h) (l.drop h)) else if i = 18 then some (OwnP w.heap.size h (N - h) (l.take h) (l.drop h)) else if i = 19 then some (RowS w.heap.size h (N - h) (R.length + 1) (l.take h) (l.drop h) (pvs.take (pageOf R s)) (pvs.drop (pageOf R s + 1))) else none) fol (by kernel_rfl) (fun W hW hh => ?_)
    clear hh
    have k1 : ∀ w1, Below W.heap.size W w1 → w1.cell? ⟨bx, 1, none⟩ = some (.slice (some ⟨g, 0, none⟩) R.length cap) := fun w1 h => below_cell (below_trans hW h) o1
    have Hol1 := fun w1 h => Lib.hid (owns_below (w' := w1) Hol.out (below_trans hW h))
    simp only [List.take_succ_cons, List.take_zero, List.drop_succ_cons, List.drop_zero]
    repeat (first
      | (refine lex_move _ (by first | exact Or.inl rfl | exact Or.inr rfl) rfl rfl ?_
         simp only [Act.put, Act.eval, Array.getD_eq_getD_getElem?, List.getElem?_toArray, List.getElem?_cons_zero, List.getElem?_cons_succ, Option.getD_some, List.setIfInBounds_toArray, List.set_cons_succ, List.set_cons_zero]
        )
      | (refine lex_float ?_ rfl rfl (fun w1 hb1 hf1 => ?_) ?_
         rotate_left
         (go_simp; (try simp (disch := omega) only [IntWalk.i64_quo, IntWalk.rem_in, IntWalk.i64_in, IntWalk.u64_in, IntWalk.u32_in, IntWalk.u8_in, IntWalk.toNatUp, IntWalk.iteOmega]); (try go_simp); rfl)
         simp only [Act.put, Act.eval, Array.getD_eq_getD_getElem?, List.getElem?_toArray, List.getElem?_cons_zero, List.getElem?_cons_succ, Option.getD_some, List.setIfInBounds_toArray, List.set_cons_succ, List.set_cons_zero]
        )
      | (refine lex_skip rfl ?_
         simp only [Act.put, Act.eval, Array.getD_eq_getD_getElem?, List.getElem?_toArray, List.getElem?_cons_zero, List.getElem?_cons_succ, Option.getD_some, List.setIfInBounds_toArray, List.set_cons_succ, List.set_cons_zero]
        ))
    refine lex_make _ rfl (by exact E0.st) rfl (fun w1 hb1 hf1 => ?_) ?_
    · (unfold makes; go_simp; simp only [makesUpon])
      exact ⟨below_box _ _, _, rfl⟩
    rintro u5 w5 hB7 ⟨ge, rfl⟩
    simp only [Act.put, Act.eval, Array.getD_eq_getD_getElem?, List.getElem?_toArray, List.getElem?_cons_zero, List.getElem?_cons_succ, Option.getD_some, List.setIfInBounds_toArray, List.set_cons_succ, List.set_cons_zero]
    repeat (first
      | (refine lex_move _ (by first | exact Or.inl rfl | exact Or.inr rfl) rfl rfl ?_
         simp only [Act.put, Act.eval, Array.getD_eq_getD_getElem?, List.getElem?_toArray, List.getElem?_cons_zero, List.getElem?_cons_succ, Option.getD_some, List.setIfInBounds_toArray, List.set_cons_succ, List.set_cons_zero]
        )
      | (refine lex_float ?_ rfl rfl (fun w1 hb1 hf1 => ?_) ?_
         rotate_left
         (go_simp; (try simp (disch := omega) only [IntWalk.i64_quo, IntWalk.rem_in, IntWalk.i64_in, IntWalk.u64_in, IntWalk.u32_in, IntWalk.u8_in, IntWalk.toNatUp, IntWalk.iteOmega]); (try go_simp); rfl)
         simp only [Act.put, Act.eval, Array.getD_eq_getD_getElem?, List.getElem?_toArray, List.getElem?_cons_zero, List.getElem?_cons_succ, Option.getD_some, List.setIfInBounds_toArray, List.set_cons_succ, List.set_cons_zero]
        )
      | (refine lex_skip rfl ?_
         simp only [Act.put, Act.eval, Array.getD_eq_getD_getElem?, List.getElem?_toArray, List.getElem?_cons_zero, List.getElem?_cons_succ, Option.getD_some, List.setIfInBounds_toArray, List.set_cons_succ, List.set_cons_zero]
        ))
    refine lex_make _ rfl (by exact OwnE.st _ _ _) rfl (fun w1 hb1 hf1 => ?_) ?_
    · have hb1' := hb1
      refine makes_mono (makes_append_new _ _ (.tmp 103) (.tmp 106) 34 rfl 60 i0 (.agg #[.int .u64 0, .int .u64 0, .int .u64 0]) 3 24 w.heap.size und_page hi hz0 hz1 hz2 rfl w1 ⟨ge, 0, none⟩ rfl ⟨g4, 0, none⟩ h cap5 rfl (cellsOf (l.take h)) (by rw [length_cellsOf, List.length_take, Hlen.out, Nat.min_eq_left (by omega)]) ?_ hh0 (by unfold maxLen; omega) (by omega) (by have h2 := hW.size; have h3 := hb1'.size; omega)) ?_
      · intro j u hj
        rw [← cellsOf_take, List.getElem?_take] at hj
        split at hj
        · exact owns_src (Hol1 _ hb1').out j u hj
        · cases hj
      · rintro v w' ⟨hb, ga, ca, rfl, hga, hown⟩
        exact ⟨hb, ga, ca, rfl, by have h2 := hW.size; have h3 := hb1'.size; omega, hown⟩
    rintro u6 w6 hB8 ⟨ga, ca, rfl, hga, howna⟩
    have Howna := Lib.hid howna; clear howna
    simp only [Act.put, Act.eval, Array.getD_eq_getD_getElem?, List.getElem?_toArray, List.getElem?_cons_zero, List.getElem?_cons_succ, Option.getD_some, List.setIfInBounds_toArray, List.set_cons_succ, List.set_cons_zero]
    repeat (first
      | (refine lex_move _ (by first | exact Or.inl rfl | exact Or.inr rfl) rfl rfl ?_
         simp only [Act.put, Act.eval, Array.getD_eq_getD_getElem?, List.getElem?_toArray, List.getElem?_cons_zero, List.getElem?_cons_succ, Option.getD_some, List.setIfInBounds_toArray, List.set_cons_succ, List.set_cons_zero]
        )
      | (refine lex_float ?_ rfl rfl (fun w1 hb1 hf1 => ?_) ?_
         rotate_left
         (go_simp; (try simp (disch := omega) only [IntWalk.i64_quo, IntWalk.rem_in, IntWalk.i64_in, IntWalk.u64_in, IntWalk.u32_in, IntWalk.u8_in, IntWalk.toNatUp, IntWalk.iteOmega]); (try go_simp); rfl)
         simp only [Act.put, Act.eval, Array.getD_eq_getD_getElem?, List.getElem?_toArray, List.getElem?_cons_zero, List.getElem?_cons_succ, Option.getD_some, List.setIfInBounds_toArray, List.set_cons_succ, List.set_cons_zero]
        )
      | (refine lex_skip rfl ?_
         simp only [Act.put, Act.eval, Array.getD_eq_getD_getElem?, List.getElem?_toArray, List.getElem?_cons_zero, List.getElem?_cons_succ, Option.getD_some, List.setIfInBounds_toArray, List.set_cons_succ, List.set_cons_zero]
        ))
    refine lex_make _ rfl (by exact E0.st) rfl (fun w1 hb1 hf1 => ?_) ?_
    · (unfold makes; go_simp; simp only [makesUpon])
      exact ⟨below_box _ _, _, rfl⟩
    rintro u7 w7 hB9 ⟨gf, rfl⟩
    simp only [Act.put, Act.eval, Array.getD_eq_getD_getElem?, List.getElem?_toArray, List.getElem?_cons_zero, List.getElem?_cons_succ, Option.getD_some, List.setIfInBounds_toArray, List.set_cons_succ, List.set_cons_zero]
    repeat (first
      | (refine lex_move _ (by first | exact Or.inl rfl | exact Or.inr rfl) rfl rfl ?_
         simp only [Act.put, Act.eval, Array.getD_eq_getD_getElem?, List.getElem?_toArray, List.getElem?_cons_zero, List.getElem?_cons_succ, Option.getD_some, List.setIfInBounds_toArray, List.set_cons_succ, List.set_cons_zero]
        )
      | (refine lex_float ?_ rfl rfl (fun w1 hb1 hf1 => ?_) ?_
         rotate_left
         (go_simp; (try simp (disch := omega) only [IntWalk.i64_quo, IntWalk.rem_in, IntWalk.i64_in, IntWalk.u64_in, IntWalk.u32_in, IntWalk.u8_in, IntWalk.toNatUp, IntWalk.iteOmega]); (try go_simp); rfl)
         simp only [Act.put, Act.eval, Array.getD_eq_getD_getElem?, List.getElem?_toArray, List.getElem?_cons_zero, List.getElem?_cons_succ, Option.getD_some, List.setIfInBounds_toArray, List.set_cons_succ, List.set_cons_zero]
        )
      | (refine lex_skip rfl ?_
         simp only [Act.put, Act.eval, Array.getD_eq_getD_getElem?, List.getElem?_toArray, List.getElem?_cons_zero, List.getElem?_cons_succ, Option.getD_some, List.setIfInBounds_toArray, List.set_cons_succ, List.set_cons_zero]
        ))
    refine lex_make _ rfl (by exact OwnE.st _ _ _) rfl (fun w1 hb1 hf1 => ?_) ?_
    · have hb1' := hb1
      refine makes_mono (makes_append_new _ _ (.tmp 108) (.tmp 111) 34 rfl 60 i0 (.agg #[.int .u64 0, .int .u64 0, .int .u64 0]) 3 24 w.heap.size und_page hi hz0 hz1 hz2 rfl w1 ⟨gf, 0, none⟩ rfl ⟨g4, h * 3, none⟩ (N - h) (cap5 - h) rfl (cellsOf (l.drop h)) (by rw [length_cellsOf, List.length_drop, Hlen.out]) ?_ (by omega) (by unfold maxLen; omega) (by omega) (by have h2 := hW.size; have h3 := hb1'.size; omega)) ?_
      · intro j u hj
        rw [← cellsOf_drop, List.getElem?_drop] at hj
        have := owns_src (Hol1 _ hb1').out _ u hj
        rw [Addr.add_lit] at this ⊢
        simpa using this
      · rintro v w' ⟨hb, ga, ca, rfl, hga, hown⟩
        exact ⟨hb, ga, ca, rfl, by have h2 := hW.size; have h3 := hb1'.size; omega, hown⟩
    rintro u8 w8 hB10 ⟨gb, cb, rfl, hgb, hownb⟩
    have Hownb := Lib.hid hownb; clear hownb
    simp only [Act.put, Act.eval, Array.getD_eq_getD_getElem?, List.getElem?_toArray, List.getElem?_cons_zero, List.getElem?_cons_succ, Option.getD_some, List.setIfInBounds_toArray, List.set_cons_succ, List.set_cons_zero]
    repeat (first
      | (refine lex_move _ (by first | exact Or.inl rfl | exact Or.inr rfl) rfl rfl ?_
         simp only [Act.put, Act.eval, Array.getD_eq_getD_getElem?, List.getElem?_toArray, List.getElem?_cons_zero, List.getElem?_cons_succ, Option.getD_some, List.setIfInBounds_toArray, List.set_cons_succ, List.set_cons_zero]
        )
      | (refine lex_float ?_ rfl rfl (fun w1 hb1 hf1 => ?_) ?_
         rotate_left
         (go_simp; (try simp (disch := omega) only [IntWalk.i64_quo, IntWalk.rem_in, IntWalk.i64_in, IntWalk.u64_in, IntWalk.u32_in, IntWalk.u8_in, IntWalk.toNatUp, IntWalk.iteOmega]); (try go_simp); rfl)
         simp only [Act.put, Act.eval, Array.getD_eq_getD_getElem?, List.getElem?_toArray, List.getElem?_cons_zero, List.getElem?_cons_succ, Option.getD_some, List.setIfInBounds_toArray, List.set_cons_succ, List.set_cons_zero]
        )
      | (refine lex_skip rfl ?_
         simp only [Act.put, Act.eval, Array.getD_eq_getD_getElem?, List.getElem?_toArray, List.getElem?_cons_zero, List.getElem?_cons_succ, Option.getD_some, List.setIfInBounds_toArray, List.set_cons_succ, List.set_cons_zero]
        ))
    refine lex_make _ rfl (by exact OwnP.st _ _ _ _ _) rfl (fun w1 hb1 hf1 => ?_) ?_
    · have hb1' := hb1
      have f4 : OwnE w.heap.size h (l.take h) (.slice (some ⟨ga, 0, none⟩) h ca) w1 := hf1 107 (by decide) (by simp)
      have f5 : OwnE w.heap.size (N - h) (l.drop h) (.slice (some ⟨gb, 0, none⟩) (N - h) cb) w1 := hf1 112 (by decide) (by simp)
      clear hf1
      (unfold makes; go_simp; simp only [makesUpon])
      have hb2 := below_box w1 (.cells #[.slice (some ⟨ga, 0, none⟩) h ca, .slice (some ⟨gb, 0, none⟩) (N - h) cb] 34)
      refine ⟨hb2, w1.heap.size, _, _, rfl, ?_, row_new _ _ _, OwnE.st _ _ _ _ _ _ f4 hb2, OwnE.st _ _ _ _ _ _ f5 hb2⟩
      have h2 := hW.size; have h3 := hb1'.size; omega
    rintro u9 w9 hB11 ⟨gv, va, vb, rfl, hgv, hrowv, hva, hvb⟩
    have Hvab := Lib.hid (And.intro hrowv (And.intro hva hvb)); clear hrowv hva hvb
    simp only [Act.put, Act.eval, Array.getD_eq_getD_getElem?, List.getElem?_toArray, List.getElem?_cons_zero, List.getElem?_cons_succ, Option.getD_some, List.setIfInBounds_toArray, List.set_cons_succ, List.set_cons_zero]
    refine lex_make _ rfl (by exact RowS.st _ _ _ _ _ _ _ _) rfl (fun w1 hb1 hf1 => ?_) ?_
    · have hb1' := hb1
      have f4 : OwnP w.heap.size h (N - h) (l.take h) (l.drop h) (.slice (some ⟨gv, 0, none⟩) 2 2) w1 := hf1 113 (by decide) (by simp)
      clear hf1
      (unfold makes; go_simp; simp only [makesUpon])
      obtain ⟨gv', va', vb', ev, hgv', hrow', hva', hvb'⟩ := f4
      injection ev with ev _ _
      injection ev with ev
      injection ev with ev _ _
      subst ev
      obtain ⟨xa, ya, eva, -, hoa⟩ := hva'
      obtain ⟨xb, yb, evb, -, hob⟩ := hvb'
      have hxa : xa < w1.heap.size := owns_lt hoa (by rw [eva]; rfl)
      have hxb : xb < w1.heap.size := owns_lt hob (by rw [evb]; rfl)
      have hBw1 := hB5.trans ((below_trans hW hb1').mono hB5.size)
      have one6 : ∀ u ∈ [va', vb'], u.oneCell' = true := fun u hu => by
        rcases List.mem_cons.1 hu with rfl | hu
        · rw [eva]; rfl
        · obtain rfl := List.mem_singleton.1 hu
          rw [evb]; rfl
      refine (Hrow.out _ [va', vb'] (by simp only [List.length_cons, List.length_nil]; omega) one6 w1 hBw1 (Or.inr ⟨gv, 2, rfl, fun j u hu => by rw [Addr.add_lit, Nat.zero_add, hrow'.cell]; exact hu⟩)).mono ?_
      rintro e w' ⟨v, rfl, hown, hb⟩
      have en : R.length - (pageOf R s + 1 - pageOf R s) + [va', vb'].length = R.length + 1 := by simp only [List.length_cons, List.length_nil]; omega
      rw [en] at hown
      obtain ⟨av, cv, hsv, -⟩ := owns_shape hown
      refine ⟨v, rfl, hb, va', vb', av, cv, hsv, owns_base hown fun k hk => Nat.le_trans hBw1.size (hown.lt k hk).1, OwnE.st _ _ _ _ _ _ ⟨xa, ya, eva, (hoa.lt xa (by rw [eva]; rfl)).1, hoa⟩ hb, OwnE.st _ _ _ _ _ _ ⟨xb, yb, evb, (hob.lt xb (by rw [evb]; rfl)).1, hob⟩ hb, fun k hk => ?_⟩
      have hk1 := (hown.lt k hk).1
      rw [eva, evb]
      exact ⟨fun e => by have e : xa = k := Option.some.inj e; omega, fun e => by have e : xb = k := Option.some.inj e; omega⟩
    rintro u w10 hB12 ⟨va2, vb2, av, cv, rfl, hown, hva, hvb, hne⟩
    have HE := Lib.hid (And.intro hown (And.intro hva (And.intro hvb hne))); clear hown hva hvb hne
    have hBe := below_trans (below_trans (below_trans (below_trans (below_trans hB7 hB8) hB9) hB10) hB11) hB12
    have hBx := hB5.trans ((below_trans hW hBe).mono hB5.size)
    simp only [Act.put, Act.eval, Array.getD_eq_getD_getElem?, List.getElem?_toArray, List.getElem?_cons_zero, List.getElem?_cons_succ, Option.getD_some, List.setIfInBounds_toArray, List.set_cons_succ, List.set_cons_zero]
    repeat (first
      | (refine lex_move _ (by first | exact Or.inl rfl | exact Or.inr rfl) rfl rfl ?_
         simp only [Act.put, Act.eval, Array.getD_eq_getD_getElem?, List.getElem?_toArray, List.getElem?_cons_zero, List.getElem?_cons_succ, Option.getD_some, List.setIfInBounds_toArray, List.set_cons_succ, List.set_cons_zero]
        )
      | (refine lex_float ?_ rfl rfl (fun w1 hb1 hf1 => ?_) ?_
         rotate_left
         (go_simp; (try simp (disch := omega) only [IntWalk.i64_quo, IntWalk.rem_in, IntWalk.i64_in, IntWalk.u64_in, IntWalk.u32_in, IntWalk.u8_in, IntWalk.toNatUp, IntWalk.iteOmega]); (try go_simp); rfl)
         simp only [Act.put, Act.eval, Array.getD_eq_getD_getElem?, List.getElem?_toArray, List.getElem?_cons_zero, List.getElem?_cons_succ, Option.getD_some, List.setIfInBounds_toArray, List.set_cons_succ, List.set_cons_zero]
        )
      | (refine lex_skip rfl ?_
         simp only [Act.put, Act.eval, Array.getD_eq_getD_getElem?, List.getElem?_toArray, List.getElem?_cons_zero, List.getElem?_cons_succ, Option.getD_some, List.setIfInBounds_toArray, List.set_cons_succ, List.set_cons_zero]
        ))
    refine lex_nil ?_
    have k2 := k1 _ hBe
    have k3 := (HM.out.1.below hBx).frozen 1
    clear k1
    go_wp2_with fail
    go_ret
    have hlen := Hlen.out
    have hh := Eh.out
    have hN := EN.out
    have hput : putR size R s (.int .u64 x) = R.take (pageOf R s) ++ ([l.take h, l.drop h] ++ R.drop (pageOf R s + 1)) := by
      unfold putR
      rw [if_neg (by omega), if_neg (by rw [ht]; decide), ← El.out]
      simp only [hlen]
      rw [if_neg (by omega), show N / 2 = h by rw [hN, hh]]
      rfl
    obtain ⟨ho, hva, hvb, hne⟩ := HE.out
    obtain ⟨xa, ya, eva, hxa, hoa⟩ := hva
    obtain ⟨xb, yb, evb, hxb, hob⟩ := hvb
    have hend := HM.out.1.rows_end (ms := [l.take h, l.drop h]) (vs := [va2, vb2]) (vr' := .slice av (R.length + 1) cv) (i := pageOf R s) (j := pageOf R s + 1) (n' := R.length + 1) hBx (by omega) (by omega) rfl (by simp only [List.length_cons, List.length_nil]; omega) ho ?_ ?_
    · rw [hput]
      exact ⟨rfl, _, _, hend.1, hend.2⟩
    · intro q hq
      rcases (show q = 0 ∨ q = 1 by simp only [List.length_cons, List.length_nil] at hq; omega) with rfl | rfl
      · refine ⟨?_, fun e he => Hl1.out e (List.mem_of_mem_take he)⟩
        have : (pageAt [l.take h, l.drop h] 0).length = h := by show (l.take h).length = h; rw [List.length_take]; omega
        rw [this]
        exact owns_base hoa fun k _ => Nat.zero_le _
      · refine ⟨?_, fun e he => Hl1.out e (List.mem_of_mem_drop he)⟩
        have : (pageAt [l.take h, l.drop h] 1).length = N - h := by show (l.drop h).length = N - h; rw [List.length_drop]; omega
        rw [this]
        exact owns_base hob fun k _ => Nat.zero_le _
    · intro q hq k hk
      rcases (show q = 0 ∨ q = 1 by simp only [List.length_cons, List.length_nil] at hq; omega) with rfl | rfl
      · have hk : va2.ownBlock = some k := hk
        exact ⟨by rw [eva] at hk; have hk : xa = k := Option.some.inj hk; omega, fun e => (hne k e).1 hk⟩
      · have hk : vb2.ownBlock = some k := hk
        exact ⟨by rw [evb] at hk; have hk : xb = k := Option.some.inj hk; omega, fun e => (hne k e).2 hk⟩
end Go.Proofs.Ytagcohpghgnalaa.RF
