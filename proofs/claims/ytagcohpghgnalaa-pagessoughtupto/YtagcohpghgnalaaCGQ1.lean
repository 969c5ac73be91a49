/-
  An index that is nil, or that New did not make: what its methods answer.
-/
import Derived.Test.YtagcohpghgnalaaCDN
import Derived.Test.YtagcohpghgnalaaCSM
set_option linter.unusedSimpArgs false
set_option linter.unusedVariables false
namespace Go.Proofs.Ytagcohpghgnalaa.U
open Go.RowKit Go.RG Go.Hp Go.Pg Go.Shelf Go.Proofs.Ytagcohpghgnalaa


/-- there is no index at p, from w on -/
def BareP (p : Option Addr) (w : World) : Prop := ∀ w', Below w.heap.size w w' → Calls Try.prog 50 #[.pointer p] w' fun e w'' => e = .returned (.bool true) ∧ w' = w''
theorem BareP.below {p : Option Addr} {w w' : World} (h : BareP p w) (hb : Below w.heap.size w w') : BareP p w' := fun w2 h2 => h w2 (below_trans hb h2)
theorem bareP_nil (w : World) : BareP none w := fun w' _ => bare_nil w'
theorem bareP_zero {b : Nat} {w : World} (h : w.cell? ⟨b, 0, none⟩ = some (.int .i64 0)) : BareP (some ⟨b, 0, none⟩) w := fun w' hb => bare_any b 0 w' (below_cell hb h)

set_option maxRecDepth 100000 in
theorem place_bare (p : Option Addr) (s : St) (w : World) (h : BareP p w) : Calls Try.prog 30 #[.pointer p, s.v] w fun e w' => e = .returned (.tuple #[.int .i64 0, .int .i64 0, .bool false]) ∧ Below w.heap.size w w' := by
  have hB0 := below_box w (.cells #[.int .u64 s.t, .int .u64 s.s] 38)
  have hB1 := below_trans (below_box w (.cells #[.pointer p] 29)) (below_box (w.alloc (.cells #[.pointer p] 29)) (.cells #[.int .u64 s.t, .int .u64 s.s] 38))
  have H := Lib.hid h; clear h
  unfold St.v
  go_enter Try.func30, Try.ntmps30
  go_wp2_with fail
  refine (H.out _ (by first | exact hB0 | exact hB1)).mono ?_
  rintro e w' ⟨rfl, rfl⟩
  go_wp2_with fail
  go_ret3
  exact ⟨rfl, by first | exact hB0 | exact hB1⟩
set_option maxRecDepth 100000 in
theorem put_bare (p : Option Addr) (s : St) (v : Value) (h1v : v.oneCell' = true) (w : World) (h : BareP p w) : Calls Try.prog 24 #[.pointer p, s.v, v] w fun e w' => e = .returned (.bool false) ∧ Below w.heap.size w w' := by
  have hB0 := below_box w (.cells #[.int .u64 s.t, .int .u64 s.s] 38)
  have H := Lib.hid h; clear h
  unfold St.v
  go_enter Try.func24, Try.ntmps24
  go_wp2_with fail
  refine (H.out _ hB0).mono ?_
  rintro e w' ⟨rfl, rfl⟩
  go_wp2_with fail
  go_ret
  exact ⟨rfl, hB0⟩
set_option maxRecDepth 100000 in
theorem get_bare (p : Option Addr) (s : St) (w : World) (h : BareP p w) : Calls Try.prog 28 #[.pointer p, s.v] w fun e w' => e = .returned (.tuple #[.int .u64 0, .bool false]) ∧ Below w.heap.size w w' := by
  have hB0 := below_box w (.cells #[.int .u64 s.t, .int .u64 s.s] 38)
  have hPl := Lib.hid (place_bare p s _ (h.below hB0))
  unfold St.v at hPl ⊢
  clear h
  go_enter Try.func28, Try.ntmps28
  go_wp2_with fail
  refine hPl.out.mono ?_
  rintro e w1 ⟨rfl, hB1⟩
  have hB2 := below_trans hB0 hB1
  go_wp2_with fail
  go_ret2
  exact ⟨rfl, hB2⟩
set_option maxRecDepth 100000 in
theorem remove_bare (p : Option Addr) (s : St) (w : World) (h : BareP p w) : Calls Try.prog 26 #[.pointer p, s.v] w fun e w' => e = .returned (.tuple #[.int .u64 0, .bool false]) ∧ Below w.heap.size w w' := by
  have hB0 := below_trans (below_box w (.cells #[.pointer p] 29)) (below_box (w.alloc (.cells #[.pointer p] 29)) (.cells #[.int .u64 s.t, .int .u64 s.s] 38))
  have hPl := Lib.hid (place_bare p s _ (h.below hB0))
  unfold St.v at hPl ⊢
  clear h
  go_enter Try.func26, Try.ntmps26
  go_wp2_with fail
  refine hPl.out.mono ?_
  rintro e w1 ⟨rfl, hB1⟩
  have hB2 := below_trans hB0 hB1
  go_wp2_with fail
  go_ret2
  exact ⟨rfl, hB2⟩
theorem len_bare (p : Option Addr) (w : World) (h : BareP p w) : Calls Try.prog 34 #[.pointer p] w fun e w' => e = .returned (.int .i64 0) ∧ w = w' := by
  have H := Lib.hid h; clear h
  go_enter Try.func34, Try.ntmps34
  go_wp2_with fail
  refine (H.out _ (Below.refl _ _)).mono ?_
  rintro e w' ⟨rfl, rfl⟩
  go_wp2_with fail
  go_ret
  exact ⟨rfl, rfl⟩
theorem pages_bare (p : Option Addr) (w : World) (h : BareP p w) : Calls Try.prog 32 #[.pointer p] w fun e w' => e = .returned (.slice none 0 0) ∧ w = w' := by
  have H := Lib.hid h; clear h
  go_enter Try.func32, Try.ntmps32
  go_wp2_with fail
  refine (H.out _ (Below.refl _ _)).mono ?_
  rintro e w' ⟨rfl, rfl⟩
  go_wp2_with fail
  go_ret
  exact ⟨rfl, rfl⟩
set_option maxRecDepth 100000 in
theorem up_bare (n : Nat) (p : Option Addr) (Bx Bs : Nat) (w : World) (h : BareP p w) (hcx : w.cell? ⟨Bx, 0, none⟩ = some (.pointer p)) (Kp : World → World → Prop) (Ok : List Ev → Ev → Prop) (Sp : List Ev → Prop) :
    SeqO Fence.wide n Try.prog 75 #[.pointer (some ⟨Bx, 0, none⟩), .pointer (some ⟨Bs, 0, none⟩)] (fun e : Ev => #[.agg #[.int .u64 e.k.t, .int .u64 e.k.s], .int .u64 e.n]) Kp (fun xs => xs = []) Sp Ok w := by
  intro l J Jx W hW hJ hJx hY hJ0
  have hx := below_cell hW hcx
  have H := Lib.hid (h.below hW); clear h
  refine callsIn_wide.2 ?_
  show Calls Try.prog 75 #[.func (.yield l) #[] #[], .pointer (some ⟨Bx, 0, none⟩), .pointer (some ⟨Bs, 0, none⟩)] W _
  clear hY
  have HJ := Lib.hid hJ0; clear hJ0
  go_enter Try.func75, Try.ntmps75
  go_wp2_with fail
  refine (H.out _ (Below.refl _ _)).mono ?_
  rintro e w' ⟨rfl, rfl⟩
  go_wp2_with fail
  refine bodyPost_ret (results_none rfl _ _ _) rfl ?_
  exact ⟨⟨_, rfl⟩, .inl ⟨[], rfl, HJ.out⟩⟩
set_option maxRecDepth 100000 in
theorem down_bare (n : Nat) (p : Option Addr) (Bx Bs : Nat) (w : World) (h : BareP p w) (hcx : w.cell? ⟨Bx, 0, none⟩ = some (.pointer p)) (Kp : World → World → Prop) (Ok : List Ev → Ev → Prop) (Sp : List Ev → Prop) :
    SeqO Fence.wide n Try.prog 77 #[.pointer (some ⟨Bx, 0, none⟩), .pointer (some ⟨Bs, 0, none⟩)] (fun e : Ev => #[.agg #[.int .u64 e.k.t, .int .u64 e.k.s], .int .u64 e.n]) Kp (fun xs => xs = []) Sp Ok w := by
  intro l J Jx W hW hJ hJx hY hJ0
  have hBy := below_box W (.cells #[.func (.yield l) #[] #[]] 44)
  have hx := below_cell (below_trans hW hBy) hcx
  have hJy := Lib.hid (J_belowO hJ hJ0 hBy)
  have H := Lib.hid (h.below hW); clear h hY hJ0
  refine callsIn_wide.2 ?_
  show Calls Try.prog 77 #[.func (.yield l) #[] #[], .pointer (some ⟨Bx, 0, none⟩), .pointer (some ⟨Bs, 0, none⟩)] W _
  refine (callsIn_wide (n := n + 4)).1 ?_
  refine callsIn_of_wp_marks Try.func77 rfl trivial ?_ rfl
  refine wpIn_wide.2 ?_
  simp only [Try.ntmps77, List.size_toArray, List.length_cons, List.length_nil, Nat.reduceAdd, Nat.reduceSub, Array.replicate_succ, Array.replicate_zero, List.push_toArray, List.append_toArray, List.nil_append, List.cons_append]
  go_wp2_with fail
  refine (H.out _ hBy).mono ?_
  rintro e w' ⟨rfl, rfl⟩
  go_wp2_with fail
  exact ⟨_, results_none rfl _ _ _, ⟨_, rfl⟩, .inl ⟨[], rfl, hJy.out⟩⟩
end Go.Proofs.Ytagcohpghgnalaa.U
namespace Go.Proofs.Ytagcohpghgnalaa.U
open Go.RowKit Go.RG Go.Hp Go.Pg Go.Shelf Go.Proofs.Ytagcohpghgnalaa

/-- the iterator f over the pointer p gives E, to a loop that leaves what lay there -/
def SeqF (f : Nat) (p : Option Addr) (s : St) (E : List Ev) (w : World) : Prop :=
  ∀ (W0 : World) (Bx Bs : Nat), Below w.heap.size w W0 → W0.cell? ⟨Bx, 0, none⟩ = some (.pointer p) → W0.cell? ⟨Bs, 0, none⟩ = some (.int .u64 s.t) → W0.cell? ⟨Bs, 1, none⟩ = some (.int .u64 s.s) →
    SeqO Fence.wide 2 Try.prog f #[.pointer (some ⟨Bx, 0, none⟩), .pointer (some ⟨Bs, 0, none⟩)] (fun e : Ev => #[.agg #[.int .u64 e.k.t, .int .u64 e.k.s], .int .u64 e.n]) (KeepC fun _ => False) (fun xs => xs = E) (fun pre => pre <+: E) (fun pre x => pre ++ [x] <+: E ∨ pre.length < E.length) W0
theorem SeqF.below {f : Nat} {p : Option Addr} {s : St} {E : List Ev} {w w' : World} (h : SeqF f p s E w) (hb : Below w.heap.size w w') : SeqF f p s E w' := fun W0 Bx Bs hB => h W0 Bx Bs (below_trans hb hB)

theorem up_f (bx size : Nat) (h0s : 0 < size) (R : List (List Ent)) (hm : R.length ≤ 274877906944) (hO : Ordered R) (hl : ∀ i, i < R.length → (pageAt R i).length ≤ 64) (hN : ∀ e ∈ R.flatten, NumV e.v) (s : St)
    (Z : Nat → Prop) (vr : Value) (pvs : List Value) (w : World) (hM : MemV w bx size R Z vr pvs) : SeqF 75 (some ⟨bx, 0, none⟩) s (evs (behind' R s)) w := by
  intro W0 Bx Bs hB hx h0 h1
  refine SeqO.of_K (N := (evs (behind' R s)).length) (fun pre x h => Or.inr h) ?_
  exact up_seq 2 bx size h0s R hm hO hl hN s Z vr pvs Bx Bs W0.heap.size W0 (hM.below hB) hx h0 h1 (fun _ => False) (fun _ h => h.elim) (Nat.le_refl _) (fun _ _ h => h)
theorem down_f (bx size : Nat) (h0s : 0 < size) (R : List (List Ent)) (hm : R.length ≤ 274877906944) (hO : Ordered R) (hl : ∀ i, i < R.length → (pageAt R i).length ≤ 64) (hN : ∀ e ∈ R.flatten, NumV e.v) (s : St)
    (Z : Nat → Prop) (vr : Value) (pvs : List Value) (w : World) (hM : MemV w bx size R Z vr pvs) : SeqF 77 (some ⟨bx, 0, none⟩) s (evs (downs R s)) w := by
  intro W0 Bx Bs hB hx h0 h1
  have h := down_seq 2 bx size h0s R hm hO hl hN s Z vr pvs Bx Bs W0.heap.size W0 (hM.below hB) hx h0 h1 (fun _ => False) (fun _ h => h.elim) (Nat.le_refl _) (fun _ _ h => h)
  exact fun l J Jx W hW hJ hJx hY h0 => h l J Jx W hW hJ hJx (fun pre x W1 hj hok => hY pre x W1 hj (Or.inl hok)) h0
theorem up_fbare (p : Option Addr) (s : St) (w : World) (h : BareP p w) : SeqF 75 p s [] w := fun W0 Bx Bs hB hx _ _ => up_bare 2 p Bx Bs W0 (h.below hB) hx _ _ _
theorem down_fbare (p : Option Addr) (s : St) (w : World) (h : BareP p w) : SeqF 77 p s [] w := fun W0 Bx Bs hB hx _ _ => down_bare 2 p Bx Bs W0 (h.below hB) hx _ _ _
end Go.Proofs.Ytagcohpghgnalaa.U
