/-
  disk.Read.
-/
import Derived.Test.YtbjofbhhnmehgaaGreatDoorCKNz0
import Derived.Great.FillDense
import Derived.Great.BuildSlice
import Derived.Lib.EndianBits
import Derived.Laws.MakeOwn
import Derived.Lib.BufferWrite
import Derived.Laws.BytesArg
set_option linter.unusedSimpArgs false
set_option linter.unusedVariables false
namespace Go.Proofs.YtbjofbhhnmehgaaGreatDoor.TT
open Go.RowKit Go.RG Go.Hp Go.Proofs.YtbjofbhhnmehgaaGreatDoor



theorem flat_cons (s : List Int) (l : List (List Int)) : flat (s :: l) = u8s s ++ flat l := by simp [flat, u8s]
theorem flat_append (l k : List (List Int)) : flat (l ++ k) = flat l ++ flat k := by simp [flat, u8s]
theorem flat_length {m : Nat} : ∀ {l : List (List Int)}, (∀ s ∈ l, s.length = m) → (flat l).length = l.length * m
  | [], _ => by simp [flat, u8s]
  | s :: l, h => by
    rw [flat_cons, List.length_append, u8s_length, h s (List.mem_cons_self ..), flat_length fun s hs => h s (List.mem_cons_of_mem _ hs), List.length_cons, Nat.add_mul]
    omega
theorem flat_get {m : Nat} : ∀ {l : List (List Int)} (_ : ∀ s ∈ l, s.length = m) {i : Nat} {s : List Int} (_ : l[i]? = some s) (j : Nat) (_ : j < m), (flat l)[i * m + j]? = (u8s s)[j]?
  | [], _, i, s, hs, _, _ => by simp at hs
  | t :: l, h, 0, s, hs, j, hj => by
    simp at hs
    subst hs
    rw [flat_cons, Nat.zero_mul, Nat.zero_add, List.getElem?_append_left (by rw [u8s_length, h t (List.mem_cons_self ..)]; exact hj)]
  | t :: l, h, i + 1, s, hs, j, hj => by
    rw [flat_cons, List.getElem?_append_right (by rw [u8s_length, h t (List.mem_cons_self ..), Nat.add_mul]; omega), u8s_length, h t (List.mem_cons_self ..)]
    rw [show (i + 1) * m + j - m = i * m + j by rw [Nat.add_mul]; omega]
    exact flat_get (fun s hs => h s (List.mem_cons_of_mem _ hs)) (by simpa using hs) j hj
theorem und_sector : Tryz.prog.underlying 124 = some (.array 128 5) := by kernel_rfl
theorem size_sector (w : World) : (sizeOf 124).run Tryz.prog w = .ok 128 w := by kernel_rfl
def zsec : Value := .agg (List.replicate 128 (Value.int .u8 0)).toArray
theorem zsec_len : zsec.cells.toList.length = 128 := by simp [zsec, Value.cells]
theorem zero_sector (w : World) : (zeroValue 124).run Tryz.prog w = .ok zsec w := by kernel_rfl
/-- a sector of a row -/
theorem row_sector {w : World} {g i : Nat} {l : List (List Int)} {s : List Int} (h : ∀ j u, (flat l)[j]? = some u → w.cell? ⟨g, j, none⟩ = some u) (h128 : ∀ s ∈ l, s.length = 128) (hs : l[i]? = some s) :
    ∀ j u, (u8s s)[j]? = some u → w.cell? ((⟨g, i * 128, none⟩ : Addr).add j) = some u := fun j u hu => by
  rw [Addr.add_lit]
  have hl := h128 s (List.mem_of_getElem? hs)
  have hj : j < 128 := by
    have := (List.getElem?_eq_some_iff.1 hu).1
    rwa [u8s_length, hl] at this
  exact h _ _ (by rw [flat_get h128 hs j hj]; exact hu)
set_option maxRecDepth 100000 in
theorem CacheAt.look {w : World} {bm : Nat} {ks : List Int} {V : Int → Value} (h : CacheAt w bm ks V) (i : Int) (hi : (Lit.int .i64 i).wf = true) : Sem.run Tryz.prog (Instr.lookup 82 (.map (some bm)) (.int .i64 i) false) w = .ok (V i) w := by
  obtain ⟨D, h1, -, -, h2, -⟩ := h.some'
  have hint : Tryz.prog.underlying 3 = some (.int .i64) := by kernel_rfl
  obtain ⟨v, ps, hr, hv⟩ := h1.lookup (Maps.int_keyed hint) und_cache (z := .slice none 0 0) (show (zeroValue 80).run Tryz.prog w = .ok (.slice none 0 0) w by kernel_rfl) (show asIs (.slice none 0 0) = some (.held (.slice none 0 0), []) from rfl) (Maps.keyOf_int_mk hint hi)
  rw [(h2 i hi).1] at hv
  unfold asIs at hv
  simp only [Option.some.injEq, Prod.mk.injEq] at hv
  obtain ⟨hv, -⟩ := hv
  injection hv with hv
  rw [hv] at hr
  exact hr

/-- what a Read tells; none: the sector is torn -/
def readD (x : Dsk) (i : Nat) : Option (List Int) := match (x.cache i).getLast? with
  | some s => some s
  | none => if x.torn.getD i false then none else x.dur[i]?
def ReadPost (r : Option (List Int)) (B : Nat) (e : Ending) (w' : World) : Prop := match r with
  | some s => ∃ u, e = .returned (.tuple #[u, .int .i64 0]) ∧ w'.ownsRow B 5 1 u s.length (u8s s)
  | none => e = .returned (.tuple #[.slice none 0 0, .int .i64 40])

set_option maxHeartbeats 1000000 in
set_option maxRecDepth 100000 in
theorem read_any (b : Bks) (x : Dsk) (i : Nat) (hi : i < x.dur.length) (w : World) (h : DskAt w b x) (ho : x.off = false) : Calls Tryz.prog 155 #[.pointer (some ⟨b.d, 0, none⟩), .int .i64 i] w fun e w' => ReadPost (readD x i) w.heap.size e w' ∧ Below w.heap.size w w' := by
  obtain ⟨c0, c1, c2, c3, -⟩ := h.head.cells
  rw [ho] at c3
  have hd : onDisk x (i : Int) = true := by simp [onDisk, hi]
  have H := Lib.hid h; clear h
  have hi' : (i : Int) < (x.dur.length : Int) := by omega
  have hlim := H.out.lim
  have hwf : (Lit.int .i64 (i : Int)).wf = true := WalkArith.wf_i64 (by omega)
  obtain ⟨s, hs⟩ : ∃ s, x.dur[i]? = some s := ⟨_, List.getElem?_eq_getElem hi⟩
  have hsl := H.out.s128 s (List.mem_of_getElem? hs)
  have hsr := row_sector (fun j u hu => by rw [H.out.durs.cell]; exact hu) H.out.s128 hs
  have Hsr := Lib.hid hsr
  have Hs := Lib.hid (And.intro hs hsl)
  clear hsr hs hsl ho
  have hlk : ∀ W, Below w.heap.size w W → Sem.run Tryz.prog (Instr.lookup 82 (.map (some b.m)) (.int .i64 (i : Int)) false) W = .ok (b.V i) W := fun W hW => (H.out.below hW).map.look i hwf
  have Hlk := Lib.hid hlk; clear hlk
  by_cases hk : (i : Int) ∈ x.ks
  · obtain ⟨hp, hown⟩ := H.out.rows _ hk
    obtain ⟨g', c', hV, -, -, hc', hcm, hcell, -⟩ := owns_parts hown hp
    obtain ⟨k1, hk1⟩ : ∃ k1, (x.cache (i : Int)).length = k1 + 1 := ⟨(x.cache (i : Int)).length - 1, by omega⟩
    obtain ⟨s2, hs2⟩ : ∃ s2, (x.cache (i : Int))[k1]? = some s2 := ⟨_, List.getElem?_eq_getElem (by omega)⟩
    have hfl := flat_length (H.out.c128 (i : Int))
    have hsr2 := row_sector (w := w) (g := g') (i := k1) (l := x.cache (i : Int)) (s := s2) (fun j u hu => by
      rw [hcell j (by have := (List.getElem?_eq_some_iff.1 hu).1; omega)]; exact hu) (H.out.c128 _) hs2
    have Hsr2 := Lib.hid hsr2
    have Hs2l := Lib.hid (H.out.c128 _ s2 (List.mem_of_getElem? hs2))
    rw [hk1] at hV hc'
    have hrd : readD x i = some s2 := by
      unfold readD
      rw [List.getLast?_eq_getElem?, hk1, Nat.add_sub_cancel, hs2]
    have Hrd := Lib.hid hrd; clear hrd hsr2 hs2 hfl hcell hown hk1 hp
    have hlk : ∀ W, Below w.heap.size w W → Sem.run Tryz.prog (Instr.lookup 82 (.map (some b.m)) (.int .i64 (i : Int)) false) W = .ok (.slice (some ⟨g', 0, none⟩) (k1 + 1) c') W := fun W hW => by rw [← hV]; exact Hlk.out W hW
    clear Hlk
    have Hlk := Lib.hid hlk; clear hlk hV
    have hk0 : (0 : Int) < ((k1 + 1 : Nat) : Int) := by omega
    have hk9 : k1 ≤ 9223372036854775806 := by simp only [maxLen] at hcm; omega
    clear hcm
    go_enter Tryz.func155, Tryz.ntmps155
    go_wp2_with fail
    refine (has_any b x i w H.out.head).mono ?_
    rintro e w' ⟨rfl, rfl⟩
    rw [hd]
    go_wp2_with (first
      | (refine wpList_load_arr rfl _ 124 5 128 rfl und_sector size_sector ⟨b.g, i * 128, none⟩ rfl (u8s s) (by rw [u8s_length]; exact Hs.out.2) Hsr.out ?_)
      | (refine wpList_load_arr rfl _ 124 5 128 rfl und_sector size_sector ⟨g', k1 * 128, none⟩ rfl (u8s s2) (by rw [u8s_length]; exact Hs2l.out) (fun j u hu => below_cell hB3 (Hsr2.out j u hu)) ?_)
      | (refine wpList_alloc_arr rfl 124 rfl zsec zero_sector ?_; intro w2 hB2 hz2 hr2; have Hr2 := Lib.hid hr2; clear hr2)
      | (refine wpList_store_all rfl rfl _ _ 124 128 rfl size_sector w.heap.size rfl (u8s s) rfl (by rw [u8s_length]; exact Hs.out.2) 124 _ Hr2.out zsec_len (u8s_one _) ?_; intro w3 hX3 hz3 hr3; have hB3 : Below w.heap.size w w3 := hB2.trans (hX3.to_belowAt (by omega) (fun k hk => by omega)); have Hr3 := Lib.hid hr3; clear hr3; have d2 := below_cell hB3 c2; have hlk := Hlk.out w3 hB3)
      | (refine wpList_store_all rfl rfl _ _ 124 128 rfl size_sector w.heap.size rfl (u8s s2) rfl (by rw [u8s_length]; exact Hs2l.out) 124 _ Hr3.out (by rw [u8s_length]; exact Hs.out.2) (u8s_one _) ?_; intro w4 hX4 hz4 hr4; have hB4 : Below w.heap.size w w4 := hB3.trans (hX4.to_belowAt (by omega) (fun k hk => by omega)); have Hr4 := Lib.hid hr4; clear hr4))
    refine (clone_any _ (u8s s2) w4 (by have := src_heap (c := 128) Hr4.out (by rw [u8s_length, Hs2l.out]; decide); rwa [u8s_length, Hs2l.out] at this) (u8s_one _) (by rw [u8s_length, Hs2l.out]; decide)).mono ?_
    rintro e w5 ⟨u, rfl, hown, hB5⟩
    have Hown := Lib.hid hown; clear hown
    go_wp2_with fail
    go_ret2
    rw [Hrd.out]
    have hown := Hown.out
    rw [u8s_length] at hown
    exact ⟨⟨u, rfl, owns_base hown (fun j hj => Nat.le_trans hB4.size (hown.lt j hj).1)⟩, hB4.trans (hB5.mono hB4.size)⟩
  · have hV : b.V i = .slice none 0 0 := by
      obtain ⟨D, -, -, -, -, h0⟩ := H.out.map.some'
      exact h0 _ hk
    rw [hV] at Hlk
    obtain ⟨tb, htb⟩ : ∃ tb, x.torn[i]? = some tb := ⟨_, List.getElem?_eq_getElem (by rw [H.out.len]; exact hi)⟩
    have ct : w.cell? ⟨b.t, i, none⟩ = some (.bool tb) := by rw [H.out.torns.cell]; simp [htb]
    have hrd : readD x i = if tb then none else some s := by
      unfold readD
      rw [H.out.none' _ hk]
      simp [htb, Hs.out.1]
    have Hrd := Lib.hid hrd; clear hrd htb
    go_enter Tryz.func155, Tryz.ntmps155
    go_wp2_with fail
    refine (has_any b x i w H.out.head).mono ?_
    rintro e w' ⟨rfl, rfl⟩
    rw [hd]
    cases tb
    · go_wp2_with (first
        | (refine wpList_load_arr rfl _ 124 5 128 rfl und_sector size_sector ⟨b.g, i * 128, none⟩ rfl (u8s s) (by rw [u8s_length]; exact Hs.out.2) Hsr.out ?_)
        | (refine wpList_alloc_arr rfl 124 rfl zsec zero_sector ?_; intro w2 hB2 hz2 hr2; have Hr2 := Lib.hid hr2; clear hr2)
        | (refine wpList_store_all rfl rfl _ _ 124 128 rfl size_sector w.heap.size rfl (u8s s) rfl (by rw [u8s_length]; exact Hs.out.2) 124 _ Hr2.out zsec_len (u8s_one _) ?_; intro w3 hX3 hz3 hr3; have hB3 : Below w.heap.size w w3 := hB2.trans (hX3.to_belowAt (by omega) (fun k hk => by omega)); have Hr3 := Lib.hid hr3; clear hr3; have d2 := below_cell hB3 c2; have d1 := below_cell hB3 c1; have dt := below_cell hB3 ct; have hlk := Hlk.out w3 hB3))
      refine (clone_any _ (u8s s) w3 (by have := src_heap (c := 128) Hr3.out (by rw [u8s_length, Hs.out.2]; decide); rwa [u8s_length, Hs.out.2] at this) (u8s_one _) (by rw [u8s_length, Hs.out.2]; decide)).mono ?_
      rintro e w4 ⟨u, rfl, hown, hB4⟩
      have Hown := Lib.hid hown; clear hown
      go_wp2_with fail
      go_ret2
      rw [Hrd.out]
      have hown := Hown.out
      rw [u8s_length] at hown
      exact ⟨⟨u, rfl, owns_base hown (fun j hj => Nat.le_trans hB3.size (hown.lt j hj).1)⟩, hB3.trans (hB4.mono hB3.size)⟩
    · go_wp2_with (first
        | (refine wpList_load_arr rfl _ 124 5 128 rfl und_sector size_sector ⟨b.g, i * 128, none⟩ rfl (u8s s) (by rw [u8s_length]; exact Hs.out.2) Hsr.out ?_)
        | (refine wpList_alloc_arr rfl 124 rfl zsec zero_sector ?_; intro w2 hB2 hz2 hr2; have Hr2 := Lib.hid hr2; clear hr2)
        | (refine wpList_store_all rfl rfl _ _ 124 128 rfl size_sector w.heap.size rfl (u8s s) rfl (by rw [u8s_length]; exact Hs.out.2) 124 _ Hr2.out zsec_len (u8s_one _) ?_; intro w3 hX3 hz3 hr3; have hB3 : Below w.heap.size w w3 := hB2.trans (hX3.to_belowAt (by omega) (fun k hk => by omega)); have Hr3 := Lib.hid hr3; clear hr3; have d2 := below_cell hB3 c2; have d1 := below_cell hB3 c1; have dt := below_cell hB3 ct; have hlk := Hlk.out w3 hB3))
      go_ret2
      rw [Hrd.out]
      exact ⟨rfl, hB3⟩
end Go.Proofs.YtbjofbhhnmehgaaGreatDoor.TT
namespace Go.RG
open Go.RowKit

inductive Kind where
  | small
  | make (S : Spec)
  | big
  | late (R : Spec)

section
variable (P : Program) (ops : Array Oper) (base : World) (CB : World → Prop) (kd : Nat → Kind)

/-- one value, in every world of CB -/
def YB (o : Oper) (a : Act) (v : Value) : Prop :=
  (Region.wanted o (yielded ops a.tmps) = true ∧ ∀ w, CB w → (execOp a.eval o).run P w = .ok (.value v) w) ∨
  (Region.wanted o (yielded ops a.tmps) = false ∧ v = undef)

def tStep (i : Nat) (o : Oper) (K : Facts → Act → World → Prop) (Γ : Facts) (a : Act) (w : World) : Prop :=
  match kd i with
  | .small => ∃ v, YF P ops base Γ o a v ∧ K (Γ.set o.dst Spec.any) (a.put o.dst v) w
  | .make S => YM P ops base Γ o a S ∧ ∀ v w', Below w.heap.size w w' → S v w' → K (Γ.set o.dst S) (a.put o.dst v) w'
  | .big => ∃ v, YB P ops CB o a v ∧ K (Γ.set o.dst Spec.any) (a.put o.dst v) w
  | .late R => Region.wanted o (yielded ops a.tmps) = true ∧ makes P o a w (fun v w' => CB w' ∧ R v w') ∧ ∀ v w', CB w' → R v w' → K Γ (a.put o.dst v) w'

def rlAny (md : Region.Mode) (n : Nat) (L : Array Bool → Act → World → Prop) : Nat → Array Bool → Facts → Act → World → Prop
  | 0, listed, _, a, w => L listed a w
  | f + 1, listed, Γ, a, w =>
    Region.ready md ops listed ≠ [] ∧ ∀ i ∈ Region.ready md ops listed, i < n ∧ ∃ o, ops[i]? = some o ∧
      tStep P ops base CB kd i o (rlAny md n L f (listed.setIfInBounds i true)) Γ a w

def rlLex (Q : Act → World → Prop) : List Oper → Nat → Facts → Act → World → Prop
  | [], _, _, a, w => Q a w
  | o :: rest, k, Γ, a, w => tStep P ops base CB kd k o (rlLex Q rest (k + 1)) Γ a w

/-- l comes behind i, over so many steps -/
def behind (md : Region.Mode) (l : Nat) : Nat → Nat → Bool
  | 0, _ => false
  | d + 1, i => (List.range ops.size).any fun k => Region.waitsFor md ops k i && (k == l || behind md l d k)
end

section
variable {P : Program} {ops : Array Oper} {base : World} {CB : World → Prop} {kd : Nat → Kind} {md : Region.Mode} {l n : Nat}

theorem behind_spec {listed : Array Bool} (inv : HeadInv md ops n listed) : ∀ (d i : Nat), behind ops md l d i = true → listed.getD i false = false → listed.getD l false = false ∧ l ∉ Region.ready md ops listed
  | 0, _, h, _ => by cases h
  | d + 1, i, h, hun => by
    unfold behind at h
    obtain ⟨k, _, hk⟩ := List.any_eq_true.1 h
    simp only [Bool.and_eq_true, Bool.or_eq_true, beq_iff_eq] at hk
    obtain ⟨ok, hok, e, he, hb, hon⟩ := Region.waitsFor_spec hk.1
    have hku : listed.getD k false = false := by
      cases hl : listed.getD k false
      · rfl
      · have := inv.closed k ok hok hl e he hb
        rw [hon, hun] at this
        cases this
    rcases hk.2 with rfl | h2
    · refine ⟨hku, fun hr => ?_⟩
      obtain ⟨_, o', ho', hall⟩ := mem_ready.1 hr
      have : o' = ok := Option.some.inj (ho'.symm.trans hok)
      subst this
      have h3 := hall e he hb
      rw [hon, hun] at h3
      cases h3
    · exact behind_spec inv d k h2 hku

/-- is it free of the late one's change? -/
def Kind.isBig : Kind → Bool
  | .big => true
  | _ => false

structure Sides (md : Region.Mode) (ops : Array Oper) (kd : Nat → Kind) (l n : Nat) : Prop where
  sel : ∀ (j : Nat) (o : Oper) cs b, ops[j]? = some o → o.op ≠ .select cs b
  head : ∀ i, i < n → ∀ listed, HeadInv md ops n listed → listed.getD i true = false → ∀ j ∈ Region.ready md ops listed, j < n
  ahead : ∀ i, i < n → i ≠ l → (kd i).isBig = true ∨ behind ops md l ops.size i = true
  late : ∃ R, kd l = .late R
  others : ∀ i, i < n → i ≠ l → ∀ R, kd i ≠ .late R

/-- what holds of a world between two steps -/
structure At (P : Program) (base : World) (CB : World → Prop) (l : Nat) (listed : Array Bool) (Γ : Facts) (a : Act) (w : World) : Prop where
  big : CB w
  one : listed.getD l false = false → Below base.heap.size base w ∧ Γ.ok a w ∧ Γ.stable

theorem tStep_mono {i : Nat} {o : Oper} {K K' : Facts → Act → World → Prop} {Γ : Facts} {a : Act} {w : World} (h : ∀ Γ a w, K Γ a w → K' Γ a w)
    (hh : tStep P ops base CB kd i o K Γ a w) : tStep P ops base CB kd i o K' Γ a w := by
  unfold tStep at *
  split at hh
  · obtain ⟨v, h1, h2⟩ := hh; exact ⟨v, h1, h _ _ _ h2⟩
  · exact ⟨hh.1, fun v w' hb hS => h _ _ _ (hh.2 v w' hb hS)⟩
  · obtain ⟨v, h1, h2⟩ := hh; exact ⟨v, h1, h _ _ _ h2⟩
  · exact ⟨hh.1, hh.2.1, fun v w' hb hS => h _ _ _ (hh.2.2 v w' hb hS)⟩

theorem getD_set_other {listed : Array Bool} {i j : Nat} (h : i ≠ j) : (listed.setIfInBounds i true).getD j false = listed.getD j false := getD_set_ne false h
theorem un_of {listed : Array Bool} {i : Nat} (h : listed.getD i true = false) : listed.getD i false = false := getD_both h

/-- a step of each kind leaves such a world -/
theorem At.small {listed : Array Bool} {Γ : Facts} {a : Act} {w : World} {i : Nat} {d : Option Tmp} {v : Value} (h : At P base CB l listed Γ a w) (hi : i ≠ l) : At P base CB l (listed.setIfInBounds i true) (Γ.set d Spec.any) (a.put d v) w :=
  ⟨h.big, fun hl => by
    rw [getD_set_other hi] at hl
    obtain ⟨h1, h2, h3⟩ := h.one hl
    exact ⟨h1, Facts.ok_set (S := Spec.any) h2 trivial, Facts.set_stable h3 Spec.any_stable⟩⟩
theorem At.make {listed : Array Bool} {Γ : Facts} {a : Act} {w w' : World} {i : Nat} {d : Option Tmp} {v : Value} {S : Spec} (h : At P base CB l listed Γ a w) (hun : listed.getD l false = false) (hi : i ≠ l)
    (hsub : ∀ w, Below base.heap.size base w → CB w) (hb : Below w.heap.size w w') (hS : S v w') (hs : Spec.stable S) : At P base CB l (listed.setIfInBounds i true) (Γ.set d S) (a.put d v) w' := by
  obtain ⟨h1, h2, h3⟩ := h.one hun
  exact ⟨hsub _ (below_trans h1 hb), fun _ => ⟨below_trans h1 hb, Facts.ok_set (Facts.ok_grow h2 h3 hb) hS, Facts.set_stable h3 hs⟩⟩
theorem At.late {listed : Array Bool} {Γ Γ' : Facts} {a a' : Act} {w' : World} (hl : l < listed.size) (h : CB w') : At P base CB l (listed.setIfInBounds l true) Γ' a' w' :=
  ⟨h, fun hn => by simp [hl] at hn⟩

/-- it is a wpAny -/
theorem wpAny_of_rl {g : Nat} {L : Array Bool → Act → World → Prop} {Q : Exit → Act → World → Prop} (sd : Sides md ops kd l n) (hln : l < n)
    (hsub : ∀ w, Below base.heap.size base w → CB w) (hL : ∀ listed a w, L listed a w → wpAny P md ops Q g listed a w) :
    ∀ (f : Nat) (listed : Array Bool) (Γ : Facts) (a : Act) (w : World), HeadInv md ops n listed → At P base CB l listed Γ a w →
      rlAny P ops base CB kd md n L f listed Γ a w → wpAny P md ops Q (f + g) listed a w
  | 0, listed, Γ, a, w, _, _, h => by rw [Nat.zero_add]; exact hL _ _ _ h
  | f + 1, listed, Γ, a, w, inv, hat, h => by
    rw [show f + 1 + g = (f + g) + 1 by omega]
    refine ⟨fun h0 => absurd h0 h.1, fun i hi => ?_⟩
    obtain ⟨hin, o, ho, hs⟩ := h.2 i hi
    have hun := un_of (mem_ready.1 hi).1
    have inv' := inv.set hi hin
    have hgo := fun Γ' a' w' => wpAny_of_rl sd hln hsub hL f (listed.setIfInBounds i true) Γ' a' w' inv'
    unfold wpOp
    simp only [ho]
    unfold tStep at hs
    have hne : (∀ R, kd i ≠ .late R) → i ≠ l := fun h e => by
      obtain ⟨R, hR⟩ := sd.late
      exact h R (e ▸ hR)
    have hone : i ≠ l → (kd i).isBig = false → listed.getD l false = false := fun h1 h2 => by
      rcases sd.ahead i hin h1 with h | h
      · rw [h] at h2; cases h2
      · exact (behind_spec inv _ i h hun).1
    split at hs
    · rename_i hk
      have hil : i ≠ l := hne (fun R => by rw [hk]; intro h; cases h)
      obtain ⟨v, hy, hK⟩ := hs
      obtain ⟨h1, h2, h3⟩ := hat.one (hone hil (by rw [hk]; rfl))
      have hnext := hgo _ _ _ (hat.small (d := o.dst) (v := v) hil) hK
      rcases hy with ⟨hw, hr⟩ | ⟨hw, rfl⟩
      · rw [if_pos hw]
        refine .inl ?_
        unfold Oper.wp
        rw [hr w h1 (fun t _ ht => h2 t ht)]
        exact hnext
      · rw [if_neg (by simp [hw])]
        exact hnext
    · rename_i S hk
      have hil : i ≠ l := hne (fun R => by rw [hk]; intro h; cases h)
      obtain ⟨⟨hw, hSs, hm⟩, hK⟩ := hs
      have hlu := hone hil (by rw [hk]; rfl)
      obtain ⟨h1, h2, h3⟩ := hat.one hlu
      rw [if_pos hw]
      refine .inl (wp_of_makes (hm w h1 (fun t _ ht => h2 t ht)) fun v w' ⟨hb, hS⟩ => ?_)
      exact hgo _ _ _ (hat.make hlu hil hsub hb hS hSs) (hK v w' hb hS)
    · rename_i hk
      have hil : i ≠ l := hne (fun R => by rw [hk]; intro h; cases h)
      obtain ⟨v, hy, hK⟩ := hs
      have hnext := hgo _ _ _ (hat.small (d := o.dst) (v := v) hil) hK
      rcases hy with ⟨hw, hr⟩ | ⟨hw, rfl⟩
      · rw [if_pos hw]
        refine .inl ?_
        unfold Oper.wp
        rw [hr w hat.big]
        exact hnext
      · rw [if_neg (by simp [hw])]
        exact hnext
    · rename_i R hk
      have hil : i = l := by
        by_cases e : i = l
        · exact e
        · exact absurd hk (sd.others i hin e R)
      subst hil
      obtain ⟨hw, hm, hK⟩ := hs
      rw [if_pos hw]
      refine .inl (wp_of_makes hm fun v w' ⟨hb, hS⟩ => ?_)
      refine hgo _ _ _ (At.late (Γ := Γ) (a := a) ?_ hb) (hK v w' hb hS)
      rw [inv.size]
      exact (Array.getElem?_eq_some_iff.1 ho).1

theorem YB_put {oj : Oper} {d : Option Tmp} {a : Act} {v u : Value} (hsj : ∀ cs b, oj.op ≠ .select cs b) (h : ∀ x, d = some x → x ∉ oj.looksAt ops) :
    YB P ops CB oj (a.put d v) u ↔ YB P ops CB oj a u := by
  unfold YB
  rw [wanted_put oj a d v h, execOp_put oj hsj a d v h]
theorem YB_unique {o : Oper} {a : Act} {v u : Value} {w : World} (hC : CB w) (h : YB P ops CB o a v) (h' : YB P ops CB o a u) : v = u := by
  rcases h with ⟨hw, h⟩ | ⟨hw, rfl⟩ <;> rcases h' with ⟨hw', h'⟩ | ⟨hw', rfl⟩
  · have e := (h w hC).symm.trans (h' w hC)
    injection e with e1 _
    injection e1
  · rw [hw] at hw'; cases hw'
  · rw [hw] at hw'; cases hw'
  · rfl
theorem makes_put {oj : Oper} {d : Option Tmp} {a : Act} {v : Value} {w : World} {R : Value → World → Prop} (hsj : ∀ cs b, oj.op ≠ .select cs b) (h : ∀ x, d = some x → x ∉ oj.looksAt ops) :
    makes P oj (a.put d v) w R ↔ makes P oj a w R := by
  unfold makes
  rw [execOp_put oj hsj a d v h]

/-- an operation that may come up now may be taken first (not the late one) -/
theorem rl_first {i : Nat} {oi : Oper} {L : Array Bool → Act → World → Prop} (sd : Sides md ops kd l n) (hln : l < n) (hi : ops[i]? = some oi) (hin : i < n) (hil : i ≠ l)
    (hsub : ∀ w, Below base.heap.size base w → CB w) (hdone : ∀ listed a w, L listed a w → ∀ j ∈ Region.ready md ops listed, n ≤ j) :
    ∀ (f : Nat) (listed : Array Bool) (Γ : Facts) (a : Act) (w : World), HeadInv md ops n listed →
      (∀ j oj, ops[j]? = some oj → j ≠ i → listed.getD j true = false → (∀ e ∈ oj.after, Region.binds md e = true → e.on ≠ i) → oi.apart ops oj = true) →
      i ∈ Region.ready md ops listed → At P base CB l listed Γ a w →
      tStep P ops base CB kd i oi (rlAny P ops base CB kd md n L f (listed.setIfInBounds i true)) Γ a w → rlAny P ops base CB kd md n L (f + 1) listed Γ a w := by
  -- what i's step leaves: at least one state behind it
  have ex : ∀ (K : Facts → Act → World → Prop) (listed : Array Bool) (Γ : Facts) (a : Act) (w : World), HeadInv md ops n listed → listed.getD i true = false → At P base CB l listed Γ a w →
      tStep P ops base CB kd i oi K Γ a w → ∃ Γ' a' w', K Γ' a' w' := by
    intro K listed Γ a w inv hun hat H
    unfold tStep at H
    split at H
    · obtain ⟨v, _, h⟩ := H; exact ⟨_, _, _, h⟩
    · rename_i S hk
      obtain ⟨⟨_, _, hm⟩, hK⟩ := H
      have hlu : listed.getD l false = false := by
        rcases sd.ahead i hin hil with h | h
        · rw [hk] at h; cases h
        · exact (behind_spec inv _ i h (un_of hun)).1
      obtain ⟨h1, h2, _⟩ := hat.one hlu
      obtain ⟨v, w', hb, hS⟩ := makes_exists (hm w h1 (fun t _ ht => h2 t ht))
      exact ⟨_, _, _, hK v w' hb hS⟩
    · obtain ⟨v, _, h⟩ := H; exact ⟨_, _, _, h⟩
    · rename_i R hk; exact absurd hk (sd.others i hin hil R)
  intro f
  induction f with
  | zero =>
    intro listed Γ a w inv _ hr hat H
    have hun := (mem_ready.1 hr).1
    refine ⟨fun h => (by rw [h] at hr; cases hr), fun j hj => ?_⟩
    have hjn : j < n := sd.head i hin listed inv hun j hj
    refine ⟨hjn, ?_⟩
    by_cases hji : j = i
    · subst hji; exact ⟨oi, hi, H⟩
    · exfalso
      obtain ⟨_, a', w', hL⟩ := ex _ listed Γ a w inv hun hat H
      have := hdone _ _ _ hL j (ready_mono hj hji)
      omega
  | succ f ih =>
    intro listed Γ a w inv hfree hr hat H
    have hun := (mem_ready.1 hr).1
    refine ⟨fun h => (by rw [h] at hr; cases hr), fun j hj => ?_⟩
    have hjn : j < n := sd.head i hin listed inv hun j hj
    refine ⟨hjn, ?_⟩
    by_cases hji : j = i
    · subst hji; exact ⟨oi, hi, H⟩
    obtain ⟨hjun, oj, hoj, hall⟩ := mem_ready.1 hj
    refine ⟨oj, hoj, ?_⟩
    have hnot : ∀ e ∈ oj.after, Region.binds md e = true → e.on ≠ i := fun e he hb heq => by
      have h1 := hall e he hb
      rw [heq, getD_both hun] at h1
      cases h1
    obtain ⟨ap1, ap2, ap3⟩ := Oper.apart_spec (hfree j oj hoj hji hjun hnot)
    have hsi := fun cs b => sd.sel i oi cs b hi
    have hsj := fun cs b => sd.sel j oj cs b hoj
    have hfree' : ∀ k ok, ops[k]? = some ok → k ≠ i → (listed.setIfInBounds j true).getD k true = false →
        (∀ e ∈ ok.after, Region.binds md e = true → e.on ≠ i) → oi.apart ops ok = true := fun k ok hk hki hun hno => by
      refine hfree k ok hk hki ?_ hno
      by_cases hjk : j = k
      · subst hjk; exact hjun
      · rw [getD_set_ne true hjk] at hun; exact hun
    have inv' := inv.set hj hjn
    have IH := fun Γ' a' w' => ih (listed.setIfInBounds j true) Γ' a' w' inv' hfree' (ready_mono hr (Ne.symm hji))
    have hjr := ready_mono hj hji
    have hcomm : (listed.setIfInBounds j true).setIfInBounds i true = (listed.setIfInBounds i true).setIfInBounds j true := Array.setIfInBounds_comm _ _ hji
    have hone : ∀ k, k < n → k ≠ l → (kd k).isBig = false → listed.getD k true = false → listed.getD l false = false ∧ l ∉ Region.ready md ops listed := fun k h1 h2 h3 h4 => by
      rcases sd.ahead k h1 h2 with h | h
      · rw [h] at h3; cases h3
      · exact behind_spec inv _ k h (un_of h4)
    -- j is the late one: then i is big
    by_cases hjl : j = l
    · subst hjl
      obtain ⟨R, hR⟩ := sd.late
      cases hki : kd i with
      | late R' => exact absurd hki (sd.others i hin hil R')
      | small => exact absurd hj (hone i hin hil (by rw [hki]; rfl) hun).2
      | make S => exact absurd hj (hone i hin hil (by rw [hki]; rfl) hun).2
      | big =>
        unfold tStep at H
        rw [hki] at H
        obtain ⟨v, hy, hK⟩ := H
        obtain ⟨oj', hoj', hj1⟩ := (hK.2 j hjr).2
        obtain rfl : oj' = oj := Option.some.inj (hoj'.symm.trans hoj)
        unfold tStep at hj1 ⊢
        rw [hR] at hj1 ⊢
        obtain ⟨hw, hm, hKj⟩ := hj1
        refine ⟨by rw [wanted_put oj' a oi.dst v ap1] at hw; exact hw, (makes_put hsj ap1).1 hm, fun u w' hb hT => ?_⟩
        have hjs : j < listed.size := by rw [inv.size]; exact (Array.getElem?_eq_some_iff.1 hoj).1
        refine IH _ _ _ (At.late (Γ := Γ) (a := a) hjs hb) ?_
        unfold tStep
        rw [hki]
        refine ⟨v, (YB_put hsi ap3).2 hy, ?_⟩
        rw [hcomm, ← Act.put_comm a v u ap2]
        exact hKj u w' hb hT
    -- j is another one
    have hkj : ∀ R, kd j ≠ .late R := sd.others j hjn hjl
    -- one instance behind i, for what j comes to
    obtain ⟨Γ0, a0, w0, hK0⟩ := ex _ listed Γ a w inv hun hat H
    cases hki : kd i with
    | late R' => exact absurd hki (sd.others i hin hil R')
    | small =>
      unfold tStep at H
      rw [hki] at H
      obtain ⟨v, hy, hK⟩ := H
      obtain ⟨oj', hoj', hj1⟩ := (hK.2 j hjr).2
      obtain rfl : oj' = oj := Option.some.inj (hoj'.symm.trans hoj)
      have hlu := (hone i hin hil (by rw [hki]; rfl) hun).1
      have back : ∀ (Γ' : Facts) (u : Value) (w' : World) (S : Spec), rlAny P ops base CB kd md n L f ((listed.setIfInBounds i true).setIfInBounds j true) ((Γ.set oi.dst Spec.any).set oj'.dst S) ((a.put oi.dst v).put oj'.dst u) w' →
          tStep P ops base CB kd i oi (rlAny P ops base CB kd md n L f ((listed.setIfInBounds j true).setIfInBounds i true)) (Γ.set oj'.dst S) (a.put oj'.dst u) w' := by
        intro _ u w' S h
        unfold tStep
        rw [hki]
        refine ⟨v, (YF_put hsi ap3).2 hy, ?_⟩
        rw [hcomm, ← Act.put_comm a v u ap2, ← Facts.set_comm ap2]; exact h
      cases hkj' : kd j with
      | late R => exact absurd hkj' (hkj R)
      | small =>
        unfold tStep at hj1 ⊢
        rw [hkj'] at hj1 ⊢
        obtain ⟨u, hyj, hKj⟩ := hj1
        exact ⟨u, (YF_put hsj ap1).1 hyj, IH _ _ _ (hat.small hjl) (back Γ u w Spec.any hKj)⟩
      | make T =>
        unfold tStep at hj1 ⊢
        rw [hkj'] at hj1 ⊢
        obtain ⟨hyj, hKj⟩ := hj1
        have hyj' := (YM_put hsj ap1).1 hyj
        exact ⟨hyj', fun u w' hb hT => IH _ _ _ (hat.make hlu hjl hsub hb hT hyj'.2.1) (back Γ u w' T (hKj u w' hb hT))⟩
      | big =>
        unfold tStep at hj1 ⊢
        rw [hkj'] at hj1 ⊢
        obtain ⟨u, hyj, hKj⟩ := hj1
        exact ⟨u, (YB_put hsj ap1).1 hyj, IH _ _ _ (hat.small hjl) (back Γ u w Spec.any hKj)⟩
    | big =>
      unfold tStep at H
      rw [hki] at H
      obtain ⟨v, hy, hK⟩ := H
      obtain ⟨oj', hoj', hj1⟩ := (hK.2 j hjr).2
      obtain rfl : oj' = oj := Option.some.inj (hoj'.symm.trans hoj)
      have back : ∀ (Γ' : Facts) (u : Value) (w' : World) (S : Spec), rlAny P ops base CB kd md n L f ((listed.setIfInBounds i true).setIfInBounds j true) ((Γ.set oi.dst Spec.any).set oj'.dst S) ((a.put oi.dst v).put oj'.dst u) w' →
          tStep P ops base CB kd i oi (rlAny P ops base CB kd md n L f ((listed.setIfInBounds j true).setIfInBounds i true)) (Γ.set oj'.dst S) (a.put oj'.dst u) w' := by
        intro _ u w' S h
        unfold tStep
        rw [hki]
        refine ⟨v, (YB_put hsi ap3).2 hy, ?_⟩
        rw [hcomm, ← Act.put_comm a v u ap2, ← Facts.set_comm ap2]; exact h
      cases hkj' : kd j with
      | late R => exact absurd hkj' (hkj R)
      | small =>
        unfold tStep at hj1 ⊢
        rw [hkj'] at hj1 ⊢
        obtain ⟨u, hyj, hKj⟩ := hj1
        exact ⟨u, (YF_put hsj ap1).1 hyj, IH _ _ _ (hat.small hjl) (back Γ u w Spec.any hKj)⟩
      | make T =>
        have hlu := (hone j hjn hjl (by rw [hkj']; rfl) hjun).1
        unfold tStep at hj1 ⊢
        rw [hkj'] at hj1 ⊢
        obtain ⟨hyj, hKj⟩ := hj1
        have hyj' := (YM_put hsj ap1).1 hyj
        exact ⟨hyj', fun u w' hb hT => IH _ _ _ (hat.make hlu hjl hsub hb hT hyj'.2.1) (back Γ u w' T (hKj u w' hb hT))⟩
      | big =>
        unfold tStep at hj1 ⊢
        rw [hkj'] at hj1 ⊢
        obtain ⟨u, hyj, hKj⟩ := hj1
        exact ⟨u, (YB_put hsj ap1).1 hyj, IH _ _ _ (hat.small hjl) (back Γ u w Spec.any hKj)⟩
    | make S =>
      have hlu := (hone i hin hil (by rw [hki]; rfl) hun).1
      obtain ⟨h1, h2, h3⟩ := hat.one hlu
      unfold tStep at H
      rw [hki] at H
      obtain ⟨hy, hK⟩ := H
      obtain ⟨vs, ws, hbs, hSs⟩ := makes_exists (hy.2.2 w h1 (fun t _ ht => h2 t ht))
      obtain ⟨oj', hoj', hj1⟩ := ((hK vs ws hbs hSs).2 j hjr).2
      obtain rfl : oj' = oj := Option.some.inj (hoj'.symm.trans hoj)
      cases hkj' : kd j with
      | late R => exact absurd hkj' (hkj R)
      | small =>
        unfold tStep at hj1 ⊢
        rw [hkj'] at hj1 ⊢
        obtain ⟨u, hyj, hKj⟩ := hj1
        have hyj' := (YF_put hsj ap1).1 hyj
        refine ⟨u, hyj', IH _ _ _ (hat.small hjl) ?_⟩
        unfold tStep
        rw [hki]
        refine ⟨(YM_put hsi ap3).2 hy, fun v w' hb hS => ?_⟩
        rw [hcomm, ← Act.put_comm a v u ap2, ← Facts.set_comm ap2]
        obtain ⟨oj'', hoj'', hj2⟩ := ((hK v w' hb hS).2 j hjr).2
        obtain rfl : oj'' = oj' := Option.some.inj (hoj''.symm.trans hoj)
        unfold tStep at hj2
        rw [hkj'] at hj2
        obtain ⟨u', hyj2, hKj2⟩ := hj2
        obtain rfl : u = u' := YF_unique h1 (fun t _ ht => h2 t ht) (fun t _ ht => h2 t ht) hyj' ((YF_put hsj ap1).1 hyj2)
        exact hKj2
      | big =>
        unfold tStep at hj1 ⊢
        rw [hkj'] at hj1 ⊢
        obtain ⟨u, hyj, hKj⟩ := hj1
        have hyj' := (YB_put hsj ap1).1 hyj
        refine ⟨u, hyj', IH _ _ _ (hat.small hjl) ?_⟩
        unfold tStep
        rw [hki]
        refine ⟨(YM_put hsi ap3).2 hy, fun v w' hb hS => ?_⟩
        rw [hcomm, ← Act.put_comm a v u ap2, ← Facts.set_comm ap2]
        obtain ⟨oj'', hoj'', hj2⟩ := ((hK v w' hb hS).2 j hjr).2
        obtain rfl : oj'' = oj' := Option.some.inj (hoj''.symm.trans hoj)
        unfold tStep at hj2
        rw [hkj'] at hj2
        obtain ⟨u', hyj2, hKj2⟩ := hj2
        obtain rfl : u = u' := YB_unique hat.big hyj' ((YB_put hsj ap1).1 hyj2)
        exact hKj2
      | make T =>
        unfold tStep at hj1 ⊢
        rw [hkj'] at hj1 ⊢
        obtain ⟨hyj, hKj⟩ := hj1
        have hyj' := (YM_put hsj ap1).1 hyj
        refine ⟨hyj', fun u w' hb hT => IH _ _ _ (hat.make hlu hjl hsub hb hT hyj'.2.1) ?_⟩
        unfold tStep
        rw [hki]
        refine ⟨(YM_put hsi ap3).2 hy, fun v w'' hb2 hS => ?_⟩
        rw [hcomm, ← Act.put_comm a v u ap2, ← Facts.set_comm ap2]
        have hbb : Below w.heap.size w w'' := below_trans hb hb2
        obtain ⟨oj'', hoj'', hj2⟩ := ((hK v w'' hbb hS).2 j hjr).2
        obtain rfl : oj'' = oj' := Option.some.inj (hoj''.symm.trans hoj)
        unfold tStep at hj2
        rw [hkj'] at hj2
        obtain ⟨_, hKj2⟩ := hj2
        exact hKj2 u w'' (Below.refl _ _) (hyj'.2.1 _ _ _ hT hb2)

/-- the order of the text serves every order -/
theorem rl_lex {g : Nat} {Lq : Act → World → Prop} (sd : Sides md ops kd l n) (hln : l + 1 = n) (L : Array Bool → Act → World → Prop)
    (hsub : ∀ w, Below base.heap.size base w → CB w) (hdone : ∀ listed a w, L listed a w → ∀ j ∈ Region.ready md ops listed, n ≤ j)
    (hend : ∀ listed a w, Region.seqB md ops g n listed = true → Lq a w → L listed a w) :
    ∀ (ls : List Oper) (k : Nat) (listed : Array Bool) (Γ : Facts) (a : Act) (w : World), (∀ j, j < ls.length → ls[j]? = ops[k + j]?) → k + ls.length = n → HeadInv md ops n listed →
    Region.lexHead md ops g ls.length k listed = true → Region.ready md ops ((List.range (n - 1)).foldl (fun l i => l.setIfInBounds i true) (Array.replicate ops.size false)) = [l] →
    listed = (List.range k).foldl (fun l i => l.setIfInBounds i true) (Array.replicate ops.size false) →
    (k ≤ l → At P base CB l listed Γ a w) → rlLex P ops base CB kd Lq ls k Γ a w →
    rlAny P ops base CB kd md n L ls.length listed Γ a w
  | [], k, listed, Γ, a, w, _, hk, _, hB, _, _, _, h => by
    have : k = n := by simpa using hk
    subst this
    exact hend _ _ _ (by simpa [Region.lexHead] using hB) h
  | o :: ls, k, listed, Γ, a, w, hl, hk, inv, hB, hlast, hlisted, hat, h => by
    have h0 : ops[k]? = some o := by simpa using (hl 0 (by simp)).symm
    simp only [List.length_cons, Region.lexHead, Bool.and_eq_true] at hB
    obtain ⟨⟨hr, hf⟩, hB'⟩ := hB
    have hkn : k < n := by simp only [List.length_cons] at hk; omega
    have hr' : k ∈ Region.ready md ops listed := by simpa using hr
    have hls : (List.range (k + 1)).foldl (fun l i => l.setIfInBounds i true) (Array.replicate ops.size false) = listed.setIfInBounds k true := by
      rw [List.range_succ, List.foldl_append, ← hlisted]; rfl
    have hgo := fun Γ' a' w' => rl_lex sd hln L hsub hdone hend ls (k + 1) (listed.setIfInBounds k true) Γ' a' w' (fun j hj => by have := hl (j + 1) (by simp; omega); simpa [Nat.add_assoc, Nat.add_comm 1 j] using this)
      (by simp only [List.length_cons] at hk; omega) (inv.set hr' hkn) hB' hlast hls.symm
    have h' : tStep P ops base CB kd k o (rlLex P ops base CB kd Lq ls (k + 1)) Γ a w := h
    by_cases hkl : k = l
    · -- the late one: nothing else is left
      subst hkl
      have hrd : Region.ready md ops listed = [k] := by rw [hlisted]; rw [← hln] at hlast; simpa using hlast
      refine ⟨by rw [hrd]; simp, fun j hj => ?_⟩
      rw [hrd] at hj
      obtain rfl : j = k := by simpa using hj
      refine ⟨hkn, o, h0, ?_⟩
      exact tStep_mono (fun Γ' a' w' h2 => hgo Γ' a' w' (fun hh => by omega) h2) h'
    · have hkl' : k < l := by omega
      refine rl_first sd (by omega) h0 hkn hkl hsub hdone ls.length listed Γ a w inv (Region.free_spec h0 hf) hr' (hat (by omega)) ?_
      have hat' := hat (by omega)
      have hun := (mem_ready.1 hr').1
      have hlu : listed.getD l false = false := by
        rcases sd.ahead k hkn hkl with hb | hb
        · -- by what stands listed
          rw [hlisted]
          have : ∀ m, m ≤ l → ((List.range m).foldl (fun l i => l.setIfInBounds i true) (Array.replicate ops.size false)).getD l false = false := by
            intro m
            induction m with
            | zero => intro _; exact getD_replicate_false _ _
            | succ m ihm =>
              intro hm
              rw [List.range_succ, List.foldl_append]
              simp only [List.foldl_cons, List.foldl_nil]
              rw [getD_set_other (by omega)]
              exact ihm (by omega)
          exact this k (by omega)
        · exact (behind_spec inv _ k hb (un_of hun)).1
      unfold tStep at h' ⊢
      split at h'
      · rename_i hkk
        obtain ⟨v, h1, h2⟩ := h'
        exact ⟨v, h1, hgo _ _ _ (fun _ => hat'.small hkl) h2⟩
      · rename_i S hkk
        exact ⟨h'.1, fun v w' hb hS => hgo _ _ _ (fun _ => hat'.make hlu hkl hsub hb hS h'.1.2.1) (h'.2 v w' hb hS)⟩
      · rename_i hkk
        obtain ⟨v, h1, h2⟩ := h'
        exact ⟨v, h1, hgo _ _ _ (fun _ => hat'.small hkl) h2⟩
      · rename_i R hkk
        exact absurd hkk (sd.others k hkn hkl R)
end

section
variable {P : Program} {id : Nat} {Q : Exit → Act → World → Prop} {a : Act} {w : World} {ls : List Oper}

/-- the static checks: n operations, the last of them the late one, 'big' those that may come behind it -/
def lateB (ops : Array Oper) (big : List Nat) (n : Nat) : Bool :=
  Region.lexTailB .any ops n && decide (0 < n) && decide (Region.ready .any ops ((List.range (n - 1)).foldl (fun l i => l.setIfInBounds i true) (Array.replicate ops.size false)) = [n - 1]) &&
  (List.range (n - 1)).all fun i => big.contains i || behind ops .any (n - 1) ops.size i

def kindsOf (big : List Nat) (mk : Nat → Option Spec) (n : Nat) (R : Spec) (i : Nat) : Kind :=
  if i = n - 1 then .late R else if big.contains i then .big else match mk i with
    | some S => .make S
    | none => .small

/-- **A region that draws; the first n operations, the last of which changes what was there; then the forced tail.** -/
theorem wp_region_late (n : Nat) (big : List Nat) (mk : Nat → Option Spec) (CB : World → Prop) (R : Spec) (hm : P.follows .mixedOrders = true) (hB : lateB ls.toArray big n = true)
    (hsub : ∀ b, b.heap = w.heap → Below w.heap.size w b → ∀ w', Below b.heap.size b w' → CB w')
    (h : ∀ b, Below w.heap.size w b → b.heap = w.heap → rlLex P ls.toArray b CB (kindsOf big mk n R) (fun a' w' => wpList P ls.toArray Q (ls.drop n) a' w') (ls.take n) 0 Facts.empty a b) :
    (Code.region id ls.toArray true).wp P Q a w := by
  simp only [lateB, Bool.and_eq_true, decide_eq_true_eq] at hB
  obtain ⟨⟨⟨hB1, hpos⟩, hlast⟩, hbig⟩ := hB
  simp only [Region.lexTailB, Bool.and_eq_true, decide_eq_true_eq] at hB1
  obtain ⟨⟨⟨⟨hsel, hn⟩, hs⟩, hc⟩, hlex⟩ := hB1
  have htl : (ls.take n).length = n := by simp at hn; simp; omega
  have hdl : (ls.drop n).length = ls.toArray.size - n := by simp
  have inv0 : HeadInv .any ls.toArray n (Array.replicate ls.toArray.size false) :=
    ⟨by simp, fun j oj _ hl => (by rw [getD_replicate_false] at hl; cases hl), fun t _ ht => getD_in (by simpa using ht) (getD_replicate_false _ _)⟩
  have sd : Sides .any ls.toArray (kindsOf big mk n R) (n - 1) n := by
    refine ⟨Region.noSelect_spec hsel, fun i hin listed inv hun j hj => ?_, fun i hin hil => ?_, ⟨R, by simp [kindsOf]⟩, fun i hin hil R' => ?_⟩
    · rcases Nat.lt_or_ge j n with h | h
      · exact h
      · exact absurd hj (tail_waits hs hc hn inv _ i rfl hin hun j h)
    · have := List.all_eq_true.1 hbig i (List.mem_range.2 (by omega))
      simp only [Bool.or_eq_true] at this
      rcases this with h | h
      · left
        unfold kindsOf
        rw [if_neg hil, if_pos h]
        rfl
      · exact .inr h
    · unfold kindsOf
      rw [if_neg hil]
      split
      · intro h; cases h
      · split <;> (intro h; cases h)
  have hw0 : Below w.heap.size w { w with drawn := w.drawn + 1 } := (Below.refl _ w).drew
  have H := rl_lex (md := .any) (g := ls.toArray.size - n) (Lq := fun a' w' => wpList P ls.toArray Q (ls.drop n) a' w') sd (by omega)
    (fun listed' a' w' => Region.seqB .any ls.toArray (ls.toArray.size - n) n listed' = true ∧ wpList P ls.toArray Q (ls.drop n) a' w')
    (fun w' h' => hsub { w with drawn := w.drawn + 1 } rfl hw0 w' h') (fun listed a w hL => seqB_ready hL.1) (fun _ _ _ h1 h2 => ⟨h1, h2⟩)
    (ls.take n) 0 _ Facts.empty a { w with drawn := w.drawn + 1 } (fun j hj => by
      have hj' : j < n := by rw [htl] at hj; exact hj
      simp [hj']) (by simpa using htl) inv0 (by rw [htl]; exact hlex) hlast rfl
    (fun _ => ⟨hsub { w with drawn := w.drawn + 1 } rfl hw0 _ (Below.refl _ _), fun _ => ⟨Below.refl _ _, Facts.empty_ok _ _, Facts.empty_stable⟩⟩)
    (h { w with drawn := w.drawn + 1 } hw0 rfl)
  refine wp_region_any hm ?_
  have := wpAny_of_rl (Q := Q) (g := ls.toArray.size - n) sd (by omega) (fun w' h' => hsub { w with drawn := w.drawn + 1 } rfl hw0 w' h') (fun listed a' w' hL => by
    have := wpAny_of_seq (md := .any) (Q' := Q) (ls.drop n) n listed a' w' (fun j => by simp [List.getElem?_drop]) (by rw [hdl]; exact hL.1) hL.2
    rwa [hdl] at this) _ _ _ _ _ inv0 ⟨hsub { w with drawn := w.drawn + 1 } rfl hw0 _ (Below.refl _ _), fun _ => ⟨Below.refl _ _, Facts.empty_ok _ _, Facts.empty_stable⟩⟩ H
  rw [htl, show n + (ls.toArray.size - n) = ls.toArray.size by simp at hn; simp; omega] at this
  exact this

variable {ops : Array Oper} {b : World} {q : Act → World → Prop} {o : Oper} {rest : List Oper} {k : Nat} {Γ : Facts} {CB : World → Prop} {kd : Nat → Kind}
theorem rl_nil (h : q a w) : rlLex P ops b CB kd q [] k Γ a w := h
theorem rl_small (v : Value) (hs : kd k = .small) (hw : Region.wanted o (yielded ops a.tmps) = true)
    (h : ∀ w1, Below b.heap.size b w1 → facts ops o Γ a w1 → (execOp a.eval o).run P w1 = .ok (.value v) w1)
    (hn : rlLex P ops b CB kd q rest (k + 1) (Γ.set o.dst Spec.any) (a.put o.dst v) w) : rlLex P ops b CB kd q (o :: rest) k Γ a w := by
  show tStep _ _ _ _ _ _ _ _ _ _ _
  unfold tStep
  rw [hs]
  exact ⟨v, .inl ⟨hw, h⟩, hn⟩
theorem rl_big (v : Value) (hs : kd k = .big) (hw : Region.wanted o (yielded ops a.tmps) = true) (h : ∀ w1, CB w1 → (execOp a.eval o).run P w1 = .ok (.value v) w1)
    (hn : rlLex P ops b CB kd q rest (k + 1) (Γ.set o.dst Spec.any) (a.put o.dst v) w) : rlLex P ops b CB kd q (o :: rest) k Γ a w := by
  show tStep _ _ _ _ _ _ _ _ _ _ _
  unfold tStep
  rw [hs]
  exact ⟨v, .inl ⟨hw, h⟩, hn⟩
theorem rl_move (x : Operand) (ho : o.op = .move x ∨ o.op = .assign x) (hs : kd k = .small ∨ kd k = .big) (hw : Region.wanted o (yielded ops a.tmps) = true)
    (hn : rlLex P ops b CB kd q rest (k + 1) (Γ.set o.dst Spec.any) (a.put o.dst (a.eval x)) w) : rlLex P ops b CB kd q (o :: rest) k Γ a w := by
  rcases hs with hs | hs
  · exact rl_small (a.eval x) hs hw (fun w1 _ _ => by rcases ho with h | h <;> simp [execOp, h]) hn
  · exact rl_big (a.eval x) hs hw (fun w1 _ => by rcases ho with h | h <;> simp [execOp, h]) hn
theorem rl_make (S : Spec) (hs : kd k = .make S) (hst : Spec.stable S) (hw : Region.wanted o (yielded ops a.tmps) = true)
    (h : ∀ w1, Below b.heap.size b w1 → facts ops o Γ a w1 → makes P o a w1 fun v w' => Below w1.heap.size w1 w' ∧ S v w')
    (hn : ∀ v w', Below w.heap.size w w' → S v w' → rlLex P ops b CB kd q rest (k + 1) (Γ.set o.dst S) (a.put o.dst v) w') : rlLex P ops b CB kd q (o :: rest) k Γ a w := by
  show tStep _ _ _ _ _ _ _ _ _ _ _
  unfold tStep
  rw [hs]
  exact ⟨⟨hw, hst, h⟩, hn⟩
theorem rl_late (R : Spec) (hs : kd k = .late R) (hw : Region.wanted o (yielded ops a.tmps) = true) (h : makes P o a w fun v w' => CB w' ∧ R v w')
    (hn : ∀ v w', CB w' → R v w' → rlLex P ops b CB kd q rest (k + 1) Γ (a.put o.dst v) w') : rlLex P ops b CB kd q (o :: rest) k Γ a w := by
  show tStep _ _ _ _ _ _ _ _ _ _ _
  unfold tStep
  rw [hs]
  exact ⟨hw, h, hn⟩
end
end Go.RG
namespace Go.Proofs.YtbjofbhhnmehgaaGreatDoor.TT
open Go.RowKit Go.RG Go.Hp Go.Proofs.YtbjofbhhnmehgaaGreatDoor



/-- numbers that lie apart below n are n at most -/
theorem apart_le : ∀ (n : Nat) (l : List Int), l.Nodup → (∀ i ∈ l, 0 ≤ i ∧ i < (n : Int)) → l.length ≤ n
  | 0, l, _, h => by
    cases l with
    | nil => exact Nat.le_refl _
    | cons a l => have := h a (List.mem_cons_self ..); omega
  | n + 1, l, hd, h => by
    by_cases hn : (n : Int) ∈ l
    · have h1 := apart_le n (l.erase (n : Int)) (hd.erase _) (fun i hi => by
        have h2 := (List.Nodup.mem_erase_iff hd).1 hi
        have h3 := h i h2.2
        have h4 := h2.1
        omega)
      rw [List.length_erase_of_mem hn] at h1
      omega
    · have h1 := apart_le n l hd (fun i hi => by
        have h3 := h i hi
        have h4 : i ≠ (n : Int) := fun e => hn (e ▸ hi)
        omega)
      omega
theorem owns_tight {w : World} {P : Program} {k : TypeId} {R : Value → Option (DataW Value × List MemPlace)} {b n : Nat} {D : DataW Value} (h : w.ownsMap P k R b n D) : w.ownsMap P k R b (Maps.size D) D := by
  obtain ⟨es, clock, h1, h2, h3, rfl⟩ := h
  refine ⟨es, clock, h1, h2, ?_, rfl⟩
  rw [Maps.size_eq, length_sorted]
  simp
def setV (V : Int → Value) (i : Int) (v : Value) (j : Int) : Value := if j = i then v else V j
def addK (ks : List Int) (i : Int) : List Int := if i ∈ ks then ks else i :: ks
theorem addK_mem {ks : List Int} {i j : Int} : j ∈ addK ks i ↔ j = i ∨ j ∈ ks := by
  unfold addK
  split
  · rename_i h
    constructor
    · exact .inr
    · rintro (rfl | h')
      · exact h
      · exact h'
  · exact List.mem_cons
theorem und_int : Tryz.prog.underlying 3 = some (.int .i64) := by kernel_rfl
/-- a store into the map -/
theorem CacheAt.store {w : World} {bm : Nat} {ks : List Int} {V : Int → Value} (h : CacheAt w bm ks V) (hn : ks.length ≤ 65536) (i : Int) (hi : (Lit.int .i64 i).wf = true) (v : Value) :
    ∃ w', (Instr.mapUpdate 82 (.map (some bm)) (.int .i64 i) v).run Tryz.prog w = .ok () w' ∧ CacheAt w' bm (addK ks i) (setV V i v) ∧ w.grownBy w' (some bm) := by
  obtain ⟨D, h1, h2, h3, h4, h5⟩ := h.some'
  have K := Maps.int_keyed und_int
  have hkey := Maps.keyOf_int_mk und_int hi
  obtain ⟨w', r1, r2, r3⟩ := h1.update K und_cache (by unfold maxLen; omega) hkey (show asIs v = some (.held v, []) from rfl)
  have ht := h1.tidy K
  have hsz := Maps.size_put ht (k := .int .i64 i) (.held v)
  rw [(h4 i hi).2, h2] at hsz
  have hlen : Maps.size (D.put (.int .i64 i) (.held v)) = (addK ks i).length := by
    rw [hsz]
    unfold addK
    by_cases hm : i ∈ ks
    · simp [hm]
    · simp [hm]
  refine ⟨w', r1, ⟨D.put (.int .i64 i) (.held v), by rw [← hlen]; exact owns_tight r2, hlen, ?_, fun j hj => ?_, fun j hj => ?_⟩, r3⟩
  · unfold addK
    split
    · exact h3
    · rename_i hm; exact List.nodup_cons.2 ⟨hm, h3⟩
  · have hD := h1.isMap
    have hkl : WideAt.IsKeyLit (.int .i64 i) := by first | trivial | simp [WideAt.IsKeyLit]
    by_cases hji : j = i
    · subst hji
      exact ⟨by rw [Maps.atKey_put_same hD hkl]; simp [setV], by rw [Maps.has_put_same hD hkl]; simp [addK_mem]⟩
    · have hne : (Lit.int .i64 j) ≠ .int .i64 i := fun e => hji (by injection e)
      refine ⟨?_, ?_⟩
      · rw [Maps.atKey_put_other hne, (h4 j hj).1]; simp [setV, hji]
      · rw [Maps.has_put_other hne, (h4 j hj).2]
        simp [addK_mem, hji]
  · have := fun e => hj (addK_mem.2 e)
    have h6 : j ≠ i := fun e => this (.inl e)
    have h7 : j ∉ ks := fun e => this (.inr e)
    simp [setV, h6, h5 j h7]

/-- a slice of one array -/
theorem build_one (cs : List Value) (hl : cs.length = 128) (w : World) : Sem.run Tryz.prog (Instr.buildSlice 80 1 #[(0, .agg cs.toArray)]) w = .ok (.slice (some ⟨w.heap.size, 0, none⟩) 1 1) (w.alloc (.cells cs.toArray 124)) := by
  have hi := info_sector
  cases hi0 : Tryz.prog.info? 124 with
  | none => rw [hi0] at hi; cases hi
  | some i0 =>
    rw [hi0] at hi
    simp only [Option.map_some, Option.some.injEq, Prod.mk.injEq] at hi
    obtain ⟨hz, hs, hb⟩ := hi
    cases hz0 : i0.zero with
    | none => rw [hz0] at hz; cases hz
    | some z =>
      obtain ⟨r, hr, hrs, hrk⟩ := Great.fill_dense (s := 128) (by decide) [.agg cs.toArray] 0 ((Array.range (1 * 128)).map (z.cells[· % z.cells.size]!)) (fun v hv => by
        obtain rfl := List.mem_singleton.1 hv
        simp [Value.cells, hl]) (by simp)
      have hrc : r = cs.toArray := by
        apply Array.ext_getElem?
        intro k
        rw [hrk]
        by_cases hk : k < 128
        · rw [if_pos (by simp; omega), Nat.div_eq_of_lt hk, Nat.mod_eq_of_lt hk]
          simp [Value.cells]
        · rw [if_neg (by simp; omega)]
          rw [Array.getElem?_eq_none (by simp; omega), Array.getElem?_eq_none (by simp; omega)]
      subst hrc
      exact run_buildSlice w 80 124 1 #[(0, .agg cs.toArray)] cs.toArray i0 z und_sectors hi0 hz0 (by rw [hs]; decide) (by rw [hs]; decide) (by rw [hs]; exact hr)
end Go.Proofs.YtbjofbhhnmehgaaGreatDoor.TT
namespace Go.Proofs.YtbjofbhhnmehgaaGreatDoor.TT
open Go.RowKit Go.RG Go.Hp Go.Proofs.YtbjofbhhnmehgaaGreatDoor



theorem goesD_eq (x : Dsk) : goesD x = { x with off := (goesD x).off, fuse := (goesD x).fuse } := by
  unfold goesD
  split
  · rfl
  · split
    · rfl
    · split <;> rfl
theorem DskAt.gone {w w' : World} {b : Bks} {x : Dsk} (h : DskAt w b x) (hX : Ext (· = b.d) w w') (hh : HeadAt w' b (goesD x)) : DskAt w' b (goesD x) := by
  rw [goesD_eq] at hh ⊢
  exact h.headed hX _ _ hh
/-- a disk's head holds no byte -/
theorem head_off {w : World} {b : Bks} {x : Dsk} (h : HeadAt w b x) {g o : Nat} {n : Int} (hc : w.cell? ⟨g, o, none⟩ = some (.int .u8 n)) : g ≠ b.d := by
  rintro rfl
  unfold HeadAt at h
  match o with
  | 0 => simp [World.cell?, h] at hc
  | 1 => simp [World.cell?, h] at hc
  | 2 => simp [World.cell?, h] at hc
  | 3 => simp [World.cell?, h] at hc
  | 4 => simp [World.cell?, h] at hc
  | o + 5 => simp [World.cell?, h] at hc
/-- one array more behind a row of one's own -/
theorem append_one (w : World) (B : Nat) (v : Value) (n : Nat) (xs : List Value) (hown : w.ownsRow B 124 128 v n xs) (hn : n ≤ 1099511627775) (hB : B ≤ w.heap.size) (g c : Nat) (cs : List Value) (hl : cs.length = 128) (hc : Row w g 124 cs) (h1 : ∀ u ∈ cs, u.oneCell' = true) (ty : TypeId) :
    ∃ v' w', Sem.run Tryz.prog (Builtin.append_ #[80, 80] ty #[v, .slice (some ⟨g, 0, none⟩) 1 c]) w = .ok v' w' ∧ w'.ownsRow B 124 128 v' (n + 1) (xs ++ cs) ∧ w.grownBy w' v.ownBlock ∧ ∀ k, v'.ownBlock = some k → v.ownBlock = some k ∨ w.heap.size ≤ k := by
  have hi := info_sector
  cases hi0 : Tryz.prog.info? 124 with
  | none => rw [hi0] at hi; cases hi
  | some i0 =>
    rw [hi0] at hi
    simp only [Option.map_some, Option.some.injEq, Prod.mk.injEq] at hi
    obtain ⟨hz, hs, hb⟩ := hi
    cases hz0 : i0.zero with
    | none => rw [hz0] at hz; cases hz
    | some z =>
      rw [hz0] at hz
      injection hz with hz
      have hzs : z.cells.size = 128 := by rw [hz]; exact List.length_replicate
      have hcs : ∀ j u, cs[j]? = some u → w.cell? ((⟨g, 0, none⟩ : Addr).add j) = some u := fun j u hu => by rw [Addr.add_lit, Nat.zero_add, hc.cell]; exact hu
      have q1 : n + 1 ≤ maxLen := by unfold maxLen; omega
      have q2 : (n + 1) * 128 ≤ 140737488355328 := by omega
      rcases hown.2 with ⟨hv, hn0⟩ | ⟨g', cap, cur, hv, -⟩
      · subst hv hn0
        obtain ⟨v', w', r1, r2, r3, -⟩ := run_append_own (P := Tryz.prog) w w.heap.size 80 ty 124 i0 z 128 128 und_sectors hi0 hz0 hs hb hzs (by decide) (.slice none 0 0) 0 xs (owns_base hown (fun k hk => by cases hk)) ⟨g, 0, none⟩ 1 c cs (by rw [hl]) hcs h1 q1 q2 (Nat.le_refl _)
        exact ⟨v', w', r1, owns_base r2 (fun k hk => Nat.le_trans hB (r2.lt k hk).1), r3, fun k hk => .inr (r2.lt k hk).1⟩
      · subst hv
        obtain ⟨v', w', hr, r2, r3, -⟩ := run_append_own (P := Tryz.prog) w B 80 ty 124 i0 z 128 128 und_sectors hi0 hz0 hs hb hzs (by decide) _ n xs hown ⟨g, 0, none⟩ 1 c cs (by rw [hl]) hcs h1 q1 q2 hB
        refine ⟨v', w', hr, r2, r3, ?_⟩
        intro k hk
        obtain ⟨L, hL, hLl, hLt, hnc, hcm⟩ := owns_row hown
        by_cases hroom : n + 1 ≤ cap
        · have hr2 := run_append_room (P := Tryz.prog) w 80 ty 124 i0 und_sectors hi0 g' n cap L.toArray hL ⟨g, 0, none⟩ 1 c cs (by rw [hl, hs]) hcs h1 hroom (by rw [List.size_toArray, hs, hLl, hl]; omega)
          rw [hr2] at hr
          injection hr with hv _
          subst hv
          exact .inl hk
        · have hr2 := run_append_grow (P := Tryz.prog) w 80 ty 124 i0 z und_sectors hi0 hz0 ⟨g', 0, none⟩ n cap xs (by rw [hs]; exact hown.1) (hown.cells (g := g') rfl) ⟨g, 0, none⟩ 1 c cs (by rw [hl, hs]) hcs (by unfold maxLen at q1; omega) (by omega) (growslice_fits (by omega) (by rw [hb]; exact q2))
          rw [hr2] at hr
          injection hr with hv _
          subst hv
          have hk : w.heap.size = k := Option.some.inj hk
          exact .inr (by omega)

/-- a sector written: one version more -/
def wroteD (x : Dsk) (i : Int) (bs : List Int) : Dsk := { x with ks := addK x.ks i, cache := fun j => if j = i then x.cache i ++ [bs] else x.cache j }
def Bks.setV (b : Bks) (i : Int) (v : Value) : Bks := { b with V := TT.setV b.V i v }
theorem arr_at (w : World) (g o c : Nat) : Sem.run Tryz.prog (Instr.arrayAt 124 (.slice (some ⟨g, o, none⟩) 128 c)) w = .ok (.pointer (some ⟨g, o, none⟩)) w := by
  simp only [Instr.arrayAt, Sem.run_bind, run_underlying und_sector, Result.andThen_ok]
  rfl
theorem DskAt.wrote {wg w10 w11 : World} {b : Bks} {y : Dsk} (h : DskAt wg b y) (i : Nat) (hi : i < y.dur.length) (bs : List Int) (hl : bs.length = 128) (v : Value) (hown : w10.ownsRow 0 124 128 v ((y.cache i).length + 1) (flat (y.cache i ++ [bs])))
    (hX : Ext (fun k => (b.V i).ownBlock = some k) wg w10) (hbk : ∀ k, v.ownBlock = some k → (b.V i).ownBlock = some k ∨ wg.heap.size ≤ k) (hm : CacheAt w11 b.m (addK y.ks i) (TT.setV b.V i v)) (hg : w10.grownBy w11 (some b.m)) : DskAt w11 (b.setV i v) (wroteD y i bs) := by
  have hlt := h.lt
  have hk : ∀ k, b.all k → k ≠ b.m → (b.V i).ownBlock ≠ some k → w11.heap[k]? = wg.heap[k]? := fun k hk h1 h2 => by
    have := hlt k hk
    rw [hg.block k (Nat.lt_of_lt_of_le this hX.size) (fun e => h1 (by injection e)), hX.block k this h2]
  have hVn : ∀ k, (b.V i).ownBlock = some k → k ≠ b.d ∧ k ≠ b.g ∧ k ≠ b.t ∧ k ≠ b.m := fun k e => h.ne2 i k e
  have hv : ∀ k, v.ownBlock = some k → k ≠ b.d ∧ k ≠ b.g ∧ k ≠ b.t ∧ k ≠ b.m := fun k e => by
    rcases hbk k e with e | e
    · exact hVn k e
    · have l1 := hlt b.d (.inl rfl)
      have l2 := hlt b.g (.inr (.inl rfl))
      have l3 := hlt b.t (.inr (.inr (.inl rfl)))
      have l4 := hlt b.m (.inr (.inr (.inr (.inl rfl))))
      omega
  have hnd : (b.V i).ownBlock ≠ some b.d := fun e => (hVn _ e).1 rfl
  have hng : (b.V i).ownBlock ≠ some b.g := fun e => (hVn _ e).2.1 rfl
  have hnt : (b.V i).ownBlock ≠ some b.t := fun e => (hVn _ e).2.2.1 rfl
  refine { head := ?_, durs := ?_, torns := ?_, map := hm, rows := fun j hj => ?_, none' := fun j hj => ?_, len := h.len, pos := h.pos, lim := h.lim, in' := fun j hj => ?_, s128 := h.s128, c128 := fun j s hs => ?_, ne1 := h.ne1, ne2 := fun j k e => ?_, ne3 := fun j l k hjl e => ?_ }
  · show w11.heap[b.d]? = _
    rw [hk b.d (.inl rfl) h.ne1.2.2.1 hnd]
    exact h.head
  · show w11.heap[b.g]? = _
    rw [hk b.g (.inr (.inl rfl)) h.ne1.2.2.2.2.1 hng]
    exact h.durs
  · show w11.heap[b.t]? = _
    rw [hk b.t (.inr (.inr (.inl rfl))) h.ne1.2.2.2.2.2 hnt]
    exact h.torns
  · by_cases hji : j = (i : Int)
    · subst hji
      simp only [wroteD, Bks.setV, TT.setV, if_true]
      rw [List.length_append, List.length_singleton]
      refine ⟨by omega, owns_of_block hown fun k e => ?_⟩
      exact hg.block k (owns_lt hown e) (fun e2 => (hv k e).2.2.2 (by injection e2))
    · have hj' := (addK_mem.1 hj).resolve_left hji
      simp only [wroteD, Bks.setV, TT.setV, if_neg hji]
      exact ⟨(h.rows j hj').1, owns_of_block (h.rows j hj').2 fun k e => hk k (.inr (.inr (.inr (.inr ⟨j, e⟩)))) (h.ne2 j k e).2.2.2 (h.ne3 j i k hji e)⟩
  · have hj' := fun e => hj (addK_mem.2 e)
    simp only [wroteD]
    rw [if_neg (fun e => hj' (.inl e))]
    exact h.none' j fun e => hj' (.inr e)
  · rcases addK_mem.1 hj with rfl | hj
    · exact ⟨by omega, by show (i : Int) < (y.dur.length : Int); omega⟩
    · exact h.in' j hj
  · simp only [wroteD] at hs
    by_cases hji : j = (i : Int)
    · rw [if_pos hji] at hs
      rcases List.mem_append.1 hs with hs | hs
      · exact h.c128 _ s hs
      · rw [List.mem_singleton.1 hs]; exact hl
    · rw [if_neg hji] at hs
      exact h.c128 j s hs
  · simp only [Bks.setV, TT.setV] at e
    by_cases hji : j = (i : Int)
    · rw [if_pos hji] at e
      exact hv k e
    · rw [if_neg hji] at e
      exact h.ne2 j k e
  · simp only [Bks.setV, TT.setV] at e ⊢
    by_cases hji : j = (i : Int)
    · subst hji
      rw [if_pos rfl] at e
      rw [if_neg (Ne.symm hjl)]
      rcases hbk k e with e | e
      · exact h.ne3 _ l k hjl e
      · intro e2
        have := hlt k (.inr (.inr (.inr (.inr ⟨l, e2⟩))))
        omega
    · rw [if_neg hji] at e
      by_cases hli : l = (i : Int)
      · subst hli
        rw [if_pos rfl]
        intro e2
        rcases hbk k e2 with e3 | e3
        · exact h.ne3 j _ k hji e e3
        · have := hlt k (.inr (.inr (.inr (.inr ⟨j, e⟩))))
          omega
      · rw [if_neg hli]
        exact h.ne3 j l k hjl e
set_option maxHeartbeats 1000000 in
set_option maxRecDepth 100000 in
theorem write_any (b : Bks) (x : Dsk) (i : Nat) (hi : i < x.dur.length) (v : Value) (bs : List Int) (hl : bs.length = 128) (w : World) (h : DskAt w b x) (hf : x.fuse ≤ 9223372036854775807 ∧ -1 ≤ x.fuse) (hs : Src w v (u8s bs)) (hver : (x.cache i).length ≤ 1099511627775) :
    Calls Tryz.prog 79 #[.pointer (some ⟨b.d, 0, none⟩), .int .i64 i, v] w fun e w' => ∃ b' : Bks, b'.d = b.d ∧ (∀ k, b'.all k → b.all k ∨ w.heap.size ≤ k) ∧ Ext b.all w w' ∧
      ((goesB x = true ∧ e = .returned (.int .i64 0) ∧ DskAt w' b' (wroteD (goesD x) i bs)) ∨ (goesB x = false ∧ e = .returned (.int .i64 5) ∧ DskAt w' b' (goesD x))) := by
  have hd : onDisk x (i : Int) = true := by simp [onDisk, hi]
  have hlim := h.lim
  have hwf : (Lit.int .i64 (i : Int)).wf = true := WalkArith.wf_i64 (by omega)
  rcases hs with ⟨g, o, c, rfl, hc, hr⟩ | ⟨-, e2⟩
  · rw [u8s_length, hl] at hc ⊢
    have H := Lib.hid h; clear h
    have Hr := Lib.hid hr; clear hr
    have Hl := Lib.hid hl; clear hl
    go_enter Tryz.func79, Tryz.ntmps79
    go_wp2_with fail
    refine (has_any b x i w H.out.head).mono ?_
    rintro e w' ⟨rfl, rfl⟩
    rw [hd]
    go_wp2_with fail
    refine (goes_any b x w H.out.head hf).mono ?_
    rintro e wg ⟨rfl, hh1, hX1⟩
    have hD1 := H.out.gone hX1 hh1
    have hXa : Ext b.all w wg := hX1.mono fun k _ hk => .inl hk
    have HD1 := Lib.hid hD1; clear hD1
    cases hgb : goesB x
    · have Hgb := Lib.hid hgb; clear hgb
      go_wp2_with fail
      go_ret
      exact ⟨b, rfl, fun k hk => .inl hk, hXa, .inr ⟨Hgb.out, rfl, HD1.out⟩⟩
    · have Hgb := Lib.hid hgb; clear hgb
      obtain ⟨y, hy⟩ : ∃ y, goesD x = y := ⟨_, rfl⟩
      rw [hy] at HD1 hh1
      have hcy : y.cache = x.cache := by rw [← hy, goesD_eq]
      have Hy := Lib.hid hy; clear hy
      obtain ⟨-, -, c2, -⟩ := hh1.cells
      have hs1 : ∀ j u, (u8s bs)[j]? = some u → wg.cell? ⟨g, o + j, none⟩ = some u := fun j u hu => by
        have hc0 := Hr.out j u hu
        obtain ⟨n, rfl⟩ : ∃ n, u = .int .u8 n := by
          obtain ⟨n, -, e⟩ := List.mem_map.1 (List.mem_of_getElem? hu)
          exact ⟨n, e.symm⟩
        exact hX1.cell_some hc0 (head_off H.out.head hc0)
      have Hs1 := Lib.hid hs1; clear hs1
      clear hh1
      go_wp2_with fail
      refine wp_region_late 16 [0, 1, 2, 3, 4] (fun i => if i = 14 then some (fun v w' => ∃ g : Nat, v = .slice (some ⟨g, 0, none⟩) 1 1 ∧ wg.heap.size ≤ g ∧ Row w' g 124 (u8s bs)) else none)
        (fun w' => w'.cell? ⟨b.d, 2, none⟩ = some (.map (some b.m)))
        (fun u w' => w'.ownsRow 0 124 128 u ((y.cache i).length + 1) (flat (y.cache i ++ [bs])) ∧ Ext (fun k => (b.V i).ownBlock = some k) wg w' ∧ ∀ k, u.ownBlock = some k → (b.V i).ownBlock = some k ∨ wg.heap.size ≤ k) fol (by kernel_rfl)
        (fun b1 _ hb w' h => below_cell (below_trans hb h) c2) (fun W hW hh => ?_)
      clear hh
      have c2W : ∀ w2, Below W.heap.size W w2 → w2.cell? ⟨b.d, 2, none⟩ = some (.map (some b.m)) := fun w2 h2 => below_cell (below_trans hW h2) c2
      have hlk : ∀ w2, Below W.heap.size W w2 → Sem.run Tryz.prog (Instr.lookup 82 (.map (some b.m)) (.int .i64 (i : Int)) false) w2 = .ok (b.V i) w2 := fun w2 h2 => (HD1.out.below (below_trans hW h2)).map.look i hwf
      have harr := fun w2 => arr_at w2 g o c
      simp only [List.take_succ_cons, List.take_zero, List.drop_succ_cons, List.drop_zero]
      iterate 13 (first
        | (refine rl_move _ (by first | exact Or.inl rfl | exact Or.inr rfl) (by first | exact Or.inl rfl | exact Or.inr rfl) rfl ?_
           simp only [Act.put, Act.eval, Array.getD_eq_getD_getElem?, List.getElem?_toArray, List.getElem?_cons_zero, List.getElem?_cons_succ, Option.getD_some, List.setIfInBounds_toArray, List.set_cons_succ, List.set_cons_zero]
          )
        | (refine rl_small ?_ rfl rfl (fun w1 hb1 hf1 => ?_) ?_
           rotate_left
           (go_simp; (try simp (disch := omega) only [IntWalk.i64_quo, IntWalk.rem_in, IntWalk.i64_in, IntWalk.u64_in, IntWalk.u32_in, IntWalk.u8_in, IntWalk.toNatUp, IntWalk.iteOmega]); (try go_simp); rfl)
           simp only [Act.put, Act.eval, Array.getD_eq_getD_getElem?, List.getElem?_toArray, List.getElem?_cons_zero, List.getElem?_cons_succ, Option.getD_some, List.setIfInBounds_toArray, List.set_cons_succ, List.set_cons_zero]
          )
        | (refine rl_big ?_ rfl rfl (fun w1 hcb1 => ?_) ?_
           rotate_left
           ((try dsimp only at hcb1); go_simp; (try simp (disch := omega) only [IntWalk.i64_quo, IntWalk.rem_in, IntWalk.i64_in, IntWalk.u64_in, IntWalk.u32_in, IntWalk.u8_in, IntWalk.toNatUp, IntWalk.iteOmega]); (try go_simp); rfl)
           simp only [Act.put, Act.eval, Array.getD_eq_getD_getElem?, List.getElem?_toArray, List.getElem?_cons_zero, List.getElem?_cons_succ, Option.getD_some, List.setIfInBounds_toArray, List.set_cons_succ, List.set_cons_zero]
          ))
      refine rl_small (.agg (u8s bs).toArray) rfl rfl (fun w2 hb2 hf2 => exec_load (.tmp 31) 124 rfl (show (Instr.loadAt 124 (.pointer (some ⟨g, o, none⟩))).run Tryz.prog w2 = _ from run_load_arr und_sector size_sector w2 ⟨g, o, none⟩ (u8s bs) (by rw [u8s_length]; exact Hl.out) (fun j u hu => by rw [Addr.add_lit]; exact below_cell (below_trans hW hb2) (Hs1.out j u hu)))) ?_
      simp only [Act.put, Act.eval, Array.getD_eq_getD_getElem?, List.getElem?_toArray, List.getElem?_cons_zero, List.getElem?_cons_succ, Option.getD_some, List.setIfInBounds_toArray, List.set_cons_succ, List.set_cons_zero]
      refine rl_make _ rfl (by exact fun _ _ _ ⟨g, h1, h2, h3⟩ hb => ⟨g, h1, h2, h3.below hb⟩) rfl (fun w1 hb1 hf1 => ?_) ?_
      · exact makes_of (exec_build_one 80 1 (.tmp 32) rfl (show (Instr.buildSlice 80 1 #[(0, .agg (u8s bs).toArray)]).run Tryz.prog w1 = _ from build_one (u8s bs) (by rw [u8s_length]; exact Hl.out) w1)) ⟨(Below.refl _ w1).alloc (Nat.le_refl _) _, _, rfl, Nat.le_trans hW.size hb1.size, World.alloc_heap_new w1 _⟩
      rintro v9 w9 hB9 ⟨g9, rfl, hg9, hr9⟩
      simp only [Act.put, Act.eval, Array.getD_eq_getD_getElem?, List.getElem?_toArray, List.getElem?_cons_zero, List.getElem?_cons_succ, Option.getD_some, List.setIfInBounds_toArray, List.set_cons_succ, List.set_cons_zero]
      have h9 := below_trans hW hB9
      have hD9 := HD1.out.below h9
      have hownV : w9.ownsRow 0 124 128 (b.V i) (y.cache i).length (flat (y.cache i)) := by
        by_cases hm : (i : Int) ∈ y.ks
        · exact (hD9.rows _ hm).2
        · obtain ⟨D, -, -, -, -, h0⟩ := hD9.map.some'
          rw [h0 _ hm, hD9.none' _ hm]
          exact World.ownsRow_nil _ _ _ _
      refine rl_late _ rfl rfl ?_ ?_
      · obtain ⟨v', w', r1, r2, r3, r4⟩ := append_one w9 0 (b.V i) _ _ hownV (by rw [hcy]; exact hver) (Nat.zero_le _) g9 1 (u8s bs) (by rw [u8s_length]; exact Hl.out) hr9 (u8s_one _) 80
        refine makes_of (exec_append (.tmp 29) (.tmp 33) 80 80 rfl (show (Builtin.append_ #[80, 80] 80 #[b.V i, .slice (some ⟨g9, 0, none⟩) 1 1]).run Tryz.prog w9 = _ from r1)) ⟨?_, ?_, ?_, ?_⟩
        · have hx : Ext (fun k => (b.V i).ownBlock = some k) w9 w' := Ext.grown r3 fun k e _ => e
          exact hx.cell_some (below_cell h9 c2) fun e => (hD9.ne2 i _ e).1 rfl
        · rw [flat_append]
          have e1 : flat [bs] = u8s bs := by simp [flat, u8s]
          rw [e1]
          exact r2
        · exact (Ext.of_below h9).trans (Ext.grown (S := fun k => (b.V i).ownBlock = some k) r3 fun k e _ => e) fun k _ e => e
        · intro k hk
          rcases r4 k hk with e | e
          · exact .inl e
          · exact .inr (Nat.le_trans h9.size e)
      rintro v10 w10 hcb ⟨hown, hX10, hbk⟩
      simp only [Act.put, Act.eval, Array.getD_eq_getD_getElem?, List.getElem?_toArray, List.getElem?_cons_zero, List.getElem?_cons_succ, Option.getD_some, List.setIfInBounds_toArray, List.set_cons_succ, List.set_cons_zero]
      refine rl_nil ?_
      have hm10 : CacheAt w10 b.m y.ks b.V := HD1.out.map.keep (hX10.block _ HD1.out.map.lt fun e => (HD1.out.ne2 i _ e).2.2.2 rfl)
      obtain ⟨D, -, -, hnd, -⟩ := HD1.out.map.some'
      have hkl : y.ks.length ≤ 65536 := Nat.le_trans (apart_le y.dur.length y.ks hnd HD1.out.in') HD1.out.lim
      obtain ⟨w11, q1, q2, q3⟩ := hm10.store hkl i hwf v10
      have hiy : i < y.dur.length := by have := Hy.out; rw [goesD_eq] at this; rw [← this]; exact hi
      have hfin := HD1.out.wrote i hiy bs Hl.out v10 hown hX10 hbk q2 q3
      have hall : ∀ k, (b.setV i v10).all k → b.all k ∨ w.heap.size ≤ k := by
        rintro k (rfl | rfl | rfl | rfl | ⟨j, e⟩)
        · exact .inl (.inl rfl)
        · exact .inl (.inr (.inl rfl))
        · exact .inl (.inr (.inr (.inl rfl)))
        · exact .inl (.inr (.inr (.inr (.inl rfl))))
        · simp only [Bks.setV, TT.setV] at e
          split at e
          · rcases hbk k e with e | e
            · exact .inl (.inr (.inr (.inr (.inr ⟨_, e⟩))))
            · exact .inr (Nat.le_trans hX1.size e)
          · exact .inl (.inr (.inr (.inr (.inr ⟨j, e⟩))))
      have hext : Ext b.all w w11 := (hXa.trans (hX10.mono fun k _ e => .inr (.inr (.inr (.inr ⟨_, e⟩)))) fun _ _ e => e).trans (Ext.grown (S := b.all) q3 fun k e _ => by injection e with e; subst e; exact .inr (.inr (.inr (.inl rfl)))) fun _ _ e => e
      have HF := Lib.hid (And.intro hfin (And.intro hall hext))
      refine wpList_unit rfl rfl (exec_mapUpdate 82 (.tmp 22) (.tmp 23) (.tmp 34) rfl (show (Instr.mapUpdate 82 (.map (some b.m)) (.int .i64 (i : Int)) v10).run Tryz.prog w10 = _ from q1)) ?_
      clear hfin hall hext hown hX10 hbk hm10 q1 q2 q3 hcb hownV hD9 hlk harr c2W
      go_wp2_with fail
      go_ret
      exact ⟨b.setV i v10, rfl, HF.out.2.1, HF.out.2.2, .inl ⟨Hgb.out, rfl, by rw [Hy.out]; exact HF.out.1⟩⟩
  · have := congrArg List.length e2
    rw [u8s_length, List.length_nil] at this
    omega
end Go.Proofs.YtbjofbhhnmehgaaGreatDoor.TT
namespace Go.Proofs.YtbjofbhhnmehgaaGreatDoor.TT
open Go.RowKit Go.RG Go.Hp Go.Proofs.YtbjofbhhnmehgaaGreatDoor



/-- a sector settled -/
def setD (x : Dsk) (i : Nat) (s : List Int) (tb : Bool) : Dsk := { x with dur := x.dur.set i s, torn := x.torn.set i tb }
theorem flat_set {m : Nat} : ∀ {l : List (List Int)} (_ : ∀ s ∈ l, s.length = m) {i : Nat} (_ : i < l.length) (s : List Int), flat (l.set i s) = (flat l).take (i * m) ++ u8s s ++ (flat l).drop (i * m + m)
  | [], _, i, hi, _ => by simp at hi
  | t :: l, h, 0, _, s => by
    have ht := h t (List.mem_cons_self ..)
    rw [List.set_cons_zero, flat_cons, flat_cons, Nat.zero_mul, Nat.zero_add, List.take_zero, List.nil_append, List.drop_left' (by rw [u8s_length, ht])]
  | t :: l, h, i + 1, hi, s => by
    have ht := h t (List.mem_cons_self ..)
    have ih := flat_set (fun s hs => h s (List.mem_cons_of_mem _ hs)) (i := i) (by simpa using hi) s
    rw [List.set_cons_succ, flat_cons, flat_cons, ih]
    have e1 : (i + 1) * m = (u8s t).length + i * m := by rw [u8s_length, ht, Nat.add_mul]; omega
    rw [e1, List.take_length_add_append, show (u8s t).length + i * m + m = (u8s t).length + (i * m + m) by omega, List.drop_length_add_append]
    simp only [List.append_assoc]
theorem ext_two {w w' w'' : World} {g t : Nat} (h1 : Ext (· = g) w w') (h2 : Ext (· = t) w' w'') : Ext (fun k => k = g ∨ k = t) w w'' := (h1.mono fun _ _ e => .inl e).trans (h2.mono fun _ _ e => .inr e) fun _ _ e => e
theorem DskAt.settled {w w' : World} {b : Bks} {x : Dsk} (h : DskAt w b x) {i : Nat} (hi : i < x.dur.length) {s : List Int} (hs : s.length = 128) {tb : Bool} (hX : Ext (fun k => k = b.g ∨ k = b.t) w w')
    (hg : Row w' b.g 124 (flat (x.dur.set i s))) (ht : Row w' b.t 4 ((x.torn.set i tb).map Value.bool)) : DskAt w' b (setD x i s tb) := by
  have hk : ∀ k, b.all k → k ≠ b.g → k ≠ b.t → w'.heap[k]? = w.heap[k]? := fun k hk h1 h2 => hX.block k (h.lt k hk) fun e => e.elim h1 h2
  exact { head := by
            show w'.heap[b.d]? = _
            rw [hk b.d (.inl rfl) h.ne1.1 h.ne1.2.1]
            have := h.head
            unfold HeadAt at this
            simpa [setD] using this
          durs := hg, torns := ht, map := h.map.keep (hk _ (.inr (.inr (.inr (.inl rfl)))) (Ne.symm h.ne1.2.2.2.2.1) (Ne.symm h.ne1.2.2.2.2.2)),
          rows := fun j hj => ⟨(h.rows j hj).1, owns_of_block (h.rows j hj).2 fun k e => hk k (.inr (.inr (.inr (.inr ⟨j, e⟩)))) (h.ne2 j k e).2.1 (h.ne2 j k e).2.2.1⟩,
          none' := h.none', len := by simp [setD, h.len], pos := by simp [setD]; exact h.pos, lim := by simp [setD]; exact h.lim, in' := fun j hj => by simpa [setD] using h.in' j hj,
          s128 := fun u hu => by
            rcases List.mem_or_eq_of_mem_set hu with h1 | h1
            · exact h.s128 u h1
            · rw [h1]; exact hs
          c128 := h.c128, ne1 := h.ne1, ne2 := h.ne2, ne3 := h.ne3 }
set_option maxHeartbeats 1000000 in
set_option maxRecDepth 100000 in
theorem settle_any (b : Bks) (x : Dsk) (i : Nat) (hi : i < x.dur.length) (s : List Int) (hs : s.length = 128) (tb : Bool) (w : World) (h : DskAt w b x) :
    Calls Tryz.prog 74 #[.pointer (some ⟨b.d, 0, none⟩), .int .i64 i, .agg (u8s s).toArray, .bool tb] w fun e w' => (∃ v, e = .returned v) ∧ DskAt w' b (setD x i s tb) ∧ Ext (fun k => k = b.g ∨ k = b.t) w w' := by
  have hlim := h.lim
  have hi' : (i : Int) < (x.dur.length : Int) := by omega
  have H := Lib.hid h; clear h
  have Hs := Lib.hid hs; clear hs
  go_enter Tryz.func74, Tryz.ntmps74
  go_wp2_with fail
  have hB0 := below_box w (.cells (u8s s).toArray 124)
  have hr0 : Row (w.alloc (.cells (u8s s).toArray 124)) w.heap.size 124 (u8s s) := row_new w (u8s s) 124
  generalize w.alloc (.cells (u8s s).toArray 124) = w0 at hB0 hr0 ⊢
  have hD0 := H.out.below hB0
  obtain ⟨c0, c1, -⟩ := hD0.head.cells
  have HD0 := Lib.hid hD0; clear hD0
  have Hr0 := Lib.hid hr0; clear hr0
  refine wp_region_late 14 [9, 11] (fun _ => none) (fun _ => True) (fun _ w' => Row w' b.g 124 (flat (x.dur.set i s)) ∧ Ext (· = b.g) w0 w') fol (by kernel_rfl) (fun _ _ _ _ _ => trivial) (fun W hW hh => ?_)
  clear hh
  have q0 : ∀ w1, Below W.heap.size W w1 → w1.cell? ⟨b.d, 0, none⟩ = some (.slice (some ⟨b.g, 0, none⟩) x.dur.length x.dur.length) := fun w1 h => below_cell (below_trans hW h) c0
  have q1 : ∀ w1, Below W.heap.size W w1 → w1.cell? ⟨b.d, 1, none⟩ = some (.slice (some ⟨b.t, 0, none⟩) x.dur.length x.dur.length) := fun w1 h => below_cell (below_trans hW h) c1
  simp only [List.take_succ_cons, List.take_zero, List.drop_succ_cons, List.drop_zero]
  iterate 10 (first
    | (refine rl_move _ (by first | exact Or.inl rfl | exact Or.inr rfl) (by first | exact Or.inl rfl | exact Or.inr rfl) rfl ?_
       simp only [Act.put, Act.eval, Array.getD_eq_getD_getElem?, List.getElem?_toArray, List.getElem?_cons_zero, List.getElem?_cons_succ, Option.getD_some, List.setIfInBounds_toArray, List.set_cons_succ, List.set_cons_zero]
      )
    | (refine rl_small ?_ rfl rfl (fun w1 hb1 hf1 => ?_) ?_
       rotate_left
       (go_simp; (try simp (disch := omega) only [IntWalk.i64_quo, IntWalk.rem_in, IntWalk.i64_in, IntWalk.u64_in, IntWalk.u32_in, IntWalk.u8_in, IntWalk.toNatUp, IntWalk.iteOmega]); (try go_simp); rfl)
       simp only [Act.put, Act.eval, Array.getD_eq_getD_getElem?, List.getElem?_toArray, List.getElem?_cons_zero, List.getElem?_cons_succ, Option.getD_some, List.setIfInBounds_toArray, List.set_cons_succ, List.set_cons_zero]
      )
    | (refine rl_big ?_ rfl rfl (fun w1 hcb1 => ?_) ?_
       rotate_left
       ((try dsimp only at hcb1); go_simp; (try simp (disch := omega) only [IntWalk.i64_quo, IntWalk.rem_in, IntWalk.i64_in, IntWalk.u64_in, IntWalk.u32_in, IntWalk.u8_in, IntWalk.toNatUp, IntWalk.iteOmega]); (try go_simp); rfl)
       simp only [Act.put, Act.eval, Array.getD_eq_getD_getElem?, List.getElem?_toArray, List.getElem?_cons_zero, List.getElem?_cons_succ, Option.getD_some, List.setIfInBounds_toArray, List.set_cons_succ, List.set_cons_zero]
      ))
  refine rl_small (.agg (u8s s).toArray) rfl rfl (fun w1 hb1 hf1 => exec_load (.tmp 6) 124 rfl (show (Instr.loadAt 124 (.pointer (some ⟨w.heap.size, 0, none⟩))).run Tryz.prog w1 = _ from run_load_arr und_sector size_sector w1 ⟨w.heap.size, 0, none⟩ (u8s s) (by rw [u8s_length]; exact Hs.out) (fun j u hu => by
    rw [Addr.add_lit, Nat.zero_add, (Hr0.out.below (below_trans hW hb1)).cell]; exact hu))) ?_
  simp only [Act.put, Act.eval, Array.getD_eq_getD_getElem?, List.getElem?_toArray, List.getElem?_cons_zero, List.getElem?_cons_succ, Option.getD_some, List.setIfInBounds_toArray, List.set_cons_succ, List.set_cons_zero]
  iterate 2 (first
    | (refine rl_move _ (by first | exact Or.inl rfl | exact Or.inr rfl) (by first | exact Or.inl rfl | exact Or.inr rfl) rfl ?_
       simp only [Act.put, Act.eval, Array.getD_eq_getD_getElem?, List.getElem?_toArray, List.getElem?_cons_zero, List.getElem?_cons_succ, Option.getD_some, List.setIfInBounds_toArray, List.set_cons_succ, List.set_cons_zero]
      )
    | (refine rl_small ?_ rfl rfl (fun w1 hb1 hf1 => ?_) ?_
       rotate_left
       (go_simp; (try simp (disch := omega) only [IntWalk.i64_quo, IntWalk.rem_in, IntWalk.i64_in, IntWalk.u64_in, IntWalk.u32_in, IntWalk.u8_in, IntWalk.toNatUp, IntWalk.iteOmega]); (try go_simp); rfl)
       simp only [Act.put, Act.eval, Array.getD_eq_getD_getElem?, List.getElem?_toArray, List.getElem?_cons_zero, List.getElem?_cons_succ, Option.getD_some, List.setIfInBounds_toArray, List.set_cons_succ, List.set_cons_zero]
      )
    | (refine rl_big ?_ rfl rfl (fun w1 hcb1 => ?_) ?_
       rotate_left
       ((try dsimp only at hcb1); go_simp; (try simp (disch := omega) only [IntWalk.i64_quo, IntWalk.rem_in, IntWalk.i64_in, IntWalk.u64_in, IntWalk.u32_in, IntWalk.u8_in, IntWalk.toNatUp, IntWalk.iteOmega]); (try go_simp); rfl)
       simp only [Act.put, Act.eval, Array.getD_eq_getD_getElem?, List.getElem?_toArray, List.getElem?_cons_zero, List.getElem?_cons_succ, Option.getD_some, List.setIfInBounds_toArray, List.set_cons_succ, List.set_cons_zero]
      ))
  have hDW := HD0.out.below hW
  refine rl_late _ rfl rfl ?_ ?_
  · have hfl := flat_length HD0.out.s128
    have hst := run_store_arr (P := Tryz.prog) size_sector W b.g (i * 128) 124 (flat x.dur) (u8s s) hDW.durs (by rw [u8s_length]; exact Hs.out) (by rw [hfl]; omega) (u8s_one _)
    refine makes_skip (exec_store (.tmp 20) (.tmp 18) 124 rfl (show (Instr.storeAt 124 (.pointer (some ⟨b.g, i * 128, none⟩)) (.agg (u8s s).toArray)).run Tryz.prog W = _ from hst)) ⟨trivial, ?_, ?_⟩
    · rw [flat_set HD0.out.s128 hi]
      exact row_put hDW.durs _
    · exact (Ext.of_below hW).trans (ext_setRow W b.g _) fun _ _ e => e
  rintro v9 w9 - ⟨hr9, hX9⟩
  simp only [Act.put, Act.eval, Array.getD_eq_getD_getElem?, List.getElem?_toArray, List.getElem?_cons_zero, List.getElem?_cons_succ, Option.getD_some, List.setIfInBounds_toArray, List.set_cons_succ, List.set_cons_zero]
  refine rl_nil ?_
  have ht9 : Row w9 b.t 4 (x.torn.map Value.bool) := HD0.out.torns.ext hX9 (fun e => HD0.out.ne1.2.2.2.1 e.symm)
  obtain ⟨ob, hob⟩ : ∃ ob, x.torn[i]? = some ob := ⟨_, List.getElem?_eq_getElem (by rw [HD0.out.len]; exact hi)⟩
  have ct : w9.cell? ⟨b.t, i, none⟩ = some (.bool ob) := by rw [ht9.cell]; simp [hob]
  have cf := ht9.frozen i
  have Hr9 := Lib.hid hr9
  have Ht9 := Lib.hid ht9
  clear hr9 ht9 hob q0 q1
  go_wp2_with fail
  refine ⟨rfl, _, results_none rfl _ _ _, ⟨_, rfl⟩, ?_, ?_⟩
  · have hX := ext_two (hX9) (Ext.setCell (S := (· = b.t)) (w := w9) (p := ⟨b.t, i, none⟩) rfl (.bool tb))
    refine HD0.out.settled hi Hs.out hX ?_ ?_
    · exact Hr9.out.ext (Ext.setCell (S := (· = b.t)) (p := ⟨b.t, i, none⟩) rfl _) HD0.out.ne1.2.2.2.1
    · have := row_set (i := i) Ht9.out (.bool tb)
      rwa [← List.map_set] at this
  · exact (Ext.of_below hB0).trans (ext_two hX9 (Ext.setCell (S := (· = b.t)) (w := w9) (p := ⟨b.t, i, none⟩) rfl (.bool tb))) fun _ _ e => e
end Go.Proofs.YtbjofbhhnmehgaaGreatDoor.TT
namespace Go.Proofs.YtbjofbhhnmehgaaGreatDoor.TT
open Go.RowKit Go.RG Go.Hp Go.Proofs.YtbjofbhhnmehgaaGreatDoor Go.ChangeMaps Go.MapKept



/-- a disk some of whose written sectors are settled -/
def someD (x : Dsk) (dn : Int → Bool) : Dsk := { x with dur := x.dur.mapIdx fun i s => if dn i then (x.cache i).getLast?.getD s else s, torn := x.torn.mapIdx fun i t => if dn i then false else t }
/-- .. all of them -/
def flushD (x : Dsk) : Dsk := { someD x (fun i => decide (i ∈ x.ks)) with ks := [], cache := fun _ => [] }
theorem someD_none (x : Dsk) (dn : Int → Bool) (h : ∀ i, dn i = false) : someD x dn = x := by
  have e1 : x.dur.mapIdx (fun i s => if dn i then (x.cache i).getLast?.getD s else s) = x.dur := by
    apply List.ext_getElem?
    intro j
    rw [List.getElem?_mapIdx]
    cases x.dur[j]? <;> simp [h]
  have e2 : x.torn.mapIdx (fun i t => if dn i then false else t) = x.torn := by
    apply List.ext_getElem?
    intro j
    rw [List.getElem?_mapIdx]
    cases x.torn[j]? <;> simp [h]
  unfold someD
  rw [e1, e2]
theorem someD_step (x : Dsk) (dn dn' : Int → Bool) (i : Nat) (s : List Int) (hs : (x.cache i).getLast? = some s) (h : ∀ j : Int, dn' j = (dn j || decide (j = i))) : setD (someD x dn) i s false = someD x dn' := by
  have e1 : (x.dur.mapIdx (fun i s => if dn i then (x.cache i).getLast?.getD s else s)).set i s = x.dur.mapIdx (fun i s => if dn' i then (x.cache i).getLast?.getD s else s) := by
    apply List.ext_getElem?
    intro j
    rw [List.getElem?_set, List.getElem?_mapIdx, List.getElem?_mapIdx, List.length_mapIdx]
    by_cases hij : i = j
    · subst hij
      rw [if_pos rfl]
      by_cases hi : i < x.dur.length
      · rw [if_pos hi, List.getElem?_eq_getElem hi]
        simp [h, hs]
      · rw [if_neg hi, List.getElem?_eq_none (by omega)]
        rfl
    · rw [if_neg hij]
      have : decide ((j : Int) = (i : Int)) = false := by rw [decide_eq_false_iff_not]; omega
      simp [h, this]
  have e2 : (x.torn.mapIdx (fun i t => if dn i then false else t)).set i false = x.torn.mapIdx (fun i t => if dn' i then false else t) := by
    apply List.ext_getElem?
    intro j
    rw [List.getElem?_set, List.getElem?_mapIdx, List.getElem?_mapIdx, List.length_mapIdx]
    by_cases hij : i = j
    · subst hij
      rw [if_pos rfl]
      by_cases hi : i < x.torn.length
      · rw [if_pos hi, List.getElem?_eq_getElem hi]
        simp [h]
      · rw [if_neg hi, List.getElem?_eq_none (by omega)]
        rfl
    · rw [if_neg hij]
      have : decide ((j : Int) = (i : Int)) = false := by rw [decide_eq_false_iff_not]; omega
      simp [h, this]
  unfold setD someD
  simp only [e1, e2]
theorem ranges_keep {w w' : World} {P : Program} {k : TypeId} {R : Value → Option (DataW Value × List MemPlace)} {b r n : Nat} {D : DataW Value} {left : Lit → Bool} {cnt : Nat} (h : w.ranges P k R b r n D left cnt) (hb : w'.heap[b]? = w.heap[b]?) (hr : w'.heap[r]? = w.heap[r]?) : w'.ranges P k R b r n D left cnt := by
  obtain ⟨es, clock, since, seen, c0, h1, h2, h3, h4, h5, h6⟩ := h
  exact ⟨es, clock, since, seen, c0, hb.trans h1, h2, h3, h4, hr.trans h5, h6⟩
theorem cache_empty {w : World} {bm clock : Nat} (h : w.heap[bm]? = some (.map #[] clock)) : CacheAt w bm [] (fun _ => .slice none 0 0) :=
  ⟨⟨.map [], ⟨#[], clock, h, ⟨by simp, stamped_empty clock, by simp⟩, Nat.le_refl _, rfl⟩, rfl, List.nodup_nil, fun i _ => ⟨rfl, by simp [Maps.has]⟩, fun i _ => rfl⟩⟩
theorem run_clear_map {w : World} {bm clock : Nat} {es : Array MapEntry} (h : w.heap[bm]? = some (.map es clock)) (ty : TypeId) : Sem.run Tryz.prog (Builtin.clear_ #[82] ty #[.map (some bm)]) w = .ok (.tuple #[]) (ChangeMaps.setBlock w bm (.map #[] clock)) := by
  have h1 := MapKept.run_getObj_map (P := Tryz.prog) h
  have h2 := MapKept.run_setObj_map (P := Tryz.prog) (.map #[] clock) h
  simp [Builtin.clear_, run_underlying und_cache, h1, h2, ChangeMaps.setBlock, Result.andThen]
set_option maxHeartbeats 1000000 in
set_option maxRecDepth 100000 in
theorem flush_any (b : Bks) (x : Dsk) (w : World) (h : DskAt w b x) (hf : x.fuse ≤ 9223372036854775807 ∧ -1 ≤ x.fuse) :
    Calls Tryz.prog 80 #[.pointer (some ⟨b.d, 0, none⟩)] w fun e w' => ∃ b' : Bks, b'.d = b.d ∧ (∀ k, b'.all k → b.all k) ∧ Ext b.all w w' ∧
      ((goesB x = true ∧ e = .returned (.int .i64 0) ∧ DskAt w' b' (flushD (goesD x))) ∨ (goesB x = false ∧ e = .returned (.int .i64 5) ∧ DskAt w' b' (goesD x))) := by
  have H := Lib.hid h; clear h
  go_enter Tryz.func80, Tryz.ntmps80
  go_wp2_with fail
  refine (made_any b x w H.out.head).mono ?_
  rintro e w' ⟨rfl, rfl⟩
  go_wp2_with fail
  refine (goes_any b x w H.out.head hf).mono ?_
  rintro e wg ⟨rfl, hh1, hX1⟩
  have hD1 := H.out.gone hX1 hh1
  have hXa : Ext b.all w wg := hX1.mono fun k _ hk => .inl hk
  have HD1 := Lib.hid hD1; clear hD1
  cases hgb : goesB x
  · have Hgb := Lib.hid hgb; clear hgb
    go_wp2_with fail
    go_ret
    exact ⟨b, rfl, fun k hk => hk, hXa, .inr ⟨Hgb.out, rfl, HD1.out⟩⟩
  · have Hgb := Lib.hid hgb; clear hgb
    obtain ⟨y, hy⟩ : ∃ y, goesD x = y := ⟨_, rfl⟩
    rw [hy] at HD1 hh1
    have Hy := Lib.hid hy; clear hy
    obtain ⟨-, -, c2, -⟩ := hh1.cells
    clear hh1
    obtain ⟨D, hown, hsz, hnd, hat, hno⟩ := HD1.out.map.some'
    have Hown := Lib.hid hown; clear hown
    have Hat := Lib.hid hat; clear hat
    have K := Maps.int_keyed und_int
    go_wp2_with (refine wpList_range_own _ rfl _ 82 rfl 3 80 K und_cache asIs b.m y.ks.length D rfl Hown.out ?_; intro w0r hrg hgr hrs; have Hrg := Lib.hid hrg; clear hrg)
    simp only [Act.put, Act.eval, Array.getD_eq_getD_getElem?, List.getElem?_toArray, List.getElem?_cons_zero, List.getElem?_cons_succ, Option.getD_some, List.setIfInBounds_toArray, List.set_cons_succ, List.set_cons_zero]
    have hDr : DskAt w0r b y := HD1.out.keep fun k hk => hgr.block k (HD1.out.lt k hk) (by simp)
    have hXr : Ext b.all w w0r := hXa.trans (Ext.grown (S := b.all) hgr fun k e _ => (by cases e)) fun _ _ e => e
    have hall0 : ∀ i : Int, (decide (i ∈ y.ks) && !Maps.has D (.int .i64 i)) = false := fun i => by
      by_cases hi : i ∈ y.ks
      · have h1 := HD1.out.in' i hi
        have h2 := HD1.out.lim
        rw [(Hat.out i (WalkArith.wf_i64 (by omega))).2]
        simp [hi]
      · simp [hi]
    have hlim := HD1.out.lim
    clear c2
    go_loopw [] (fun ww => ∃ (left : Lit → Bool) (cnt : Nat), ww.ranges Tryz.prog 3 asIs b.m wg.heap.size y.ks.length D left cnt ∧ DskAt ww b (someD y fun i => decide (i ∈ y.ks) && !left (.int .i64 i)) ∧ Ext b.all w ww ∧ w0r.heap.size ≤ ww.heap.size)
      (fun ww => ww.rangeLeft b.m wg.heap.size)
    case atStart => exact ⟨_, _, Hrg.out, by rw [someD_none _ _ hall0]; exact hDr, hXr, Nat.le_refl _⟩
    case round =>
      obtain ⟨left, cnt, hrg, hD, hX, hsz1⟩ := hrel
      have hle := hrg.left_eq
      have Hle := Lib.hid hle; clear hle
      clear hDr hXr Hrg
      have HD := Lib.hid hD; clear hD
      go_wp2_with (refine wpList_next_ranges _ rfl _ rfl 3 K asIs (fun i : Int => .int .i64 i) (fun v : Value => v) (fun key kl hk => by obtain ⟨x, rfl, _⟩ := Maps.keyOf_int_inv und_int hk; exact ⟨x, rfl⟩) (fun v _ _ => ⟨v, rfl⟩) b.m wg.heap.size y.ks.length D left cnt rfl hrg ?_ ?_)
      · intro hc0 hl0
        obtain ⟨es, clock, since, seen, c0, hmp, -⟩ := hrg
        have hcl := fun ty => run_clear_map hmp ty
        obtain ⟨-, -, c2, -⟩ := HD.out.head.cells
        have hdn : (fun i : Int => decide (i ∈ y.ks) && !left (.int .i64 i)) = fun i => decide (i ∈ y.ks) := by funext i; simp [hl0]
        rw [hdn] at HD
        have ho : ∀ k, k ≠ b.m → (setBlock wr b.m (.map #[] clock)).heap[k]? = wr.heap[k]? := fun k hk => heap_setBlock_other hmp _ hk
        have hne := HD.out.ne1
        have hfin : DskAt (setBlock wr b.m (.map #[] clock)) { b with V := fun _ => .slice none 0 0 } (flushD y) :=
          { head := by show (setBlock wr b.m (.map #[] clock)).heap[b.d]? = _; rw [ho _ hne.2.2.1]; exact HD.out.head
            durs := by show (setBlock wr b.m (.map #[] clock)).heap[b.g]? = _; rw [ho _ hne.2.2.2.2.1]; exact HD.out.durs
            torns := by show (setBlock wr b.m (.map #[] clock)).heap[b.t]? = _; rw [ho _ hne.2.2.2.2.2]; exact HD.out.torns
            map := cache_empty (heap_setBlock_same hmp _), rows := fun i hi => (by cases hi), none' := fun _ _ => rfl, len := HD.out.len, pos := HD.out.pos, lim := HD.out.lim, in' := fun i hi => (by cases hi), s128 := HD.out.s128, c128 := fun i s hs => (by cases hs),
            ne1 := hne, ne2 := fun i k e => (by cases e), ne3 := fun i j k _ e => (by cases e) }
        have hXf : Ext b.all w (setBlock wr b.m (.map #[] clock)) := hX.trans ⟨rfl, rfl, rfl, by simp [setBlock], fun k _ hk => ho k fun e => hk (by rw [e]; exact .inr (.inr (.inr (.inl rfl))))⟩ fun _ _ e => e
        have HF := Lib.hid (And.intro hfin hXf)
        clear hfin hXf ho hdn hl0
        go_wp2_with fail
        go_ret
        refine ⟨{ b with V := fun _ => .slice none 0 0 }, rfl, ?_, HF.out.2, .inl ⟨Hgb.out, rfl, by rw [Hy.out]; exact HF.out.1⟩⟩
        rintro k (rfl | rfl | rfl | rfl | ⟨i, e⟩)
        · exact .inl rfl
        · exact .inr (.inl rfl)
        · exact .inr (.inr (.inl rfl))
        · exact .inr (.inr (.inr (.inl rfl)))
        · cases e
      · intro i v kl z zp w2 cnt2 hkey hlk hv hat hrg2 hlt hgr2 hsz2 hen
        obtain ⟨i', e1, rfl, hwf⟩ := Maps.keyOf_int_inv und_int hkey
        injection e1 with _ e1
        subst e1
        have hhas := Maps.has_true_of_atKey hat
        have hA := Hat.out i hwf
        rw [hhas] at hA
        have hik : i ∈ y.ks := of_decide_eq_true hA.2.symm
        obtain ⟨n, rfl⟩ := Int.eq_ofNat_of_zero_le (HD1.out.in' i hik).1
        have hnl : n < y.dur.length := by have := (HD1.out.in' _ hik).2; omega
        have hvV : v = b.V n := by
          have h1 := hA.1
          rw [hat] at h1
          unfold asIs at hv
          simp only [Option.some.injEq, Prod.mk.injEq] at hv
          rw [← hv.1] at h1
          injection h1
        subst hvV
        have hD2 : DskAt w2 b (someD y fun i => decide (i ∈ y.ks) && !left (.int .i64 i)) := HD.out.keep fun k hk => hgr2.block k (HD.out.lt k hk) (fun e => by injection e with e; have := HD1.out.lt k hk; omega)
        obtain ⟨hp, hown⟩ := hD2.rows _ hik
        obtain ⟨g', c', hV0, -, -, hc', hcm, hcell, -⟩ := owns_parts hown hp
        obtain ⟨k1, hk1⟩ : ∃ k1, (y.cache (n : Int)).length = k1 + 1 := ⟨(y.cache (n : Int)).length - 1, by have : 0 < (y.cache (n : Int)).length := hp; omega⟩
        obtain ⟨s2, hs2⟩ : ∃ s2, (y.cache (n : Int))[k1]? = some s2 := ⟨_, List.getElem?_eq_getElem (by omega)⟩
        have hfl := flat_length (HD1.out.c128 (n : Int))
        have hsr2 := row_sector (w := w2) (g := g') (i := k1) (l := y.cache (n : Int)) (s := s2) (fun j u hu => by
          rw [hcell j (by have := (List.getElem?_eq_some_iff.1 hu).1; show j < (y.cache (n : Int)).length * 128; omega)]; exact hu) (HD1.out.c128 _) hs2
        have Hsr2 := Lib.hid hsr2
        have hs2l := HD1.out.c128 _ s2 (List.mem_of_getElem? hs2)
        have Hs2l := Lib.hid hs2l
        have hV : b.V (n : Int) = .slice (some ⟨g', 0, none⟩) (k1 + 1) c' := by rw [hV0, ← hk1]; rfl
        have hk9 : k1 ≤ 9223372036854775806 := by
          have h1 : (y.cache (n : Int)).length ≤ c' := hc'
          simp only [maxLen] at hcm
          omega
        have hc9 : k1 + 1 ≤ c' := by
          have h1 : (y.cache (n : Int)).length ≤ c' := hc'
          omega
        have hlast : (y.cache (n : Int)).getLast? = some s2 := by rw [List.getLast?_eq_getElem?, hk1, Nat.add_sub_cancel, hs2]
        rw [hV] at hen ⊢
        have HSt := Lib.hid (settle_any b _ n (by simpa [someD] using hnl) s2 hs2l false w2 hD2)
        have Hlast := Lib.hid hlast
        have HD2 := Lib.hid hD2
        have Hg2 := Lib.hid hrg2
        clear hlast hD2 hV hV0 hsr2 hs2 hfl hcell hc' hcm hown hk1 hp hA hhas hat hv hs2l hrg2 hrg
        go_wp2_with (refine wpList_load_arr rfl _ 124 5 128 rfl und_sector size_sector ⟨g', k1 * 128, none⟩ rfl (u8s s2) (by rw [u8s_length]; exact Hs2l.out) Hsr2.out ?_)
        refine HSt.out.mono ?_
        rintro e w3 ⟨⟨vv, rfl⟩, hD3, hX3⟩
        have HD3 := Lib.hid hD3; clear hD3
        have hbl := HD1.out.lt
        have hz2 : wg.heap.size < w2.heap.size := by omega
        have hm3 : w3.heap[b.m]? = w2.heap[b.m]? := hX3.block _ (HD2.out.lt _ (.inr (.inr (.inr (.inl rfl))))) fun e => e.elim (Ne.symm HD1.out.ne1.2.2.2.2.1) (Ne.symm HD1.out.ne1.2.2.2.2.2)
        have hr3 : w3.heap[wg.heap.size]? = w2.heap[wg.heap.size]? := hX3.block _ hz2 fun e => by
          have h1 := hbl b.g (.inr (.inl rfl))
          have h2 := hbl b.t (.inr (.inr (.inl rfl)))
          omega
        have hrg3 := ranges_keep Hg2.out hm3 hr3
        have hX9 : Ext b.all w w3 := (hX.trans (Ext.grown (S := fun k => k = wg.heap.size) hgr2 fun k e _ => by injection e with e; exact e.symm) (fun k hk e => by
          have := hX1.size
          have e : k = wg.heap.size := e
          omega)).trans (hX3.mono fun k _ e => e.elim (fun e => .inr (.inl e)) fun e => .inr (.inr (.inl e))) fun _ _ e => e
        have hle3 := hrg3.left_eq
        have Hrg3 := Lib.hid hrg3
        have Hle3 := Lib.hid hle3
        clear hrg3 hle3 hm3 hr3
        go_wp2_with fail
        refine ⟨⟨_, _, Hrg3.out, ?_, hX9, by have := hX3.size; omega⟩, ?_⟩
        · have := HD3.out
          rwa [someD_step y _ (fun i => decide (i ∈ y.ks) && !(left (.int .i64 i) && !(Lit.int .i64 i).sameKey (.int .i64 n))) n s2 Hlast.out (fun j => by
            by_cases hj : j = (n : Int)
            · subst hj
              simp [hik, Lit.sameKey]
            · have := Maps.sameKey_ne (a := Lit.int .i64 j) (b := .int .i64 n) (fun e => hj (by injection e))
              simp [this, hj])] at this
        · rw [Hle3.out, Hle.out]
          exact hlt
end Go.Proofs.YtbjofbhhnmehgaaGreatDoor.TT
namespace Go.Proofs.YtbjofbhhnmehgaaGreatDoor.TT
open Go.RowKit Go.RG Go.Hp Go.Proofs.YtbjofbhhnmehgaaGreatDoor



/-- sectors of a record -/
def need (n : Nat) : Nat := if n ≤ 8192 then max 1 ((n + 103) / 104) else 0
theorem need_any (n : Nat) (hn : n ≤ 1099511627776) (w : World) : Calls Tryz.prog 61 #[.int .i64 n] w fun e w' => e = .returned (.int .i64 (need n)) ∧ w = w' := by
  by_cases h : n ≤ 8192
  · have h1 : ¬ (8192 < (n : Int)) := by omega
    have h0 : ¬ ((n : Int) < 0) := by omega
    have hr : (need n : Int) = max 1 (((n : Int) + 103) / 104) := by unfold need; rw [if_pos h]; omega
    have Hr := Lib.hid hr; clear hr
    go_enter Tryz.func61, Tryz.ntmps61
    go_wp2_with fail
    · go_ret
      refine ⟨?_, rfl⟩
      show Ending.returned (.int .i64 _) = _
      rw [Hr.out]
      congr 2
      omega
    · go_ret
      refine ⟨?_, rfl⟩
      show Ending.returned (.int .i64 _) = _
      rw [Hr.out]
      congr 2
      omega
  · have h1 : 8192 < (n : Int) := by omega
    have h0 : ¬ ((n : Int) < 0) := by omega
    have hr : need n = 0 := by unfold need; rw [if_neg h]
    have Hr := Lib.hid hr; clear hr
    go_enter Tryz.func61, Tryz.ntmps61
    go_wp2_with fail
    go_ret
    exact ⟨by rw [Hr.out]; rfl, rfl⟩
/-- zeros alone? -/
def cleanB (bs : List Int) : Bool := bs.all fun b => b == 0
theorem clean_any (v : Value) (bs : List Int) (w : World) (hx : Src w v (u8s bs)) (hl : bs.length ≤ 1099511627776) : Calls Tryz.prog 136 #[v] w fun e w' => e = .returned (.bool (cleanB bs)) ∧ w = w' := by
  obtain ⟨ax, cx, rfl, -⟩ := hx.shape
  obtain ⟨n, hn⟩ : ∃ n, bs.length = n := ⟨_, rfl⟩
  rw [u8s_length, hn] at hx ⊢
  rw [hn] at hl
  have Hn := Lib.hid hn; clear hn
  have Hx := Lib.hid hx; clear hx
  go_enter Tryz.func136, Tryz.ntmps136
  go_wp2_with fail
  go_loopw [7] (fun vi wr => ∃ i : Nat, vi = .int .i64 i ∧ i ≤ n ∧ (∀ b ∈ bs.take i, b = 0) ∧ w = wr) (fun vi _ => n - (intOf vi).toNat)
  case atStart => exact ⟨0, rfl, by omega, by simp, rfl⟩
  case round =>
    obtain ⟨i, rfl, hi, ht, rfl⟩ := hrel
    have Ht := Lib.hid ht; clear ht
    by_cases hlt : i < n
    · have hii : (i : Int) < (n : Int) := by omega
      have hlx : i < bs.length := by rw [Hn.out]; exact hlt
      rcases Hx.out with ⟨g, o, c', e1, -, hr⟩ | ⟨e1, e2⟩
      · injection e1 with e1 _ e3
        subst e1 e3
        have z0 := hr i _ (u8s_get (List.getElem?_eq_getElem hlx))
        obtain ⟨a, ha⟩ : ∃ a, bs[i] = a := ⟨_, rfl⟩
        rw [ha] at z0
        have Ha := Lib.hid ha; clear ha hr
        by_cases h0 : a = 0
        · subst h0
          go_wp2_with fail
          refine ⟨⟨i + 1, by simp, by omega, fun b hb => ?_, by first | rfl | trivial⟩, ?_⟩
          · rw [List.take_add_one, List.getElem?_eq_getElem hlx, Ha.out] at hb
            rcases List.mem_append.1 hb with hb | hb
            · exact Ht.out b hb
            · simpa using hb
          · show n - (((i : Int) + 1).toNat) < n - ((i : Int).toNat)
            omega
        · have h0' : (a != 0) = true := by simp [h0]
          have hc : cleanB bs = false := by
            unfold cleanB
            rw [List.all_eq_false]
            exact ⟨a, by rw [← Ha.out]; exact List.getElem_mem hlx, by simp [h0]⟩
          have Hc := Lib.hid hc; clear hc
          go_wp2_with fail
          go_ret
          rw [Hc.out]
          exact ⟨rfl, rfl⟩
      · have := congrArg List.length e2
        rw [u8s_length, List.length_nil] at this
        omega
    · obtain rfl : i = n := by omega
      have hc : cleanB bs = true := by
        unfold cleanB
        rw [List.all_eq_true]
        intro b hb
        rw [Ht.out b (by rw [List.take_of_length_le (by rw [Hn.out]; exact Nat.le_refl _)]; exact hb)]
        rfl
      have Hc := Lib.hid hc; clear hc
      go_wp2_with fail
      go_ret
      rw [Hc.out]
      exact ⟨rfl, rfl⟩

def placeV (b : Bks) (first size : Int) : Value := .agg #[.pointer (some ⟨b.d, 0, none⟩), .int .i64 first, .int .i64 size]
set_option maxRecDepth 100000 in
theorem fits_yes (b : Bks) (x : Dsk) (first size : Nat) (w : World) (h : DskAt w b x) (h1 : 2 < size) (h2 : first + size ≤ x.dur.length) : Calls Tryz.prog 111 #[placeV b first size] w fun e w' => e = .returned (.bool true) ∧ Below w.heap.size w w' := by
  have hlim := h.lim
  have hb := below_box w (.cells #[.pointer (some ⟨b.d, 0, none⟩), .int .i64 first, .int .i64 size] 126)
  have HS := Lib.hid (sectors_any b x _ (h.below hb).head)
  have q1 : (2 : Int) < (size : Int) := by omega
  have q2 : (size : Int) ≤ (x.dur.length : Int) := by omega
  have q3 : (0 : Int) ≤ (first : Int) := by omega
  have q4 : (first : Int) ≤ (x.dur.length : Int) - (size : Int) := by omega
  clear h
  unfold placeV
  go_enter Tryz.func111, Tryz.ntmps111
  go_wp2_with fail
  refine HS.out.mono ?_
  rintro e w' ⟨rfl, rfl⟩
  go_wp2_with fail
  go_ret
  exact ⟨rfl, hb⟩
/-- may something be done on these sectors? -/
def readyE (x : Dsk) : Int := if x.off then 5 else 0
set_option maxRecDepth 100000 in
theorem ready_any (b : Bks) (x : Dsk) (first size : Nat) (w : World) (h : DskAt w b x) (h1 : 2 < size) (h2 : first + size ≤ x.dur.length) : Calls Tryz.prog 76 #[placeV b first size] w fun e w' => e = .returned (.int .i64 (readyE x)) ∧ Below w.heap.size w w' := by
  have hb := below_box w (.cells #[.pointer (some ⟨b.d, 0, none⟩), .int .i64 first, .int .i64 size] 126)
  have g0 := World.alloc_heap_new w (.cells #[.pointer (some ⟨b.d, 0, none⟩), .int .i64 first, .int .i64 size] 126)
  have HF := Lib.hid (fits_yes b x first size _ (h.below hb) h1 h2)
  have H := Lib.hid h; clear h
  have hr : ∀ o : Bool, x.off = o → readyE x = if o then 5 else 0 := fun o h => by unfold readyE; rw [h]
  have Hr := Lib.hid hr; clear hr
  unfold placeV at HF ⊢
  go_enter Tryz.func76, Tryz.ntmps76
  go_wp2_with fail
  generalize w.alloc (.cells #[.pointer (some ⟨b.d, 0, none⟩), .int .i64 first, .int .i64 size] 126) = w1 at hb g0 HF ⊢
  refine HF.out.mono ?_
  rintro e w2 ⟨rfl, hb2⟩
  have hB2 := hb.trans (hb2.mono hb.size)
  have g2 := below_heap hb2 g0
  have c0 : w2.cell? ⟨w.heap.size, 0, none⟩ = some (.pointer (some ⟨b.d, 0, none⟩)) := by simp [World.cell?, g2]
  have HD := Lib.hid (down_any b x w2 (H.out.below hB2).head)
  clear g0 g2
  go_wp2_with fail
  refine HD.out.mono ?_
  rintro e w' ⟨rfl, rfl⟩
  cases ho : x.off
  · have Ho := Lib.hid ho; clear ho
    go_wp2_with fail
    go_ret
    exact ⟨by rw [Hr.out _ Ho.out]; rfl, hB2⟩
  · have Ho := Lib.hid ho; clear ho
    go_wp2_with fail
    go_ret
    exact ⟨by rw [Hr.out _ Ho.out]; rfl, hB2⟩
/-- the sector of a number -/
def ringN (first size : Nat) (n : Nat) : Nat := first + 2 + n % (size - 2)
set_option maxRecDepth 100000 in
theorem ring_any (d : Option Addr) (first size n : Nat) (w : World) (h1 : 2 < size) (h2 : first ≤ 65536) (h3 : size ≤ 65536) (hn : n < 18446744073709551616) : Calls Tryz.prog 85 #[.agg #[.pointer d, .int .i64 first, .int .i64 size], .int .u64 n] w fun e w' => e = .returned (.int .i64 (ringN first size n)) ∧ Below w.heap.size w w' := by
  obtain ⟨k, rfl⟩ : ∃ k, size = k + 2 := ⟨size - 2, by omega⟩
  have hk : (((k + 2 : Nat) : Int) - 2) = (k : Int) := by omega
  have hk0 : (0 : Int) < (k : Int) := by omega
  have hr : (ringN first (k + 2) n : Int) = (first : Int) + 2 + (n : Int) % (k : Int) := by unfold ringN; rw [Nat.add_sub_cancel]; push_cast; rfl
  have Hr := Lib.hid hr; clear hr
  have hm0 : (0 : Int) ≤ (n : Int) % (k : Int) := Int.emod_nonneg _ (by omega)
  have hm1 : (n : Int) % (k : Int) < (k : Int) := Int.emod_lt_of_pos _ (by omega)
  have q2 := IntWalk.i64_in ((n : Int) % (k : Int)) (by omega)
  have q3 := IntWalk.i64_in ((first : Int) + 2 + (n : Int) % (k : Int)) (by omega)
  have hb := below_box w (.cells #[.pointer d, .int .i64 first, .int .i64 ((k : Int) + 2)] 126)
  have g0 := World.alloc_heap_new w (.cells #[.pointer d, .int .i64 first, .int .i64 ((k : Int) + 2)] 126)
  go_enter Tryz.func85, Tryz.ntmps85
  go_wp2_with fail
  generalize w.alloc (.cells #[.pointer d, .int .i64 first, .int .i64 ((k : Int) + 2)] 126) = w1 at hb g0 ⊢
  have c1 : w1.cell? ⟨w.heap.size, 1, none⟩ = some (.int .i64 first) := by simp [World.cell?, g0]
  have c2 : w1.cell? ⟨w.heap.size, 2, none⟩ = some (.int .i64 ((k : Int) + 2)) := by simp [World.cell?, g0]
  have q1 := IntWalk.i64_in ((first : Int) + 2) (by omega)
  refine wp_region_rg (fun _ => none) fol (by kernel_rfl) (fun W hW hh => ?_)
  clear hh
  have r1 : ∀ w2, Below W.heap.size W w2 → w2.cell? ⟨w.heap.size, 1, none⟩ = some (.int .i64 first) := fun w2 h => below_cell (below_trans hW h) c1
  have r2 : ∀ w2, Below W.heap.size W w2 → w2.cell? ⟨w.heap.size, 2, none⟩ = some (.int .i64 ((k : Int) + 2)) := fun w2 h => below_cell (below_trans hW h) c2
  repeat ((first | refine lex_move _ (by first | exact Or.inl rfl | exact Or.inr rfl) rfl rfl ?_ | (refine lex_float ?_ rfl rfl (fun w1 hb1 hf1 => ?_) ?_; rotate_left; (go_simp; (try simp (disch := omega) only [IntWalk.i64_quo, IntWalk.rem_in, IntWalk.i64_in, IntWalk.u64_in, IntWalk.u32_in, IntWalk.u8_in, IntWalk.toNatUp, IntWalk.iteOmega]); (try go_simp); rfl)) | refine lex_skip rfl ?_); simp only [Act.put, Act.eval, Array.getD_eq_getD_getElem?, List.getElem?_toArray, List.getElem?_cons_zero, List.getElem?_cons_succ, Option.getD_some, List.setIfInBounds_toArray, List.set_cons_succ, List.set_cons_zero])
  refine lex_nil ?_
  clear r1 r2
  go_wp2_with fail
  go_ret
  exact ⟨by rw [Hr.out]; rfl, hb.trans (hW.mono hb.size)⟩
end Go.Proofs.YtbjofbhhnmehgaaGreatDoor.TT
namespace Go.Proofs.YtbjofbhhnmehgaaGreatDoor.TT
open Go.RowKit Go.RG Go.Hp Go.Proofs.YtbjofbhhnmehgaaGreatDoor



/-- so many bytes of a number, the lowest first -/
def leBytes (v : Int) : Nat → List Int
  | 0 => []
  | n + 1 => leBytes v n ++ [v / 256 ^ n % 256]
theorem leBytes_length (v : Int) (n : Nat) : (leBytes v n).length = n := by induction n with
  | zero => rfl
  | succ n ih => simp [leBytes, ih]
/-- a text with a field laid -/
def layF (L : List Value) (at' : Nat) (D : List Int) : List Value := L.take at' ++ u8s D ++ L.drop (at' + D.length)
theorem layF_length {L : List Value} {at' : Nat} {D : List Int} (h : at' + D.length ≤ L.length) : (layF L at' D).length = L.length := by
  unfold layF
  simp [u8s]
  omega
theorem layF_step {L : List Value} {at' : Nat} {D : List Int} (b : Int) (h : at' + D.length < L.length) : (layF L at' D).set (at' + D.length) (.int .u8 b) = layF L at' (D ++ [b]) := by
  have e1 : (L.take at' ++ u8s D).length = at' + D.length := by simp [u8s]; omega
  have e2 : L.drop (at' + D.length) = L[at' + D.length] :: L.drop (at' + D.length + 1) := List.drop_eq_getElem_cons h
  unfold layF
  rw [List.set_append_right _ _ (by rw [e1]; exact Nat.le_refl _), e1, Nat.sub_self, e2, List.set_cons_zero, u8s_append, List.length_append, ← Nat.add_assoc]
  simp [u8s]
theorem two_byte (i : Nat) : (2 : Int) ^ (8 * i) = 256 ^ i := by rw [Int.pow_mul]; rfl
set_option maxHeartbeats 1000000 in
set_option maxRecDepth 100000 in
theorem put_any (g c at' n : Nat) (v : Int) (hv0 : 0 ≤ v) (hv : v < 18446744073709551616) (L : List Value) (hl : at' + n ≤ L.length) (hL : L.length ≤ 1024) (hn : n ≤ 8) (hc : L.length ≤ c) (w : World) (h : Row w g 5 L) :
    Calls Tryz.prog 117 #[.agg #[.int .i64 at', .int .i64 n], .slice (some ⟨g, 0, none⟩) L.length c, .int .u64 v] w fun e w' => (∃ t, e = .returned t) ∧ Row w' g 5 (layF L at' (leBytes v n)) ∧ Ext (· = g) w w' := by
  have hg := h.lt
  have hb := below_box w (.cells #[.int .i64 at', .int .i64 n] 175)
  have g0 := World.alloc_heap_new w (.cells #[.int .i64 at', .int .i64 n] 175)
  have h0 := h.below hb
  obtain ⟨m, hm⟩ : ∃ m, L.length = m := ⟨_, rfl⟩
  rw [hm] at hl hL hc ⊢
  have Hm := Lib.hid hm; clear hm h
  go_enter Tryz.func117, Tryz.ntmps117
  go_wp2_with fail
  generalize w.alloc (.cells #[.int .i64 at', .int .i64 n] 175) = w1 at hb g0 h0 ⊢
  have Hg0 := Lib.hid g0; clear g0
  go_loopw [9] (fun vi wr => ∃ i : Nat, vi = .int .i64 i ∧ i ≤ n ∧ Row wr g 5 (layF L at' (leBytes v i)) ∧ wr.heap[w.heap.size]? = some (.cells #[.int .i64 at', .int .i64 n] 175 (0, 0)) ∧ Ext (· = g) w wr) (fun vi _ => n - (intOf vi).toNat)
  case atStart => exact ⟨0, rfl, by omega, by simpa [layF, leBytes, u8s] using h0, Hg0.out, Ext.of_below hb⟩
  case round =>
    obtain ⟨i, rfl, hi, hr, hf, hX⟩ := hrel
    clear h0
    by_cases hlt : i < n
    · have hii : (i : Int) < (n : Int) := by omega
      have c0 : wr.cell? ⟨w.heap.size, 0, none⟩ = some (.int .i64 at') := by simp [World.cell?, hf]
      have Hr := Lib.hid hr; clear hr
      have Hf := Lib.hid hf; clear hf
      go_wp2_with fail
      refine wp_region_rg_tail 11 (fun _ => none) fol (by kernel_rfl) (fun W hW hh => ?_)
      clear hh
      have r1 : ∀ w2, Below W.heap.size W w2 → w2.cell? ⟨w.heap.size, 0, none⟩ = some (.int .i64 at') := fun w2 h => below_cell (below_trans hW h) c0
      simp only [List.take_succ_cons, List.take_zero, List.drop_succ_cons, List.drop_zero]
      repeat ((first | refine lex_move _ (by first | exact Or.inl rfl | exact Or.inr rfl) rfl rfl ?_ | (refine lex_float ?_ rfl rfl (fun w1 hb1 hf1 => ?_) ?_; rotate_left; (go_simp; (try simp (disch := omega) only [IntWalk.i64_quo, IntWalk.rem_in, IntWalk.i64_in, IntWalk.u64_in, IntWalk.u32_in, IntWalk.u8_in, IntWalk.toNatUp, IntWalk.iteOmega]); (try go_simp); rfl)) | refine lex_skip rfl ?_); simp only [Act.put, Act.eval, Array.getD_eq_getD_getElem?, List.getElem?_toArray, List.getElem?_cons_zero, List.getElem?_cons_succ, Option.getD_some, List.setIfInBounds_toArray, List.set_cons_succ, List.set_cons_zero])
      refine lex_nil ?_
      clear r1
      have hlen : (layF L at' (leBytes v i)).length = m := by rw [layF_length (by rw [leBytes_length, Hm.out]; omega), Hm.out]
      have hrW := Hr.out.below hW
      obtain ⟨u, hu⟩ : ∃ u, (layF L at' (leBytes v i))[at' + i]? = some u := ⟨_, List.getElem?_eq_getElem (by rw [hlen]; omega)⟩
      have c1 : W.cell? ⟨g, at' + i, none⟩ = some u := by rw [hrW.cell, hu]
      have f1 : W.frozen? ⟨g, at' + i, none⟩ = false := hrW.frozen _
      have HrW := Lib.hid hrW; clear hrW
      have Hlen := Lib.hid hlen; clear hlen hu
      go_wp2_with fail
      refine ⟨⟨i + 1, by simp, by omega, ?_, ?_, ?_⟩, ?_⟩
      · have := row_set HrW.out (i := at' + i) (.int .u8 (v / 2 ^ (8 * i) % 256))
        rw [two_byte] at this ⊢
        have e := layF_step (L := L) (at' := at') (D := leBytes v i) (v / 256 ^ i % 256) (by rw [leBytes_length, Hm.out]; omega)
        rw [leBytes_length] at e
        rw [e] at this
        exact this
      · rw [Below.heap_setCell _ _ _ _ (by intro h; subst h; exact Nat.lt_irrefl _ hg)]
        exact below_heap hW Hf.out
      · exact (hX.trans (Ext.of_below (S := (· = g)) hW) (fun _ _ h => h)).trans (Ext.setCell (S := (· = g)) rfl _) (fun _ _ h => h)
      · show n - (((i : Int) + 1).toNat) < n - ((i : Int).toNat)
        omega
    · obtain rfl : i = n := by omega
      have Hr := Lib.hid hr; clear hr
      have Hf := Lib.hid hf; clear hf
      go_wp2_with fail
      exact ⟨rfl, _, results_none rfl _ _ _, ⟨_, rfl⟩, Hr.out, hX⟩
/-- a number of bytes, the lowest first -/
def leNum : List Int → Int
  | [] => 0
  | b :: r => b + 256 * leNum r
def isBytes (bs : List Int) : Prop := ∀ b ∈ bs, 0 ≤ b ∧ b < 256
theorem leNum_append (a b : List Int) : leNum (a ++ b) = leNum a + 256 ^ a.length * leNum b := by induction a with
  | nil => simp [leNum]
  | cons x r ih => simp only [List.cons_append, leNum, ih, List.length_cons, Int.pow_succ]; rw [Int.mul_add, Int.add_assoc, ← Int.mul_assoc, Int.mul_comm 256 (256 ^ r.length)]
theorem leNum_bounds {a : List Int} (h : isBytes a) : 0 ≤ leNum a ∧ leNum a < 256 ^ a.length := by induction a with
  | nil => exact ⟨Int.le_refl _, by decide⟩
  | cons x r ih =>
    have h1 := ih (fun b hb => h b (List.mem_cons_of_mem _ hb))
    have h2 := h x (List.mem_cons_self ..)
    simp only [leNum, List.length_cons, Int.pow_succ]
    omega
theorem isBytes.take {a : List Int} (h : isBytes a) (n : Nat) : isBytes (a.take n) := fun b hb => h b (List.mem_of_mem_take hb)
theorem isBytes.drop {a : List Int} (h : isBytes a) (n : Nat) : isBytes (a.drop n) := fun b hb => h b (List.mem_of_mem_drop hb)
theorem isBytes.append {a b : List Int} (h : isBytes a) (k : isBytes b) : isBytes (a ++ b) := fun x hx => (List.mem_append.1 hx).elim (h x) (k x)
/-- a field's bytes -/
def fieldOf (bs : List Int) (at' n : Nat) : List Int := (bs.drop at').take n
def getF (bs : List Int) (at' n : Nat) : Int := leNum (fieldOf bs at' n)
theorem pow256 : ∀ i : Nat, i ≤ 7 → (256 : Int) ^ i * 256 ≤ 18446744073709551616 := by decide
theorem getF_step {bs : List Int} {at' i : Nat} {b : Int} (hb : isBytes bs) (h : bs[at' + i]? = some b) (hi : i < 8) :
    bits .or .u64 (getF bs at' i) (IntKind.u64.wrap (b * 2 ^ (8 * i))) = getF bs at' (i + 1) := by
  have hlt : at' + i < bs.length := by
    rcases Nat.lt_or_ge (at' + i) bs.length with h1 | h1
    · exact h1
    · rw [List.getElem?_eq_none h1] at h; cases h
  have e1 : (fieldOf bs at' i).length = i := by simp [fieldOf]; omega
  have e2 : fieldOf bs at' (i + 1) = fieldOf bs at' i ++ [b] := by
    unfold fieldOf
    rw [List.take_add_one]
    congr 1
    rw [List.getElem?_drop, h]
    rfl
  have e3 : getF bs at' (i + 1) = getF bs at' i + 256 ^ i * b := by
    unfold getF
    rw [e2, leNum_append, e1]
    simp [leNum]
  have hB := leNum_bounds ((hb.drop at').take i)
  rw [show (List.take i (List.drop at' bs)) = fieldOf bs at' i from rfl, e1] at hB
  have hb1 := hb b (List.mem_of_getElem? h)
  have hp := pow256 i (by omega)
  have hp0 : (0 : Int) < 256 ^ i := Int.pow_pos (by decide)
  have hm1 : (256 : Int) ^ i * b ≤ 256 ^ i * 255 := Int.mul_le_mul_of_nonneg_left (by omega) (by omega)
  have hm0 : (0 : Int) ≤ 256 ^ i * b := Int.mul_nonneg (by omega) hb1.1
  rw [e3, two_byte, Int.mul_comm b]
  rw [wraps_u64 _ hm0 (by omega)]
  refine bits_join_low .u64 64 (by decide) wraps_u64 (8 * i) _ _ hB.1 ?_ ?_ hm0 ?_ ?_
  · rw [two_byte]; exact hB.2
  · have := hB.2
    unfold getF
    omega
  · rw [two_byte]; exact Int.mul_emod_right _ _
  · omega
set_option maxHeartbeats 1000000 in
set_option maxRecDepth 100000 in
theorem get_any (at' n : Nat) (v : Value) (bs : List Int) (hb : isBytes bs) (hl : at' + n ≤ bs.length) (hL : bs.length ≤ 1024) (hn : n ≤ 8) (w : World) (h : Src w v (u8s bs)) :
    Calls Tryz.prog 137 #[.agg #[.int .i64 at', .int .i64 n], v] w fun e w' => e = .returned (.int .u64 (getF bs at' n)) ∧ Below w.heap.size w w' := by
  have hB0 := below_box w (.cells #[.int .i64 at', .int .i64 n] 175)
  have g0 := World.alloc_heap_new w (.cells #[.int .i64 at', .int .i64 n] 175)
  have h0 := h.below hB0
  obtain ⟨ax, cx, rfl, -⟩ := h.shape
  obtain ⟨m, hm⟩ : ∃ m, bs.length = m := ⟨_, rfl⟩
  rw [u8s_length, hm] at h0 h ⊢
  rw [hm] at hl hL
  have Hm := Lib.hid hm; clear hm h
  have Hb := Lib.hid hb; clear hb
  go_enter Tryz.func137, Tryz.ntmps137
  go_wp2_with fail
  generalize w.alloc (.cells #[.int .i64 at', .int .i64 n] 175) = w1 at hB0 g0 h0 ⊢
  have c0 : w1.cell? ⟨w.heap.size, 0, none⟩ = some (.int .i64 at') := by simp [World.cell?, g0]
  have Hx := Lib.hid h0; clear g0 h0
  go_loopw [4, 8] (fun vv vi wr => ∃ i : Nat, vi = .int .i64 i ∧ i ≤ n ∧ vv = .int .u64 (getF bs at' i) ∧ w1 = wr) (fun _ vi _ => n - (intOf vi).toNat)
  case atStart => exact ⟨0, rfl, by omega, rfl, rfl⟩
  case round =>
    obtain ⟨i, rfl, hi, rfl, rfl⟩ := hrel
    by_cases hlt : i < n
    · have hii : (i : Int) < (n : Int) := by omega
      have hlx : at' + i < bs.length := by rw [Hm.out]; omega
      have hm' : at' + i < m := by omega
      rcases Hx.out with ⟨g, o, c', e1, -, hr⟩ | ⟨e1, e2⟩
      · injection e1 with e1 _ e3
        subst e1 e3
        have z0 := hr (at' + i) _ (u8s_get (List.getElem?_eq_getElem hlx))
        obtain ⟨b, hb⟩ : ∃ b, bs[at' + i] = b := ⟨_, rfl⟩
        rw [hb] at z0
        have hst := getF_step (at' := at') (i := i) (b := b) Hb.out (by rw [List.getElem?_eq_getElem hlx, hb]) (by omega)
        have Hst := Lib.hid hst
        have hb' := hb
        clear hr hb hst
        have hb2 := Hb.out bs[at' + i] (List.getElem_mem hlx)
        have hw := wraps_u64 bs[at' + i] hb2.1 (by omega)
        rw [hb'] at hw
        have Hw := Lib.hid hw
        clear hb2 hw hb'
        go_wp2_with fail
        rw [Hw.out, Hst.out]
        refine ⟨⟨i + 1, by simp, by omega, rfl, trivial⟩, ?_⟩
        show n - (((i : Int) + 1).toNat) < n - ((i : Int).toNat)
        omega
      · have := congrArg List.length e2
        rw [u8s_length, List.length_nil] at this
        omega
    · obtain rfl : i = n := by omega
      go_wp2_with fail
      go_ret
      exact ⟨rfl, hB0⟩
end Go.Proofs.YtbjofbhhnmehgaaGreatDoor.TT
namespace Go.Proofs.YtbjofbhhnmehgaaGreatDoor.TT
open Go.RowKit Go.RG Go.Hp Go.Proofs.YtbjofbhhnmehgaaGreatDoor



/-- one field's cells -/
def FieldAt (w : World) (g at' n : Nat) : Prop := w.cell? ⟨g, 0, none⟩ = some (.int .i64 at') ∧ w.cell? ⟨g, 1, none⟩ = some (.int .i64 n)
theorem FieldAt.below {w w' : World} {g a n : Nat} (h : FieldAt w g a n) (hb : Below w.heap.size w w') : FieldAt w' g a n := ⟨below_cell hb h.1, below_cell hb h.2⟩
/-- what lies in the package's variables -/
structure Pkg (w : World) : Prop where
  tab : Tab w
  number : FieldAt w 0 4 6
  pieceEpoch : FieldAt w 1 10 6
  bytes : FieldAt w 2 16 2
  index : FieldAt w 3 18 2
  size : FieldAt w 4 28 4
  generation : FieldAt w 5 4 6
  headEpoch : FieldAt w 6 10 6
  first : FieldAt w 7 16 6
  least : FieldAt w 8 22 6
theorem Pkg.below {w w' : World} (h : Pkg w) (hb : Below w.heap.size w w') : Pkg w' :=
  ⟨h.tab.below hb, h.number.below hb, h.pieceEpoch.below hb, h.bytes.below hb, h.index.below hb, h.size.below hb, h.generation.below hb, h.headEpoch.below hb, h.first.below hb, h.least.below hb⟩

/-- bytes with others laid over -/
def layB (bs : List Int) (at' : Nat) (D : List Int) : List Int := bs.take at' ++ D ++ bs.drop (at' + D.length)
theorem layB_u8s (bs : List Int) (at' : Nat) (D : List Int) : u8s (layB bs at' D) = layF (u8s bs) at' D := by
  unfold layB layF
  rw [u8s_append, u8s_append, u8s_take, u8s_drop]
theorem layB_length {bs : List Int} {at' : Nat} {D : List Int} (h : at' + D.length ≤ bs.length) : (layB bs at' D).length = bs.length := by
  unfold layB
  simp
  omega
theorem leBytes_isBytes (v : Int) (n : Nat) : isBytes (leBytes v n) := by induction n with
  | zero => intro b hb; cases hb
  | succ n ih =>
    refine ih.append fun b hb => ?_
    rw [List.mem_singleton] at hb
    subst hb
    exact ⟨Int.emod_nonneg _ (by decide), Int.emod_lt_of_pos _ (by decide)⟩
theorem isBytes.lay {bs D : List Int} {at' : Nat} (h : isBytes bs) (k : isBytes D) : isBytes (layB bs at' D) := ((h.take _).append k).append (h.drop _)
theorem put_b (g at' n : Nat) (v : Int) (hv0 : 0 ≤ v) (hv : v < 18446744073709551616) (bs : List Int) (m c : Nat) (hm : bs.length = m) (hl : at' + n ≤ m) (hL : m ≤ 1024) (hn : n ≤ 8) (hc : m ≤ c) (w : World) (h : Row w g 5 (u8s bs)) :
    Calls Tryz.prog 117 #[.agg #[.int .i64 at', .int .i64 n], .slice (some ⟨g, 0, none⟩) m c, .int .u64 v] w fun e w' => (∃ t, e = .returned t) ∧ Row w' g 5 (u8s (layB bs at' (leBytes v n))) ∧ Ext (· = g) w w' := by
  have hlen : (u8s bs).length = m := by rw [u8s_length, hm]
  have := put_any g c at' n v hv0 hv (u8s bs) (by omega) (by omega) hn (by omega) w h
  rw [hlen] at this
  refine this.mono ?_
  rintro e w' ⟨h1, h2, h3⟩
  exact ⟨h1, by rw [layB_u8s]; exact h2, h3⟩
def zeros (n : Nat) : List Int := List.replicate n 0
theorem zeros_length (n : Nat) : (zeros n).length = n := List.length_replicate
theorem zeros_isBytes (n : Nat) : isBytes (zeros n) := fun b hb => by rw [List.eq_of_mem_replicate hb]; exact ⟨Int.le_refl _, by decide⟩
set_option maxRecDepth 100000 in
theorem make_bytes (n : Nat) (hn : n ≤ 65536) (w : World) : Sem.run Tryz.prog (Instr.makeSlice 52 (.int .i64 n) (.int .i64 n)) w = .ok (.slice (some ⟨w.heap.size, 0, none⟩) n n) (w.alloc (.cells (u8s (zeros n)).toArray 5)) := by
  obtain ⟨i0, hi, hz0, hz1, hz2⟩ := info_parts info_byte
  have := run_make (P := Tryz.prog) w 52 5 i0 (.int .u8 0) und_bytes hi hz0 .i64 .i64 (n : Int) (n : Int) (by omega) (by omega) (by rw [hz2]; omega) (by omega)
  rw [this, hz1]
  simp only [Int.toNat_natCast, Nat.mul_one]
  congr 3
  apply Array.ext'
  have h2 := toList_madeCells_one (.int .u8 0) n
  simpa [u8s, zeros, Value.cells] using h2
theorem make_text (w : World) : Sem.run Tryz.prog (Instr.makeSlice 52 (.int .i64 124) (.int .i64 124)) w = .ok (.slice (some ⟨w.heap.size, 0, none⟩) 124 124) (w.alloc (.cells (u8s (zeros 124)).toArray 5)) := make_bytes 124 (by decide) w
def headMark : List Int := [104, 108, 121, 72]
def pieceMark : List Int := [104, 108, 121, 80]
set_option maxRecDepth 100000 in
theorem copy_mark (w : World) (g : Nat) (s : ByteArray) (M : List Int) (hs : s.size = 4) (hM : Lib.byteCells s.data.toList = u8s M) (h : Row w g 5 (u8s (zeros 124))) :
    Sem.run Tryz.prog (Builtin.copy_ #[52, 9] 3 #[.slice (some ⟨g, 0, none⟩) 124 124, .string s]) w = .ok (.int .i64 4) (w.setRow g (u8s (M ++ zeros 120)).toArray) := by
  obtain ⟨i0, hi, hz0, hz1, hz2⟩ := info_parts info_byte
  have h1 := Lib.run_copy_row_string (P := Tryz.prog) w 52 9 3 5 g 0 124 124 s (u8s (zeros 124)).toArray 5 und_bytes (by rw [hi, Option.map_some, hz1]) h (by omega) (by rw [hs]; simp [u8s_length, zeros_length])
  rw [h1, hs, hM]
  congr 3
  simp only [List.take_zero, List.nil_append, Nat.zero_add, u8s_append]
  congr 1
/-- while a text is made -/
structure Making (w0 w : World) (box : Obj) (bs : List Int) : Prop where
  row : Row w (w0.heap.size + 1) 5 (u8s bs)
  len : bs.length = 124
  bytes : isBytes bs
  below : Below w0.heap.size w0 w
  box : w.heap[w0.heap.size]? = some box
theorem Making.put {w0 w w' : World} {box : Obj} {bs : List Int} (h : Making w0 w box bs) (at' : Nat) (D : List Int) (hD : isBytes D) (hl : at' + D.length ≤ 124) (hr : Row w' (w0.heap.size + 1) 5 (u8s (layB bs at' D))) (hX : Ext (· = w0.heap.size + 1) w w') : Making w0 w' box (layB bs at' D) where
  row := hr
  len := by rw [layB_length (by rw [h.len]; exact hl), h.len]
  bytes := h.bytes.lay hD
  below := h.below.trans (hX.to_belowAt h.below.size fun k hk => by omega)
  box := hX.heap h.box (by omega)
theorem making_new (w : World) (box : Obj) (M : List Int) (hM : M.length = 4) (hb : isBytes M) : Making w (((w.alloc box).alloc (.cells (u8s (zeros 124)).toArray 5)).setRow (w.heap.size + 1) (u8s (M ++ zeros 120)).toArray) box (M ++ zeros 120) := by
  obtain ⟨h1, h2, h3⟩ := allocs2 w box (.cells (u8s (zeros 124)).toArray 5)
  have hX := ext_setRow ((w.alloc box).alloc (.cells (u8s (zeros 124)).toArray 5)) (w.heap.size + 1) (u8s (M ++ zeros 120)).toArray
  exact ⟨row_put h3 _, by simp [hM, zeros_length], hb.append (zeros_isBytes _), h1.trans (hX.to_belowAt h1.size fun k hk => by omega), hX.heap h2 (by omega)⟩
structure Head where
  gen : Nat
  epoch : Nat
  first : Nat
  least : Nat
def headV (h : Head) : Value := .agg #[.int .u64 h.gen, .int .u64 h.epoch, .int .u64 h.first, .int .u64 h.least]
/-- a head's text without its seal -/
def headRaw (h : Head) (size : Nat) : List Int := layB (layB (layB (layB (layB (headMark ++ zeros 120) 4 (leBytes h.gen 6)) 10 (leBytes h.epoch 6)) 16 (leBytes h.first 6)) 22 (leBytes h.least 6)) 28 (leBytes size 4)
def sealed' (bs : List Int) : List Int := bs ++ sealOf bs
theorem marks_isBytes : isBytes headMark ∧ isBytes pieceMark := by
  constructor <;> (intro b hb; simp [headMark, pieceMark] at hb; omega)
theorem box4 {w : World} {g : Nat} {a b c d : Value} {t : TypeId} (h : w.heap[g]? = some (.cells #[a, b, c, d] t (0, 0))) : w.cell? ⟨g, 0, none⟩ = some a ∧ w.cell? ⟨g, 1, none⟩ = some b ∧ w.cell? ⟨g, 2, none⟩ = some c ∧ w.cell? ⟨g, 3, none⟩ = some d := by
  simp [World.cell?, h]
theorem Making.src {w0 w : World} {box : Obj} {bs : List Int} (h : Making w0 w box bs) : Src w (.slice (some ⟨w0.heap.size + 1, 0, none⟩) 124 124) (u8s bs) := by
  have := src_heap (c := 124) h.row (by rw [u8s_length, h.len]; exact Nat.le_refl _)
  rwa [u8s_length, h.len] at this
set_option maxHeartbeats 1000000 in
set_option maxRecDepth 100000 in
theorem htext_any (h : Head) (size : Nat) (hs : size ≤ 65536) (h1 : h.gen < 18446744073709551616) (h2 : h.epoch < 18446744073709551616) (h3 : h.first < 18446744073709551616) (h4 : h.least < 18446744073709551616) (w : World) (hP : Pkg w) :
    Calls Tryz.prog 115 #[headV h, .int .i64 size] w fun e w' => ∃ u, e = .returned u ∧ w'.ownsRow w.heap.size 5 1 u 128 (u8s (sealed' (headRaw h size))) ∧ Below w.heap.size w w' := by
  have hmk := make_text
  obtain ⟨-, -, g2⟩ := allocs2 w (.cells #[.int .u64 h.gen, .int .u64 h.epoch, .int .u64 h.first, .int .u64 h.least] 128) (.cells (u8s (zeros 124)).toArray 5)
  have hcp := copy_mark _ _ ⟨#[104, 108, 121, 72]⟩ headMark rfl rfl g2
  have hM := making_new w (.cells #[.int .u64 h.gen, .int .u64 h.epoch, .int .u64 h.first, .int .u64 h.least] 128) headMark rfl marks_isBytes.1
  clear g2
  generalize World.setRow _ (w.heap.size + 1) (u8s (headMark ++ zeros 120)).toArray = W at hcp hM
  unfold headV
  have HP := Lib.hid hP; clear hP
  obtain ⟨hg, he, hf, hl⟩ := h
  simp only at h1 h2 h3 h4 hcp hM ⊢
  go_enter Tryz.func115, Tryz.ntmps115
  have hfld := HP.out.generation.below hM.below
  have hF1 := hfld.1
  have hF2 := hfld.2
  obtain ⟨b0, b1, b2, b3⟩ := box4 hM.box
  have HM := Lib.hid hM
  clear hM hfld
  go_wp2_with fail
  refine (put_b (w.heap.size + 1) 4 6 (hg : Int) (by omega) (by omega) _ 124 124 HM.out.len (by decide) (by decide) (by decide) (by decide) _ HM.out.row).mono ?_
  clear hF1 hF2 b0 b1 b2 b3
  rintro e W ⟨⟨t, rfl⟩, hr, hX⟩
  have hM := HM.out.put 4 (leBytes (hg : Int) 6) (leBytes_isBytes _ _) (by rw [leBytes_length]; decide) hr hX
  clear hr hX HM
  have hfld := HP.out.headEpoch.below hM.below
  have hF1 := hfld.1
  have hF2 := hfld.2
  obtain ⟨b0, b1, b2, b3⟩ := box4 hM.box
  have HM := Lib.hid hM
  clear hM hfld
  go_wp2_with fail
  refine (put_b (w.heap.size + 1) 10 6 (he : Int) (by omega) (by omega) _ 124 124 HM.out.len (by decide) (by decide) (by decide) (by decide) _ HM.out.row).mono ?_
  clear hF1 hF2 b0 b1 b2 b3
  rintro e W ⟨⟨t, rfl⟩, hr, hX⟩
  have hM := HM.out.put 10 (leBytes (he : Int) 6) (leBytes_isBytes _ _) (by rw [leBytes_length]; decide) hr hX
  clear hr hX HM
  have hfld := HP.out.first.below hM.below
  have hF1 := hfld.1
  have hF2 := hfld.2
  obtain ⟨b0, b1, b2, b3⟩ := box4 hM.box
  have HM := Lib.hid hM
  clear hM hfld
  go_wp2_with fail
  refine (put_b (w.heap.size + 1) 16 6 (hf : Int) (by omega) (by omega) _ 124 124 HM.out.len (by decide) (by decide) (by decide) (by decide) _ HM.out.row).mono ?_
  clear hF1 hF2 b0 b1 b2 b3
  rintro e W ⟨⟨t, rfl⟩, hr, hX⟩
  have hM := HM.out.put 16 (leBytes (hf : Int) 6) (leBytes_isBytes _ _) (by rw [leBytes_length]; decide) hr hX
  clear hr hX HM
  have hfld := HP.out.least.below hM.below
  have hF1 := hfld.1
  have hF2 := hfld.2
  obtain ⟨b0, b1, b2, b3⟩ := box4 hM.box
  have HM := Lib.hid hM
  clear hM hfld
  go_wp2_with fail
  refine (put_b (w.heap.size + 1) 22 6 (hl : Int) (by omega) (by omega) _ 124 124 HM.out.len (by decide) (by decide) (by decide) (by decide) _ HM.out.row).mono ?_
  clear hF1 hF2 b0 b1 b2 b3
  rintro e W ⟨⟨t, rfl⟩, hr, hX⟩
  have hM := HM.out.put 22 (leBytes (hl : Int) 6) (leBytes_isBytes _ _) (by rw [leBytes_length]; decide) hr hX
  clear hr hX HM
  have hfld := HP.out.size.below hM.below
  have hF1 := hfld.1
  have hF2 := hfld.2
  obtain ⟨b0, b1, b2, b3⟩ := box4 hM.box
  have HM := Lib.hid hM
  clear hM hfld
  go_wp2_with fail
  refine (put_b (w.heap.size + 1) 28 4 (size : Int) (by omega) (by omega) _ 124 124 HM.out.len (by decide) (by decide) (by decide) (by decide) _ HM.out.row).mono ?_
  clear hF1 hF2 b0 b1 b2 b3
  rintro e W ⟨⟨t, rfl⟩, hr, hX⟩
  have hM := HM.out.put 28 (leBytes (size : Int) 4) (leBytes_isBytes _ _) (by rw [leBytes_length]; decide) hr hX
  clear hr hX HM
  have HM := Lib.hid hM
  clear hM
  go_wp2_with fail
  refine (seal_any _ _ _ HM.out.src (HP.out.tab.below HM.out.below) (by rw [HM.out.len]; decide) HM.out.bytes).mono ?_
  rintro e W' ⟨u, rfl, hown, hB⟩
  rw [HM.out.len] at hown
  have Hown := Lib.hid hown; clear hown
  go_wp2_with fail
  go_ret
  exact ⟨_, rfl, owns_base Hown.out (fun k hk => Nat.le_trans HM.out.below.size (Hown.out.lt k hk).1), HM.out.below.trans (hB.mono HM.out.below.size)⟩

structure Piece where
  num : Nat
  epoch : Nat
  bytes : Nat
  index : Nat
  data : List Int
/-- a piece's text without its seal -/
def pieceRaw (p : Piece) : List Int := layB (layB (layB (layB (layB (pieceMark ++ zeros 120) 4 (leBytes p.num 6)) 10 (leBytes p.epoch 6)) 16 (leBytes p.bytes 2)) 18 (leBytes p.index 2)) 20 p.data
theorem box5 {w : World} {g : Nat} {a b c d e : Value} {t : TypeId} (h : w.heap[g]? = some (.cells #[a, b, c, d, e] t (0, 0))) : w.cell? ⟨g, 0, none⟩ = some a ∧ w.cell? ⟨g, 1, none⟩ = some b ∧ w.cell? ⟨g, 2, none⟩ = some c ∧ w.cell? ⟨g, 3, none⟩ = some d ∧ w.cell? ⟨g, 4, none⟩ = some e := by
  simp [World.cell?, h]
set_option maxHeartbeats 1000000 in
set_option maxRecDepth 100000 in
theorem ptext_any (p : Piece) (v : Value) (h1 : p.num < 18446744073709551616) (h2 : p.epoch < 18446744073709551616) (h3 : p.bytes ≤ 65535) (h4 : p.index ≤ 65535) (hb : isBytes p.data) (hl : p.data.length ≤ 104) (w : World) (hP : Pkg w) (hv : Src w v (u8s p.data)) :
    Calls Tryz.prog 86 #[.agg #[.int .u64 p.num, .int .u64 p.epoch, .int .i64 p.bytes, .int .i64 p.index, v]] w fun e w' => ∃ u, e = .returned u ∧ w'.ownsRow w.heap.size 5 1 u 128 (u8s (sealed' (pieceRaw p))) ∧ Below w.heap.size w w' := by
  obtain ⟨pn, pe, pb, pi, pd⟩ := p
  simp only at h1 h2 h3 h4 hb hl hv ⊢
  have hmk := make_text
  obtain ⟨ax, cx, rfl, -⟩ := hv.shape
  obtain ⟨m, hm⟩ : ∃ m, (u8s pd).length = m := ⟨_, rfl⟩
  rw [hm] at hv ⊢
  have Hv := Lib.hid hv; clear hv
  have Hm := Lib.hid hm; clear hm
  have Hb := Lib.hid hb; clear hb
  obtain ⟨-, -, g2⟩ := allocs2 w (.cells #[.int .u64 pn, .int .u64 pe, .int .i64 pb, .int .i64 pi, .slice ax m cx] 138) (.cells (u8s (zeros 124)).toArray 5)
  have hcp := copy_mark _ _ ⟨#[104, 108, 121, 80]⟩ pieceMark rfl rfl g2
  have hM := making_new w (.cells #[.int .u64 pn, .int .u64 pe, .int .i64 pb, .int .i64 pi, .slice ax m cx] 138) pieceMark rfl marks_isBytes.2
  clear g2
  generalize World.setRow _ (w.heap.size + 1) (u8s (pieceMark ++ zeros 120)).toArray = W at hcp hM
  have HP := Lib.hid hP; clear hP
  go_enter Tryz.func86, Tryz.ntmps86
  have hfld := HP.out.number.below hM.below
  have hF1 := hfld.1
  have hF2 := hfld.2
  obtain ⟨b0, b1, b2, b3, b4⟩ := box5 hM.box
  have HM := Lib.hid hM
  clear hM hfld
  go_wp2_with fail
  refine (put_b (w.heap.size + 1) 4 6 (pn : Int) (by omega) (by omega) _ 124 124 HM.out.len (by decide) (by decide) (by decide) (by decide) _ HM.out.row).mono ?_
  clear hF1 hF2 b0 b1 b2 b3 b4
  rintro e W ⟨⟨t, rfl⟩, hr, hX⟩
  have hM := HM.out.put 4 (leBytes (pn : Int) 6) (leBytes_isBytes _ _) (by rw [leBytes_length]; decide) hr hX
  clear hr hX HM
  have hfld := HP.out.pieceEpoch.below hM.below
  have hF1 := hfld.1
  have hF2 := hfld.2
  obtain ⟨b0, b1, b2, b3, b4⟩ := box5 hM.box
  have HM := Lib.hid hM
  clear hM hfld
  go_wp2_with fail
  refine (put_b (w.heap.size + 1) 10 6 (pe : Int) (by omega) (by omega) _ 124 124 HM.out.len (by decide) (by decide) (by decide) (by decide) _ HM.out.row).mono ?_
  clear hF1 hF2 b0 b1 b2 b3 b4
  rintro e W ⟨⟨t, rfl⟩, hr, hX⟩
  have hM := HM.out.put 10 (leBytes (pe : Int) 6) (leBytes_isBytes _ _) (by rw [leBytes_length]; decide) hr hX
  clear hr hX HM
  have hfld := HP.out.bytes.below hM.below
  have hF1 := hfld.1
  have hF2 := hfld.2
  obtain ⟨b0, b1, b2, b3, b4⟩ := box5 hM.box
  have HM := Lib.hid hM
  clear hM hfld
  go_wp2_with fail
  refine (put_b (w.heap.size + 1) 16 2 (pb : Int) (by omega) (by omega) _ 124 124 HM.out.len (by decide) (by decide) (by decide) (by decide) _ HM.out.row).mono ?_
  clear hF1 hF2 b0 b1 b2 b3 b4
  rintro e W ⟨⟨t, rfl⟩, hr, hX⟩
  have hM := HM.out.put 16 (leBytes (pb : Int) 2) (leBytes_isBytes _ _) (by rw [leBytes_length]; decide) hr hX
  clear hr hX HM
  have hfld := HP.out.index.below hM.below
  have hF1 := hfld.1
  have hF2 := hfld.2
  obtain ⟨b0, b1, b2, b3, b4⟩ := box5 hM.box
  have HM := Lib.hid hM
  clear hM hfld
  go_wp2_with fail
  refine (put_b (w.heap.size + 1) 18 2 (pi : Int) (by omega) (by omega) _ 124 124 HM.out.len (by decide) (by decide) (by decide) (by decide) _ HM.out.row).mono ?_
  clear hF1 hF2 b0 b1 b2 b3 b4
  rintro e W ⟨⟨t, rfl⟩, hr, hX⟩
  have hM := HM.out.put 18 (leBytes (pi : Int) 2) (leBytes_isBytes _ _) (by rw [leBytes_length]; decide) hr hX
  clear hr hX HM
  obtain ⟨b0, b1, b2, b3, b4⟩ := box5 hM.box
  have HM := Lib.hid hM
  clear hM b0 b1 b2 b3
  go_wp2_with fail
  refine wp_region_rg_tail 4 (fun _ => none) fol (by kernel_rfl) (fun W7 hW7 hh => ?_)
  clear hh
  have r1 : ∀ w2, Below W7.heap.size W7 w2 → w2.cell? ⟨w.heap.size, 4, none⟩ = some (.slice ax m cx) := fun w2 h => below_cell (below_trans hW7 h) b4
  simp only [List.take_succ_cons, List.take_zero, List.drop_succ_cons, List.drop_zero]
  repeat ((first | refine lex_move _ (by first | exact Or.inl rfl | exact Or.inr rfl) rfl rfl ?_ | (refine lex_float ?_ rfl rfl (fun w1 hb1 hf1 => ?_) ?_; rotate_left; (go_simp; (try simp (disch := omega) only [IntWalk.i64_quo, IntWalk.rem_in, IntWalk.i64_in, IntWalk.u64_in, IntWalk.u32_in, IntWalk.u8_in, IntWalk.toNatUp, IntWalk.iteOmega]); (try go_simp); rfl)) | refine lex_skip rfl ?_); simp only [Act.put, Act.eval, Array.getD_eq_getD_getElem?, List.getElem?_toArray, List.getElem?_cons_zero, List.getElem?_cons_succ, Option.getD_some, List.setIfInBounds_toArray, List.set_cons_succ, List.set_cons_zero])
  refine lex_nil ?_
  clear r1 b4
  have hm : m ≤ 104 := by rw [← Hm.out, u8s_length]; exact hl
  have hr7 := HM.out.row.below hW7
  have hB7 := HM.out.below.trans (hW7.mono HM.out.below.size)
  have hx7 := Hv.out.below hB7
  obtain ⟨i0, hi, hz0, hz1, hz2⟩ := info_parts info_byte
  refine wpList_copy_k rfl _ _ 52 52 rfl 5 i0 1 und_bytes hi hz1 (some ⟨w.heap.size + 1, 20, none⟩) ax 104 104 m cx rfl rfl (w.heap.size + 1) 20 5 _ (u8s pd) hr7 ?_ ?_ ?_ (u8s_one _) ?_
  · rw [Hm.out, Nat.mul_one]; exact (Nat.min_eq_left hm).symm
  · intro h0
    refine ⟨rfl, ?_⟩
    rcases hx7 with ⟨g, o, c, e1, -, hr⟩ | ⟨e1, e2⟩
    · injection e1 with e1 _ e3
      exact ⟨_, e1, fun j u hu => by rw [Addr.add_lit]; exact hr j u hu⟩
    · injection e1 with e1 e2 e3
      subst e2
      exact absurd h0 (by decide)
  · rw [Hm.out, u8s_length, HM.out.len]; omega
  intro W8 hr8 hX8
  have hM : Making w W8 (.cells #[.int .u64 pn, .int .u64 pe, .int .i64 pb, .int .i64 pi, .slice ax m cx] 138) (pieceRaw ⟨pn, pe, pb, pi, pd⟩) := by
    have hM7 : Making w W7 (.cells #[.int .u64 pn, .int .u64 pe, .int .i64 pb, .int .i64 pi, .slice ax m cx] 138) _ := ⟨hr7, HM.out.len, HM.out.bytes, hB7, below_heap hW7 HM.out.box⟩
    refine hM7.put 20 pd Hb.out (by rw [← u8s_length, Hm.out]; omega) ?_ hX8
    rw [layB_u8s]
    unfold splice at hr8
    unfold layF
    rw [u8s_length, ← List.append_assoc] at hr8
    exact hr8
  clear hr8 hX8 hr7 hx7 hz0 hz1 hz2 hi HM
  simp only [Act.put, Act.eval, Array.getD_eq_getD_getElem?, List.getElem?_toArray, List.getElem?_cons_zero, List.getElem?_cons_succ, Option.getD_some, List.setIfInBounds_toArray, List.set_cons_succ, List.set_cons_zero]
  have HM := Lib.hid hM
  clear hM
  go_wp2_with fail
  refine (seal_any _ _ _ HM.out.src (HP.out.tab.below HM.out.below) (by rw [HM.out.len]; decide) HM.out.bytes).mono ?_
  rintro e W' ⟨u, rfl, hown, hB⟩
  rw [HM.out.len] at hown
  have Hown := Lib.hid hown; clear hown
  go_wp2_with fail
  go_ret
  exact ⟨_, rfl, owns_base Hown.out (fun k hk => Nat.le_trans HM.out.below.size (Hown.out.lt k hk).1), HM.out.below.trans (hB.mono HM.out.below.size)⟩
end Go.Proofs.YtbjofbhhnmehgaaGreatDoor.TT
namespace Go.Proofs.YtbjofbhhnmehgaaGreatDoor.TT
open Go.RowKit Go.RG Go.Hp Go.Proofs.YtbjofbhhnmehgaaGreatDoor


set_option maxRecDepth 100000 in
theorem read_off (b : Bks) (x : Dsk) (i : Nat) (hi : i < x.dur.length) (w : World) (h : HeadAt w b x) (ho : x.off = true) : Calls Tryz.prog 155 #[.pointer (some ⟨b.d, 0, none⟩), .int .i64 i] w fun e w' => e = .returned (.tuple #[.slice none 0 0, .int .i64 5]) ∧ w = w' := by
  have c3 := h.cells.2.2.2.1
  rw [ho] at c3
  have hd : onDisk x (i : Int) = true := by simp [onDisk, hi]
  have H := Lib.hid h; clear h
  go_enter Tryz.func155, Tryz.ntmps155
  go_wp2_with fail
  refine (has_any b x i w H.out).mono ?_
  rintro e w' ⟨rfl, rfl⟩
  rw [hd]
  go_wp2_with fail
  go_ret2
  exact ⟨rfl, rfl⟩
theorem conv_src {w : World} {v : Value} {bs : List Int} (h : Src w v (u8s bs)) : Sem.run Tryz.prog (convert 52 9 v) w = .ok (.string (strOfNums bs)) w := by
  rcases h with ⟨g, o, c, rfl, -, hr⟩ | ⟨rfl, h0⟩
  · rw [u8s_length]
    refine run_convert_bytes_arg w 52 5 und_bytes (by kernel_rfl) g o bs.length c bs rfl (fun i hi => ?_) 9 (by kernel_rfl)
    have := hr i _ (u8s_get (List.getElem?_eq_getElem hi))
    simpa [List.getD, List.getElem?_eq_getElem hi] using this
  · have : bs = [] := by simpa [u8s] using h0
    subst this
    exact run_convert_bytes_nil w 52 5 und_bytes (by kernel_rfl) 0 0 9 (by kernel_rfl)
theorem strOfNums_inj {a b : List Int} (ha : isBytes a) (hb : isBytes b) (h : strOfNums a = strOfNums b) : a = b := by
  have h1 : a.map (fun n => UInt8.ofNat n.toNat) = b.map (fun n => UInt8.ofNat n.toNat) := by
    rw [← strOfNums_data, ← strOfNums_data, h]
  have h2 := congrArg List.length h1
  simp only [List.length_map] at h2
  refine List.ext_getElem h2 fun i h3 h4 => ?_
  have h5 : (a.map (fun n => UInt8.ofNat n.toNat))[i]'(by simpa using h3) = (b.map (fun n => UInt8.ofNat n.toNat))[i]'(by simpa using h4) := by simp only [h1]
  rw [List.getElem_map, List.getElem_map] at h5
  have h6 := congrArg UInt8.toNat h5
  have ba := ha _ (List.getElem_mem h3)
  have bb := hb _ (List.getElem_mem h4)
  simp only [UInt8.toNat_ofNat'] at h6
  omega
theorem strOfNums_beq {a b : List Int} (ha : isBytes a) (hb : isBytes b) : ((strOfNums a).toList == (strOfNums b).toList) = decide (a = b) := by
  rw [ByteArray.toList_eq, ByteArray.toList_eq]
  by_cases h : a = b
  · subst h; simp
  · rw [decide_eq_false h, beq_eq_false_iff_ne]
    intro e
    refine h (strOfNums_inj ha hb ?_)
    exact ByteArray.ext (Array.toList_inj.1 e)
/-- what a disk holds is bytes -/
def Dsk.ok (x : Dsk) : Prop := (∀ s ∈ x.dur, isBytes s) ∧ ∀ i, ∀ s ∈ x.cache i, isBytes s
theorem Dsk.ok.read {x : Dsk} (h : x.ok) {i : Nat} {s : List Int} (hr : readD x i = some s) : isBytes s := by
  unfold readD at hr
  cases hc : (x.cache i).getLast? with
  | some s' =>
    rw [hc] at hr
    injection hr with hr
    subst hr
    exact h.2 i s' (List.mem_of_getLast? hc)
  | none =>
    rw [hc] at hr
    split at hr
    · rename_i heq; cases heq
    · split at hr
      · cases hr
      · exact h.1 s (List.mem_of_getElem? hr)
theorem DskAt.read128 {w : World} {b : Bks} {x : Dsk} (h : DskAt w b x) {i : Nat} {s : List Int} (hr : readD x i = some s) : s.length = 128 := by
  unfold readD at hr
  cases hc : (x.cache i).getLast? with
  | some s' =>
    rw [hc] at hr
    injection hr with hr
    subst hr
    exact h.c128 i s' (List.mem_of_getLast? hc)
  | none =>
    rw [hc] at hr
    split at hr
    · rename_i heq; cases heq
    · split at hr
      · cases hr
      · exact h.s128 s (List.mem_of_getElem? hr)
/-- a sector's text, if it is sealed and begins with the mark; or what is told -/
def sealedR (x : Dsk) (i : Nat) (M : List Int) : Except Int (List Int) :=
  if x.off then .error 5 else match readD x i with
  | none => .error 40
  | some s => match unsealed s with
    | none => .error 50
    | some t => if t.take 4 = M then .ok t else .error 50
def SealedPost (r : Except Int (List Int)) (B : Nat) (e : Ending) (w' : World) : Prop := match r with
  | .ok ts => ∃ u, e = .returned (.tuple #[u, .int .i64 0]) ∧ w'.ownsRow B 5 1 u ts.length (u8s ts)
  | .error k => e = .returned (.tuple #[.slice none 0 0, .int .i64 k])
set_option maxHeartbeats 1000000 in
set_option maxRecDepth 100000 in
theorem sealed_any (b : Bks) (x : Dsk) (first size i : Nat) (hi : i < x.dur.length) (M : List Int) (s : ByteArray) (hs : s.size = 4) (hsM : s = strOfNums M) (hMb : isBytes M) (w : World) (h : DskAt w b x) (hk : x.ok) (hP : Pkg w) :
    Calls Tryz.prog 135 #[placeV b first size, .int .i64 i, .string s] w fun e w' => SealedPost (sealedR x i M) w.heap.size e w' ∧ Below w.heap.size w w' := by
  have hb := below_box w (.cells #[.pointer (some ⟨b.d, 0, none⟩), .int .i64 first, .int .i64 size] 126)
  have g0 := World.alloc_heap_new w (.cells #[.pointer (some ⟨b.d, 0, none⟩), .int .i64 first, .int .i64 size] 126)
  have H := Lib.hid h; clear h
  have HP := Lib.hid hP; clear hP
  have HsM := Lib.hid hsM; clear hsM
  have hr : ∀ o, x.off = o → sealedR x i M = if o then .error 5 else match readD x i with
    | none => .error 40
    | some s => match unsealed s with
      | none => .error 50
      | some t => if t.take 4 = M then .ok t else .error 50 := fun o h => by unfold sealedR; rw [h]
  have Hr := Lib.hid hr; clear hr
  unfold placeV
  go_enter Tryz.func135, Tryz.ntmps135
  go_wp2_with fail
  generalize w.alloc (.cells #[.pointer (some ⟨b.d, 0, none⟩), .int .i64 first, .int .i64 size] 126) = w1 at hb g0 ⊢
  have c0 : w1.cell? ⟨w.heap.size, 0, none⟩ = some (.pointer (some ⟨b.d, 0, none⟩)) := by simp [World.cell?, g0]
  cases ho : x.off
  · have Ho := Lib.hid ho; clear ho
    have Hr2 := Lib.hid (Hr.out _ Ho.out)
    refine (read_any b x i hi _ (H.out.below hb) Ho.out).mono ?_
    rintro e w2 ⟨hpost, hb2⟩
    cases hrd : readD x i with
    | none =>
      rw [hrd] at hpost
      obtain rfl : e = _ := hpost
      have hr3 : sealedR x i M = .error 40 := by rw [Hr2.out, hrd]; rfl
      have Hr3 := Lib.hid hr3
      clear hr3 hrd
      go_wp2_with fail
      go_ret2
      rw [Hr3.out]
      exact ⟨rfl, hb.trans (hb2.mono hb.size)⟩
    | some sec =>
      rw [hrd] at hpost
      obtain ⟨u, rfl, hown⟩ := hpost
      have hl := H.out.read128 hrd
      have hsb := hk.read hrd
      have hB2 := hb.trans (hb2.mono hb.size)
      rw [hl] at hown
      have HU := Lib.hid (unseal_any u sec w2 (Src.of_owns hown) (HP.out.tab.below hB2) (by rw [hl]; decide) hsb)
      have Hown := Lib.hid hown
      have Hsec := Lib.hid (And.intro hrd (And.intro hl hsb))
      clear hrd hl hsb hown
      go_wp2_with fail
      refine HU.out.mono ?_
      clear HU
      rintro e w3 ⟨hpost, hb3⟩
      have hB3 := hB2.trans (hb3.mono hB2.size)
      have hr3 : sealedR x i M = match unsealed sec with | none => .error 50 | some t => if t.take 4 = M then .ok t else .error 50 := by rw [Hr2.out, Hsec.out.1]; rfl
      cases hun : unsealed sec with
      | none =>
        rw [hun] at hpost hr3
        obtain ⟨k, hk0, rfl⟩ := hpost
        have hk1 : (k != 0) = true := by simp [hk0]
        have Hr3 := Lib.hid hr3
        clear hr3 hun
        go_wp2_with fail
        go_ret2
        rw [Hr3.out]
        exact ⟨rfl, hB3⟩
      | some t =>
        rw [hun] at hpost hr3
        obtain ⟨u2, rfl, hown2⟩ := hpost
        have hlt : t.length = 124 := by
          unfold unsealed at hun
          split at hun
          · injection hun with hun
            rw [← hun, List.length_take, Hsec.out.2.1]; rfl
          · cases hun
        have hbt : isBytes t := by
          unfold unsealed at hun
          split at hun
          · injection hun with hun
            rw [← hun]; exact Hsec.out.2.2.take _
          · cases hun
        rw [hlt] at hown2
        obtain ⟨g, c, rfl, hg, hgl, hcl, -⟩ := owns_parts hown2 (by decide)
        have hsrc := src_take (Src.of_owns hown2) (m := 4) (by rw [u8s_length, hlt]; decide) c (by omega)
        rw [← u8s_take] at hsrc
        have hcv := conv_src hsrc
        have hne : ((strOfNums (t.take 4)).toList == s.toList) = decide (t.take 4 = M) := by rw [HsM.out]; exact strOfNums_beq (hbt.take _) hMb
        clear hsrc hun
        have Hown2 := Lib.hid hown2; clear hown2
        simp only [] at hr3
        by_cases hM : t.take 4 = M
        · rw [if_pos hM] at hr3
          have Hr3 := Lib.hid hr3
          rw [decide_eq_true hM] at hne
          have Hlt := Lib.hid hlt
          clear hM hr3 hbt hlt
          go_wp2_with fail
          go_ret2
          rw [Hr3.out]
          refine ⟨⟨_, rfl, ?_⟩, hB3⟩
          rw [Hlt.out]
          exact owns_base Hown2.out (fun k hk => Nat.le_trans hB2.size (Hown2.out.lt k hk).1)
        · rw [if_neg hM] at hr3
          have Hr3 := Lib.hid hr3
          rw [decide_eq_false hM] at hne
          clear hM hr3 hbt hlt
          go_wp2_with fail
          go_ret2
          rw [Hr3.out]
          exact ⟨rfl, hB3⟩
  · have Ho := Lib.hid ho; clear ho
    have Hr2 := Lib.hid (Hr.out _ Ho.out)
    refine (read_off b x i hi _ (H.out.below hb).head Ho.out).mono ?_
    rintro e w2 ⟨rfl, rfl⟩
    go_wp2_with fail
    go_ret2
    rw [Hr2.out]
    exact ⟨rfl, hb⟩
end Go.Proofs.YtbjofbhhnmehgaaGreatDoor.TT
