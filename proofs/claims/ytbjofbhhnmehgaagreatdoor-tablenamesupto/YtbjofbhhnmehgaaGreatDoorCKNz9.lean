/-
  table: Walk.
-/
import Derived.Test.YtbjofbhhnmehgaaGreatDoorCKNz8
import Derived.Test.YtbjofbhhnmehgaaGreatDoorCKNz0
set_option linter.unusedSimpArgs false
set_option linter.unusedVariables false
namespace Go.Proofs.YtbjofbhhnmehgaaGreatDoor.TT
open Go.RowKit Go.RG Go.Hp Go.Proofs.YtbjofbhhnmehgaaGreatDoor
attribute [local go_sem] Oper.semAt_some


/-- how far Walk goes -/
def walkEnd (ps : List Pr) (hi : List Int) : Nat := if hi = [] then ps.length else posK (keysP ps) hi
/-- the pairs from a key on, below another -/
def walkR (ps : List Pr) (lo hi : List Int) : List Pr := (ps.take (walkEnd ps hi)).drop (posK (keysP ps) lo)
/-- []byte of a string: a block of its own, with a mark behind its cells -/
def ConvRow (w : World) (B : Nat) (v : Value) (xs : List Value) : Prop := ∃ g c C, v = .slice (some ⟨g, 0, none⟩) xs.length c ∧ B ≤ g ∧ w.heap[g]? = some (.cells C 5 (C.size, C.size + 1)) ∧ C.size = c ∧ xs.length ≤ c ∧ C.toList.take xs.length = xs
theorem ConvRow.src {w : World} {B : Nat} {v : Value} {xs : List Value} (h : ConvRow w B v xs) : Src w v xs := by
  obtain ⟨g, c, C, rfl, h2, h3, h4, h5, h6⟩ := h
  refine .inl ⟨g, 0, c, rfl, h5, fun j u hu => ?_⟩
  rw [Nat.zero_add, World.cell?, h3]
  have hj := (List.getElem?_eq_some_iff.1 hu).1
  rw [← h6, List.getElem?_take_of_lt hj] at hu
  simpa using hu
theorem ConvRow.cells {w : World} {B : Nat} {v : Value} {xs : List Value} (h : ConvRow w B v xs) {j : Nat} (hj : v.ownBlock = some j) : B ≤ j ∧ CellsB w j := by
  obtain ⟨g, c, C, rfl, h2, h3, -⟩ := h
  obtain rfl := Option.some.inj hj
  exact ⟨h2, _, h3, rfl⟩
theorem ConvRow.base {w : World} {B B' : Nat} {v : Value} {xs : List Value} (h : ConvRow w B v xs) (hB : B' ≤ B) : ConvRow w B' v xs := by
  obtain ⟨g, c, C, h1, h2, h3⟩ := h
  exact ⟨g, c, C, h1, Nat.le_trans hB h2, h3⟩
theorem conv_row (s : List Int) (w : World) (hb : isBytes s) : ∃ u W, Sem.run Tryz.prog (convert 9 52 (.string (strOfNums s))) w = .ok u W ∧ ConvRow W w.heap.size u (u8s s) ∧ Below w.heap.size w W ∧ ∃ g c, u = .slice (some ⟨g, 0, none⟩) s.length c := by
  have hge : s.length ≤ grownCap w (strOfNums s).size 0 5 := by
    have := grownCap_ge w (strOfNums s).size 0 5
    rw [strOfNums_size] at this ⊢
    omega
  have hsz : (Lib.bytesCells w 5 (strOfNums s)).size = grownCap w (strOfNums s).size 0 5 := by
    unfold Lib.bytesCells
    simp [strOfNums_size] at hge ⊢
    omega
  refine ⟨_, _, Lib.run_convert_string_bytes w 9 52 5 (strOfNums s) und_string und_bytes (by kernel_rfl), ⟨w.heap.size, _, _, by rw [strOfNums_size, u8s_length], Nat.le_refl _, Lib.bytesWorld_at_new w 5 (strOfNums s), by rw [hsz, strOfNums_size], ?_, ?_⟩, ⟨rfl, rfl, rfl, by rw [Lib.bytesWorld_size]; omega, fun k hk => Lib.bytesWorld_at_old _ _ _ _ hk⟩, ⟨_, _, by rw [strOfNums_size]⟩⟩
  · rw [u8s_length]
    simpa [strOfNums_size] using hge
  · refine List.ext_getElem? fun j => ?_
    rcases Nat.lt_or_ge j s.length with hj | hj
    · have h1 := Lib.bytesWorld_cell w 5 (strOfNums s) j (by rw [strOfNums_size]; exact hj)
      rw [World.cell?, Lib.bytesWorld_at_new] at h1
      rw [List.getElem?_take_of_lt (by rw [u8s_length]; exact hj)]
      have h2 : (Lib.bytesCells w 5 (strOfNums s))[j]? = some (.int .u8 ((strOfNums s).data.toList.getD j 0).toNat) := by simpa using h1
      rw [Array.getElem?_toList, h2]
      have h3 := hb _ (List.getElem_mem hj)
      simp [u8s, strOfNums_data, List.getD, hj]
      omega
    · rw [List.getElem?_eq_none (by rw [List.length_take, u8s_length]; omega), List.getElem?_eq_none (by rw [u8s_length]; exact hj)]
theorem make_rows (n : Nat) (hn : n ≤ 500000000) (w : World) : Sem.run Tryz.prog (Instr.makeSlice 66 (.int .i64 n) (.int .i64 n)) w = .ok (.slice (some ⟨w.heap.size, 0, none⟩) n n) (w.alloc (.cells (List.replicate n (.slice none 0 0)).toArray 52)) := by
  obtain ⟨i0, hi, hz0, hz1, hz2⟩ := info_parts info_bytes
  have := run_make (P := Tryz.prog) w 66 52 i0 (.slice none 0 0) und_recs hi hz0 .i64 .i64 (n : Int) (n : Int) (by omega) (by omega) (by rw [hz2]; omega) (by omega)
  rw [hz1] at this
  simp only [Int.toNat_natCast, Nat.mul_one] at this
  have h2 := toList_madeCells_one (.slice none 0 0) n
  have h3 : madeCells (Value.slice none 0 0).cells n = (List.replicate n (Value.slice none 0 0)).toArray := by
    rw [← Array.toList_inj]
    exact h2
  rw [h3] at this
  exact this
theorem pair_val {ps : List Pr} (hr : KRising (keysP ps)) {p : Pr} (hp : p ∈ ps) : valP ps p.1 = p.2 := by
  obtain ⟨v, -, hm, hv⟩ := pair_at hr (mem_keys hp)
  rw [hv]
  exact pair_at.snd_of_nodup (krising_nodup hr) hm hp
/-- values that are gathered -/
structure ValsAt (w : World) (B gv n : Nat) (qs : List Pr) (vs : List Value) : Prop where
  row : Row w gv 52 (vs ++ List.replicate (n - vs.length) (.slice none 0 0))
  own : ∀ (i : Nat) (p : Pr) (v : Value), qs[i]? = some p → vs[i]? = some v → w.ownsRow B 5 1 v p.2.length (u8s p.2)
  ne : ∀ (i j : Nat) (v u : Value) (k : Nat), i < j → vs[i]? = some v → vs[j]? = some u → v.ownBlock = some k → u.ownBlock ≠ some k
  ng : ∀ v ∈ vs, v.ownBlock ≠ some gv
theorem ValsAt.below {w w' : World} {B gv n : Nat} {qs : List Pr} {vs : List Value} (h : ValsAt w B gv n qs vs) (hb : Below w.heap.size w w') : ValsAt w' B gv n qs vs :=
  ⟨h.row.below hb, fun i p v h1 h2 => owns_below (h.own i p v h1 h2) hb, h.ne, h.ng⟩
/-- one value more -/
theorem ValsAt.put {w w1 : World} {B gv n : Nat} {qs : List Pr} {vs : List Value} {p : Pr} {v : Value} (h : ValsAt w B gv n qs vs) (hl : vs.length < n) (hq : n ≤ qs.length) (hp : qs[vs.length]? = some p) (hb : Below w.heap.size w w1) (hB : B ≤ w.heap.size) (hgv : B ≤ gv) (hv : w1.ownsRow w.heap.size 5 1 v p.2.length (u8s p.2)) :
    ValsAt (w1.setCell ⟨gv, vs.length, none⟩ v) B gv n qs (vs ++ [v]) := by
  have h1 := h.below hb
  have hgw : gv < w.heap.size := block_lt_of_heap h.row
  have hX : Ext (· = gv) w1 (w1.setCell ⟨gv, vs.length, none⟩ v) := Ext.setCell (S := (· = gv)) (p := ⟨gv, vs.length, none⟩) rfl _
  have hvn : ∀ k, v.ownBlock = some k → w.heap.size ≤ k := fun k hk => (hv.lt k hk).1
  refine ⟨?_, fun i p' u h2 h3 => ?_, fun i j u u' k hij h2 h3 h4 => ?_, fun u hu => ?_⟩
  · have hs := heap_cell (j := vs.length) h1.row v
    show (w1.setCell ⟨gv, vs.length, none⟩ v).heap[gv]? = _
    rw [hs]
    congr 2
    rw [List.setIfInBounds_toArray]
    congr 1
    rw [List.set_append_right _ _ (Nat.le_refl _), Nat.sub_self, List.append_assoc]
    congr 1
    rw [List.length_append, List.length_singleton, show n - vs.length = (n - (vs.length + 1)) + 1 by omega, List.replicate_succ]
    rfl
  · rcases Nat.lt_or_ge i vs.length with hi | hi
    · rw [List.getElem?_append_left hi] at h3
      have hne := h.ng u (List.mem_of_getElem? h3)
      exact owns_ext (h1.own i p' u h2 h3) hX fun k hk e => hne (e ▸ hk)
    · have : i = vs.length := by
        have := (List.getElem?_eq_some_iff.1 h3).1
        simp at this
        omega
      subst this
      rw [List.getElem?_append_right (Nat.le_refl _), Nat.sub_self] at h3
      simp at h3
      subst h3
      rw [hp] at h2
      injection h2 with h2
      subst h2
      exact owns_base (owns_ext hv hX fun k hk e => by have := hvn k hk; omega) fun k hk => Nat.le_trans hB (hvn k hk)
  · have hj := (List.getElem?_eq_some_iff.1 h3).1
    simp at hj
    rw [List.getElem?_append_left (by omega)] at h2
    rcases Nat.lt_or_ge j vs.length with hjl | hjl
    · rw [List.getElem?_append_left hjl] at h3
      exact h.ne i j u u' k hij h2 h3 h4
    · have : j = vs.length := by omega
      subst this
      rw [List.getElem?_append_right (Nat.le_refl _), Nat.sub_self] at h3
      simp at h3
      subst h3
      have h5 := owns_lt (h.own i _ u (List.getElem?_eq_getElem (by omega)) h2) h4
      exact fun e => by have := hvn k e; omega
  · rcases List.mem_append.1 hu with hu | hu
    · exact h.ng u hu
    · rw [List.mem_singleton.1 hu]
      exact fun e => by have := hvn gv e; omega
/-- what comes when so much has come -/
def WalkOk (Pr' : World → Nat → Prop) (B : Nat) (qs : List Pr) (pre : List (Value × Value)) (x : Value × Value) (W : World) : Prop :=
  ∃ p, qs[pre.length]? = some p ∧ ConvRow W B x.1 (u8s p.1) ∧ W.ownsRow B 5 1 x.2 p.2.length (u8s p.2) ∧ (∀ j, x.1.ownBlock = some j ∨ x.2.ownBlock = some j → Pr' W j) ∧ (∀ j, x.1.ownBlock = some j → x.2.ownBlock ≠ some j) ∧
    ∀ y ∈ pre, ∀ j, y.1.ownBlock = some j ∨ y.2.ownBlock = some j → x.1.ownBlock ≠ some j ∧ x.2.ownBlock ≠ some j
set_option maxHeartbeats 4000000 in
set_option maxRecDepth 100000 in
theorem walk_seq (m : Nat) (d l : Nat) (q : TBk) (T : TblS) (lo hi : List Int) (w : World) (h : TblAt w d l q T) (hlo : isBytes lo) (hhi : isBytes hi) (hsum : liveN T.ps ≤ 1000000000) (Bt Bl Bh : Nat) (hbt : w.cell? ⟨Bt, 0, none⟩ = some (.pointer (some ⟨q.t, 0, none⟩)))
    (hbl : w.cell? ⟨Bl, 0, none⟩ = some (.string (strOfNums lo))) (hbh : w.cell? ⟨Bh, 0, none⟩ = some (.string (strOfNums hi))) (inv : World → Prop) (Pr' : World → Nat → Prop) (hG : GuardX inv Pr') (hn0 : inv w) :
    SeqX Fence.wide m Tryz.prog 67 #[.pointer (some ⟨Bt, 0, none⟩), .pointer (some ⟨Bl, 0, none⟩), .pointer (some ⟨Bh, 0, none⟩)] (fun x : Value × Value => #[x.1, x.2]) (fun x => KeepX inv Pr' (fun j => x.1.ownBlock = some j ∨ x.2.ownBlock = some j))
      (fun xs => xs.length = (walkR T.ps lo hi).length) (fun _ => True) (WalkOk Pr' w.heap.size (walkR T.ps lo hi)) w := by
  intro l' J Jx W hW hJ hJx hY hJ0
  have hx := below_cell hW hbt
  have hxl := below_cell hW hbl
  have hxh := below_cell hW hbh
  have hT := h.below hW
  have hl2 := len_live T.ps
  obtain ⟨n, hn⟩ : ∃ n, T.ps.length = n := ⟨_, rfl⟩
  have hcs := hT.cs
  obtain ⟨-, -, -, c3, c4, -⟩ := hcs
  have hks := hT.keys
  have hkl : (keysP T.ps).length = n := by rw [keysP_length, hn]
  rw [hkl] at hks
  obtain ⟨sa, sc, hqs, hsc, -⟩ := owns_shape hks
  rw [hqs] at c4 hks
  have HKS := Lib.hid hks
  have HT := Lib.hid hT
  have Hn := Lib.hid (And.intro hn hkl)
  have hgood : ∀ k ∈ keysP T.ps, isBytes k := fun k hk => by obtain ⟨v, hv⟩ := mem_keysP hk; exact (hT.good _ hv).1
  have hrise := hT.rise
  have hn9 : n ≤ 500000000 := by omega
  have HBS := Lib.hid fun (x : List Int) (hxb : isBytes x) (W' : World) (hW' : Below W.heap.size W W') => search_str (.slice sa n sc) (keysP T.ps) hrise hgood x hxb W' (Src.of_owns (owns_below hks hW')) (by rw [hkl]; omega)
  have HY := Lib.hid hY
  have HJ0 := Lib.hid hJ0
  have hpl := posK_le (keysP T.ps) lo
  rw [hkl] at hpl
  obtain ⟨at', hat⟩ : ∃ a, posK (keysP T.ps) lo = a := ⟨_, rfl⟩
  rw [hat] at hpl
  have Hat := Lib.hid hat
  clear h hT hbt hbl hbh hY hJ0 hks hqs hn hkl hat hgood hrise
  refine callsIn_wide.2 ?_
  show Calls Tryz.prog 67 #[.func (.yield l') #[] #[], .pointer (some ⟨Bt, 0, none⟩), .pointer (some ⟨Bl, 0, none⟩), .pointer (some ⟨Bh, 0, none⟩)] W _
  go_enter Tryz.func67, Tryz.ntmps67
  go_wp2_with fail
  refine wp_region_rg (fun i => if i = 5 then some (fun v _ => v = .tuple #[.int .i64 at', .bool (decide (lo ∈ keysP T.ps))]) else none) fol (by kernel_rfl) (fun W2 hW2 hh => ?_)
  clear hh
  have q1 := rcell hW2 hx
  have q2 := rcell hW2 hxl
  have q4 := rcell hW2 c4
  repeat ((first | refine lex_move _ (by first | exact Or.inl rfl | exact Or.inr rfl) rfl rfl ?_ | (refine lex_float ?_ rfl rfl (fun w1 hb1 hf1 => ?_) ?_; rotate_left; (go_simp; (try simp (disch := omega) only [IntWalk.i64_quo, IntWalk.rem_in, IntWalk.i64_in, IntWalk.u64_in, IntWalk.u32_in, IntWalk.u8_in, IntWalk.toNatUp, IntWalk.iteOmega]); (try go_simp); rfl)) | refine lex_skip rfl ?_); simp only [Act.put, Act.eval, Array.getD_eq_getD_getElem?, List.getElem?_toArray, List.getElem?_cons_zero, List.getElem?_cons_succ, Option.getD_some, List.setIfInBounds_toArray, List.set_cons_succ, List.set_cons_zero])
  refine lex_make _ rfl (by exact fun _ _ _ h _ => h) rfl (fun w1 hb1 hf1 => ?_) ?_
  · have hb1' := hb1
    (unfold makes; go_simp; simp only [makesUpon])
    refine (HBS.out lo hlo _ (below_trans hW2 hb1')).mono ?_
    rintro e w' ⟨rfl, hB⟩
    rw [Hat.out]
    exact ⟨_, rfl, hB, rfl⟩
  rintro v3 W3 hB3 rfl
  simp only [Act.put, Act.eval, Array.getD_eq_getD_getElem?, List.getElem?_toArray, List.getElem?_cons_zero, List.getElem?_cons_succ, Option.getD_some, List.setIfInBounds_toArray, List.set_cons_succ, List.set_cons_zero]
  repeat ((first | refine lex_move _ (by first | exact Or.inl rfl | exact Or.inr rfl) rfl rfl ?_ | (refine lex_float ?_ rfl rfl (fun w1 hb1 hf1 => ?_) ?_; rotate_left; (go_simp; (try simp (disch := omega) only [IntWalk.i64_quo, IntWalk.rem_in, IntWalk.i64_in, IntWalk.u64_in, IntWalk.u32_in, IntWalk.u8_in, IntWalk.toNatUp, IntWalk.iteOmega]); (try go_simp); rfl)) | refine lex_skip rfl ?_); simp only [Act.put, Act.eval, Array.getD_eq_getD_getElem?, List.getElem?_toArray, List.getElem?_cons_zero, List.getElem?_cons_succ, Option.getD_some, List.setIfInBounds_toArray, List.set_cons_succ, List.set_cons_zero])
  refine lex_nil ?_
  have hBW := below_trans hW2 hB3
  have hx := below_cell hBW hx
  have hxh := below_cell hBW hxh
  have c4 := below_cell hBW c4
  have c3 := below_cell hBW c3
  have HBW := Lib.hid hBW
  clear q1 q2 q4 hW2 hB3 hBW hxl
  by_cases hhe : hi = []
  · have hem : (strOfNums hi).toList.isEmpty = true := by rw [hhe]; simp [strOfNums, ByteArray.toList_eq]
    have hen : walkEnd T.ps hi = n := by unfold walkEnd; rw [if_pos hhe]; exact Hn.out.1
    have Hen := Lib.hid hen
    clear hen hhe
    by_cases hae : at' < n
    · have hae1 : ¬ (n : Int) ≤ (at' : Int) := by omega
      have hae2 : ¬ n ≤ at' := by omega
      go_wp2_with fail
      have hnn := Nat.le_refl n
      obtain ⟨gs, sc0, hsl, -, -, -, -, hkc, -⟩ := owns_parts HKS.out (by omega)
      injection hsl with hsl1 _ hsl3
      subst hsl1 hsl3
      obtain ⟨N, hN⟩ : ∃ N, n - at' = N := ⟨_, rfl⟩
      obtain ⟨qs, hqs⟩ : ∃ qs, walkR T.ps lo hi = qs := ⟨_, rfl⟩
      have hqe : qs = (T.ps.take n).drop at' := by rw [← hqs]; unfold walkR; rw [Hen.out, Hat.out]
      have hqg : ∀ i, i < N → qs[i]? = T.ps[at' + i]? := fun i hi => by rw [hqe, List.getElem?_drop, List.getElem?_take_of_lt (by omega)]
      have hql : qs.length = N := by rw [hqe, List.length_drop, List.length_take, Hn.out.1, Nat.min_eq_left hnn, hN]
      have hkql : (keysP qs).length = N := by rw [keysP_length, hql]
      have hCl := SS.clone_any ⟨gs, at', none⟩ N (sc - at') (strs (keysP qs)) (by rw [strs_length, hkql, Nat.mul_one]) (strs_one _) (by omega) W3 (fun j u hu => by
        have hj := (List.getElem?_eq_some_iff.1 hu).1
        rw [strs_length, hkql] at hj
        have h1 := hkc (at' + j) (by omega)
        have h2 : (strs (keysP T.ps))[at' + j]? = (strs (keysP qs))[j]? := by
          unfold strs keysP
          rw [List.getElem?_map, List.getElem?_map, List.getElem?_map, List.getElem?_map, hqg j hj]
        rw [h2, hu] at h1
        rw [Addr.add_lit]
        exact below_cell HBW.out h1)
      have HQ := Lib.hid (And.intro hqs (And.intro hqg (And.intro hql hkql)))
      have HCl := Lib.hid hCl
      have hqm : ∀ p ∈ qs, p ∈ T.ps := fun p hp => by
        rw [hqe] at hp
        exact List.mem_of_mem_take (List.mem_of_mem_drop hp)
      have HQM := Lib.hid hqm
      have hN9 : N ≤ 500000000 := by omega
      have hN0 : 0 < N := by omega
      have HNN := Lib.hid hN
      have hMk := fun W' => make_rows N hN9 W'
      clear hCl hkc hqs hqe hqg hql hkql hqm c4 hN
      simp only [Option.map_some, Addr.add_lit, Nat.zero_add]
      rw [HNN.out]
      refine HCl.out.mono ?_
      rintro e w6 ⟨vk, rfl, hok, -, hB6⟩
      obtain ⟨ka, kc, rfl, -⟩ := owns_shape hok
      have hb7 := below_box w6 (.cells (List.replicate N (.slice none 0 0)).toArray 52)
      have g7 := World.alloc_heap_new w6 (.cells (List.replicate N (.slice none 0 0)).toArray 52)
      have hx0 := hx
      have hx := below_cell hb7 (below_cell hB6 hx)
      have c3 := below_cell hb7 (below_cell hB6 c3)
      have hB67 := below_trans hB6 hb7
      have hok7 := owns_below hok hb7
      have hs7 : w6.heap.size < (w6.alloc (.cells (List.replicate N (.slice none 0 0)).toArray 52)).heap.size := by simp
      have HMK := Lib.hid (hMk w6)
      have hK6 : ∀ j, (Value.slice ka N kc).ownBlock = some j → j < w6.heap.size := fun j hj => owns_lt hok hj
      have hsz6 := hB6.size
      have hbt6 : Bt < w6.heap.size := Nat.lt_of_lt_of_le (Nat.lt_of_lt_of_le (block_lt_of_cell hx0) hsz6) (Nat.le_refl _)
      clear hMk HCl hb7 hB6 hok hx0
      obtain ⟨w7, hw7⟩ : ∃ w7, w6.alloc (.cells (List.replicate N (.slice none 0 0)).toArray 52) = w7 := ⟨_, rfl⟩
      rw [hw7] at g7 hx c3 hB67 hok7 hs7 HMK
      obtain ⟨gv, hgv⟩ : ∃ g, w6.heap.size = g := ⟨_, rfl⟩
      rw [hgv] at g7 hs7 HMK
      clear hw7
      have hB7 : Below W.heap.size W w7 := HBW.out.trans (hB67.mono HBW.out.size)
      have hkb : ∀ j, (Value.slice ka N kc).ownBlock = some j → j < gv := fun j hj => by rw [← hgv]; exact hK6 j hj
      have hWg : W.heap.size ≤ gv := by rw [← hgv]; exact Nat.le_trans HBW.out.size hsz6
      have HB7 := Lib.hid (And.intro hB7 hok7)
      have HG7 := Lib.hid (show ValsAt w7 gv gv N qs [] from ⟨by simpa [Row] using g7, fun i p v h1 h2 => by simp at h2, fun i j v u k h1 h2 => by simp at h2, fun v hv => (by cases hv)⟩)
      have hbtn : Bt < gv := by rw [← hgv]; exact hbt6
      have hqtn : q.t < gv := by have := HT.out.lt q.t (.inl rfl); omega
      clear hB7 hok7 hB67 hK6 hsz6 hbt6 g7
      go_wp2_with (simp only [HMK.out])
      go_loopw [57] (fun vi wr => ∃ (i : Nat) (vs : List Value), vi = .int .i64 i ∧ i ≤ N ∧ vs.length = i ∧ ValsAt wr gv gv N qs vs ∧ Ext (· = gv) w7 wr) (fun vi _ => N - (intOf vi).toNat)
      case atStart => exact ⟨0, [], rfl, Nat.zero_le _, rfl, HG7.out, Ext.refl _ _⟩
      case round =>
        obtain ⟨i, vs, rfl, hi, hvl, hVs, hXr⟩ := hrel
        have hVs0 := hVs.row
        have hBr : Below W.heap.size W wr := HB7.out.1.trans (hXr.to_belowAt HB7.out.1.size fun k hk e => by omega)
        by_cases hiN : i < N
        · have hiN' : (i : Int) < (N : Int) := by omega
          obtain ⟨p, hp⟩ : ∃ p, qs[i]? = some p := ⟨_, List.getElem?_eq_getElem (by rw [HQ.out.2.2.1]; exact hiN)⟩
          have hpm := HQM.out p (List.mem_of_getElem? hp)
          obtain ⟨kg, kcc, hsl, -, -, -, -, hkc, -⟩ := owns_parts HB7.out.2 hN0
          injection hsl with hsl1 _ hsl3
          subst hsl1 hsl3
          have hks := hkc i (by omega)
          rw [strs_get (show (keysP qs)[i]? = some p.1 by unfold keysP; rw [List.getElem?_map, hp]; rfl)] at hks
          have hkg : kg < gv := hkb kg rfl
          have hks := hXr.cell_some hks (by show kg ≠ gv; omega)
          have hxr := hXr.cell_some hx (by show Bt ≠ gv; omega)
          have c3r := hXr.cell_some c3 (by show q.t ≠ gv; omega)
          have hTr := HT.out.below hBr
          obtain ⟨hkbs, hvbs, hkl1, hvl1⟩ := HT.out.good p hpm
          have hlk := hTr.map.look p.1 hkbs (by omega)
          have hval := hTr.val p.1
          rw [pair_val HT.out.rise hpm] at hval
          obtain ⟨va, vc, hsh, -⟩ := hval.shape
          rw [hsh] at hval hlk
          rw [u8s_length] at hval hlk
          have Hval := Lib.hid hval
          have HV := Lib.hid (And.intro hVs (And.intro hXr (And.intro hBr (And.intro hp hvl))))
          have hgr := block_lt_of_heap hVs.row
          have hown0 : wr.ownsRow wr.heap.size 5 1 (.slice none 0 0) 0 [] := World.ownsRow_nil _ _ _ _
          clear hval hsh hkc hVs hVs0 hXr hBr hTr hp hvl
          go_wp2_with (at_builtin; go_loud (refine own_append_src rfl _ _ rfl wr.heap.size 0 _ _ [] (u8s p.2) rfl hown0 rfl Hval.out (u8s_one _) (by rw [u8s_length]; omega) (Nat.le_refl _) ?_; intro v2 w2 hown2 hg2; obtain ⟨ya, yc, rfl, -⟩ := owns_shape hown2; have hrow2 := HV.out.1.row.below hg2; have hc2 : w2.cell? ⟨gv, i, none⟩ = some (.slice none 0 0) := (by rw [hrow2.cell, List.getElem?_append_right (by rw [HV.out.2.2.2.2]; exact Nat.le_refl _), HV.out.2.2.2.2, Nat.sub_self, List.getElem?_replicate, if_pos (by omega)]); have hf2 := hrow2.frozen i; have Hg2 := Lib.hid hg2; have Hown2 := Lib.hid hown2; clear hown2 hg2 hrow2))
          have hown := Hown2.out
          rw [u8s_length, Nat.zero_add, List.nil_append] at hown
          have hput := HV.out.1.put (by rw [HV.out.2.2.2.2]; exact hiN) (by rw [HQ.out.2.2.1]; exact Nat.le_refl _) (by rw [HV.out.2.2.2.2]; exact HV.out.2.2.2.1) Hg2.out (by omega) (Nat.le_refl _) hown
          rw [HV.out.2.2.2.2] at hput
          refine ⟨⟨i + 1, vs ++ [.slice ya p.2.length yc], by simp, by omega, by rw [List.length_append, HV.out.2.2.2.2]; rfl, ?_, ?_⟩, ?_⟩
          · rw [u8s_length]
            exact hput
          · exact (HV.out.2.1.trans (Ext.of_below (S := (· = gv)) Hg2.out) fun _ _ h => h).trans (Ext.setCell (S := (· = gv)) (p := ⟨gv, i, none⟩) rfl _) fun _ _ h => h
          · show N - ((i : Int) + 1).toNat < N - (i : Int).toNat
            omega
        · obtain rfl : i = N := by omega
          have hiN' : ¬ (i : Int) < (i : Int) := by omega
          rw [hvl, Nat.sub_self, List.replicate_zero, List.append_nil] at hVs0
          go_wp2_with fail
          generalize wr = wA at *
          have hinvW := (hG.fresh w W hn0 hW).1
          have hwA := hBr.size
          have hownA : wA.ownsRow W.heap.size 9 1 (.slice ka i kc) i (strs (keysP qs)) := owns_base (owns_ext HB7.out.2 hXr fun k hk e => by have := hkb k hk; omega) fun k hk => Nat.le_trans HBW.out.size (HB7.out.2.lt k hk).1
          have hK0 : KeptX inv Pr' (fun k => (Value.slice ka i kc).ownBlock = some k ∨ k = gv ∨ ∃ j v, 0 ≤ j ∧ vs[j]? = some v ∧ v.ownBlock = some k) wA wA := by
            have hAB : ∀ k, ((Value.slice ka i kc).ownBlock = some k ∨ k = gv ∨ ∃ j v, 0 ≤ j ∧ vs[j]? = some v ∧ v.ownBlock = some k) → W.heap.size ≤ k ∧ CellsB wA k := fun k hk => by
              rcases hk with hk | rfl | ⟨j, v, -, hv, hk⟩
              · exact ⟨(hownA.lt k hk).1, owns_cells hownA hk⟩
              · exact ⟨hWg, _, hVs.row, rfl⟩
              · obtain ⟨p, hp⟩ : ∃ p, qs[j]? = some p := ⟨_, List.getElem?_eq_getElem (by rw [HQ.out.2.2.1, ← hvl]; exact (List.getElem?_eq_some_iff.1 hv).1)⟩
                have ho := hVs.own j p v hp hv
                exact ⟨Nat.le_trans hWg (ho.lt k hk).1, owns_cells ho hk⟩
            refine ⟨(hG.fresh W wA hinvW hBr).1, fun k hk => ?_, fun k hk => (hAB k hk).2.lt, fun _ _ => rfl⟩
            obtain ⟨h1, o, h2, h3⟩ := hAB k hk
            exact (hG.fresh W wA hinvW hBr).2.2 k o h1 h2 h3
          have hJr : J [] wA := J_belowX hJ HJ0.out hBr
          have HVs := Lib.hid (And.intro hVs (And.intro hvl (And.intro hownA hVs0)))
          clear hVs hvl hownA hVs0 c3 hx
          refine (wpIn_wide (n := m)).1 ?_
          gi_loopw [75] (fun vi wr => ∃ (j : Nat) (pre : List (Value × Value)), vi = .int .i64 j ∧ j ≤ i ∧ pre.length = j ∧ J pre wr ∧ KeptX inv Pr' (fun k => (Value.slice ka i kc).ownBlock = some k ∨ k = gv ∨ ∃ j' v, j ≤ j' ∧ vs[j']? = some v ∧ v.ownBlock = some k) wA wr ∧ wA.heap.size ≤ wr.heap.size ∧
            ∀ (t : Nat) (y : Value × Value), pre[t]? = some y → vs[t]? = some y.2 ∧ ∀ k, y.1.ownBlock = some k → wA.heap.size ≤ k ∧ k < wr.heap.size) (fun vi _ => i - (intOf vi).toNat)
          case atStart => exact ⟨0, [], rfl, Nat.zero_le _, rfl, hJr, hK0, Nat.le_refl _, fun t y h => by simp at h⟩
          case round =>
            obtain ⟨j, pre, rfl, hj, hpl, hJ1, hK1, hsw, hpre⟩ := hrel
            by_cases hji : j < i
            · have hji' : (j : Int) < (i : Int) := by omega
              obtain ⟨p, hp⟩ : ∃ p, qs[j]? = some p := ⟨_, List.getElem?_eq_getElem (by rw [HQ.out.2.2.1]; exact hji)⟩
              obtain ⟨v, hv⟩ : ∃ v, vs[j]? = some v := ⟨_, List.getElem?_eq_getElem (by rw [HVs.out.2.1]; exact hji)⟩
              have hpm := HQM.out p (List.mem_of_getElem? hp)
              obtain ⟨hkbs, -, hkl1, hvl1⟩ := HT.out.good p hpm
              obtain ⟨kg, kcc, hsl, -, -, -, -, hkc, -⟩ := owns_parts HVs.out.2.2.1 hN0
              injection hsl with hsl1 _ hsl3
              subst hsl1 hsl3
              have hks := hkc j (by omega)
              rw [strs_get (show (keysP qs)[j]? = some p.1 by unfold keysP; rw [List.getElem?_map, hp]; rfl)] at hks
              have hks := hK1.cell (b := kg) (.inl rfl) hks
              have hvc : wA.cell? ⟨gv, j, none⟩ = some v := by
                have h1 := HVs.out.1.row.cell j
                rw [h1, HVs.out.2.1, Nat.sub_self, List.replicate_zero, List.append_nil, hv]
              have hvc := hK1.cell (b := gv) (.inr (.inl rfl)) hvc
              have hownv := HVs.out.1.own j p v hp hv
              have hvA : ∀ k, v.ownBlock = some k → (Value.slice (some ⟨kg, 0, none⟩) i kc).ownBlock = some k ∨ k = gv ∨ ∃ j' v', j ≤ j' ∧ vs[j']? = some v' ∧ v'.ownBlock = some k := fun k hk => .inr (.inr ⟨j, v, Nat.le_refl _, hv, hk⟩)
              have hownr : wr.ownsRow gv 5 1 v p.2.length (u8s p.2) := owns_of_block hownv fun k hk => hK1.eq k (hvA k hk)
              obtain ⟨u, W1, hcv, hcr, hbc, gu, cu, rfl⟩ := conv_row p.1 wr hkbs
              have hvc := below_cell hbc hvc
              have hK2 := hK1.below hG hbc
              have hJ2 := J_belowX hJ hJ1 hbc
              have hwW := hW.size
              have hul : ∀ k, (Value.slice (some ⟨gu, 0, none⟩) p.1.length cu).ownBlock = some k → wr.heap.size ≤ k := fun k hk => (hcr.cells hk).1
              have hvlt : ∀ k, v.ownBlock = some k → k < wA.heap.size := fun k hk => owns_lt hownv hk
              have hok : WalkOk Pr' w.heap.size qs pre (.slice (some ⟨gu, 0, none⟩) p.1.length cu, v) W1 := by
                refine ⟨p, by rw [hpl]; exact hp, hcr.base (by omega), owns_base (owns_below hownr hbc) fun k hk => ?_, fun k hk => ?_, fun k hk e => ?_, fun y hy k hk => ?_⟩
                · have := (hownr.lt k hk).1; omega
                · rcases hk with hk | hk
                  · obtain ⟨h1, o, h2, h3⟩ := hcr.cells hk
                    exact (hG.fresh wr W1 hK1.lo hbc).2.2 k o h1 h2 h3
                  · exact hK2.pr k (hvA k hk)
                · have h1 := hul k hk; have h2 := hvlt k e; omega
                · obtain ⟨t, ht⟩ := List.mem_iff_getElem?.1 hy
                  have htl := (List.getElem?_eq_some_iff.1 ht).1
                  obtain ⟨h1, h2⟩ := hpre t y ht
                  rcases hk with hk | hk
                  · have h3 := h2 k hk
                    exact ⟨fun e => by have := hul k e; omega, fun e => by have := hvlt k e; omega⟩
                  · have h4 : k < wA.heap.size := by
                      obtain ⟨p', hp'⟩ : ∃ p', qs[t]? = some p' := ⟨_, List.getElem?_eq_getElem (by rw [HQ.out.2.2.1]; omega)⟩
                      exact owns_lt (HVs.out.1.own t p' y.2 hp' h1) hk
                    exact ⟨fun e => by have := hul k e; omega, HVs.out.1.ne t j y.2 v k (by omega) h1 hv hk⟩
              rw [← HQ.out.1] at hok
              obtain ⟨fn, tmps, assign, body, hy, hR⟩ := HY.out _ _ _ hJ2 hok
              have hKX : ∀ k, ((Value.slice (some ⟨kg, 0, none⟩) i kc).ownBlock = some k ∨ k = gv ∨ ∃ j' v', j + 1 ≤ j' ∧ vs[j']? = some v' ∧ v'.ownBlock = some k) → ¬ ((Value.slice (some ⟨gu, 0, none⟩) p.1.length cu).ownBlock = some k ∨ v.ownBlock = some k) := fun k hk e => by
                have hk2 : k < wr.heap.size := hK1.lt k (hk.imp id fun h => h.imp id fun ⟨j', v', h1, h2⟩ => ⟨j', v', by omega, h2⟩)
                rcases e with e | e
                · have := hul k e; omega
                · rcases hk with hk | rfl | ⟨j', v', h1, h2, h3⟩
                  · have h4 := hkb k hk
                    have h5 := (hownv.lt k e).1
                    omega
                  · exact HVs.out.1.ng v (List.mem_of_getElem? hv) e
                  · exact HVs.out.1.ne j j' v v' k (by omega) hv h2 e h3
              have hpre2 : ∀ W5 : World, W1.heap.size ≤ W5.heap.size → ∀ (t : Nat) (y : Value × Value), (pre ++ [(Value.slice (some ⟨gu, 0, none⟩) p.1.length cu, v)])[t]? = some y → vs[t]? = some y.2 ∧ ∀ k, y.1.ownBlock = some k → wA.heap.size ≤ k ∧ k < W5.heap.size := fun W5 hs5 t y ht => by
                have hbs := hbc.size
                rcases Nat.lt_or_ge t pre.length with hl | hl
                · rw [List.getElem?_append_left hl] at ht
                  obtain ⟨h1, h2⟩ := hpre t y ht
                  exact ⟨h1, fun k hk => by have := h2 k hk; omega⟩
                · have : t = pre.length := by
                    have := (List.getElem?_eq_some_iff.1 ht).1
                    simp at this
                    omega
                  subst this
                  rw [List.getElem?_append_right (Nat.le_refl _), Nat.sub_self] at ht
                  simp at ht
                  subst ht
                  rw [hpl]
                  exact ⟨hv, fun k hk => by have h1 := hul k hk; have h2 := (hcr.cells hk).2.lt; omega⟩
              have HK2 := Lib.hid (And.intro (hK2.mono (A' := fun k => (Value.slice (some ⟨kg, 0, none⟩) i kc).ownBlock = some k ∨ k = gv ∨ ∃ j' v', j + 1 ≤ j' ∧ vs[j']? = some v' ∧ v'.ownBlock = some k) fun k hk => hk.imp id fun h => h.imp id fun ⟨j', v', h1, h2⟩ => ⟨j', v', by omega, h2⟩) (And.intro hKX (And.intro hpre2 (And.intro hbc.size hpl))))
              obtain ⟨va, vc, rfl, -⟩ := owns_shape hownr
              dsimp only at hy
              clear hKX hpre2 hK2 hJ2 hok hownr hownv hvA hul hvlt hcr hkc hK1 hpre hp hv hpl hJ1
              gi_wp2_with fail
              refine ⟨fun h => (by cases h), hR.mono ?_⟩
              rintro e W5 (⟨rfl, hJ5, hk5, -⟩ | ⟨rfl, hJx5, -⟩)
              · gi_wp2_with fail
                go_roundw
                case rel => exact ⟨j + 1, pre ++ [(.slice (some ⟨gu, 0, none⟩) p.1.length cu, .slice va p.2.length vc)], by simp, by omega, by rw [List.length_append, HK2.out.2.2.2.2]; rfl, hJ5, HK2.out.1.keep hk5 HK2.out.2.1, by have h1 := HK2.out.2.2.2.1; have h2 := hk5.size; omega, HK2.out.2.2.1 W5 hk5.size⟩
                case measure =>
                  show i - ((j : Int) + 1).toNat < i - (j : Int).toNat
                  omega
              · gi_wp2_with fail
                refine bodyPost_ret (results_none rfl _ _ _) rfl ?_
                exact ⟨⟨_, rfl⟩, .inr ⟨_, trivial, hJx5⟩⟩
            · obtain rfl : j = i := by omega
              have hji' : ¬ (j : Int) < (j : Int) := by omega
              gi_wp2_with fail
              go_end0
              exact ⟨⟨_, rfl⟩, .inl ⟨pre, by rw [HQ.out.1, HQ.out.2.2.1]; exact hpl, hJ1⟩⟩
    · have hae1 : (n : Int) ≤ (at' : Int) := by omega
      have hae2 : n ≤ at' := by omega
      go_wp2_with fail
      refine bodyPost_ret (results_none rfl _ _ _) rfl ?_
      refine ⟨⟨_, rfl⟩, .inl ⟨[], ?_, J_belowX hJ HJ0.out HBW.out⟩⟩
      unfold walkR
      rw [Hen.out, Hat.out]
      simp
      omega
  · have hem : (strOfNums hi).toList.isEmpty = false := by
      cases hi with
      | nil => exact absurd rfl hhe
      | cons x l => simp [strOfNums, ByteArray.toList_eq]
    have hpe := posK_le (keysP T.ps) hi
    rw [Hn.out.2] at hpe
    obtain ⟨en, hen⟩ : ∃ e, posK (keysP T.ps) hi = e := ⟨_, rfl⟩
    have hen' : walkEnd T.ps hi = en := by unfold walkEnd; rw [if_neg hhe]; exact hen
    have Hen := Lib.hid hen'
    have Hpe := Lib.hid hen
    rw [hen] at hpe
    clear hen hen' hhe
    go_wp2_with fail
    refine wp_region_rg (fun i => if i = 5 then some (fun v _ => v = .tuple #[.int .i64 en, .bool (decide (hi ∈ keysP T.ps))]) else none) fol (by kernel_rfl) (fun W4 hW4 hh => ?_)
    clear hh
    have q1 := rcell hW4 hx
    have q2 := rcell hW4 hxh
    have q4 := rcell hW4 c4
    repeat ((first | refine lex_move _ (by first | exact Or.inl rfl | exact Or.inr rfl) rfl rfl ?_ | (refine lex_float ?_ rfl rfl (fun w1 hb1 hf1 => ?_) ?_; rotate_left; (go_simp; (try simp (disch := omega) only [IntWalk.i64_quo, IntWalk.rem_in, IntWalk.i64_in, IntWalk.u64_in, IntWalk.u32_in, IntWalk.u8_in, IntWalk.toNatUp, IntWalk.iteOmega]); (try go_simp); rfl)) | refine lex_skip rfl ?_); simp only [Act.put, Act.eval, Array.getD_eq_getD_getElem?, List.getElem?_toArray, List.getElem?_cons_zero, List.getElem?_cons_succ, Option.getD_some, List.setIfInBounds_toArray, List.set_cons_succ, List.set_cons_zero])
    refine lex_make _ rfl (by exact fun _ _ _ h _ => h) rfl (fun w1 hb1 hf1 => ?_) ?_
    · have hb1' := hb1
      (unfold makes; go_simp; simp only [makesUpon])
      refine (HBS.out hi hhi _ (below_trans HBW.out (below_trans hW4 hb1'))).mono ?_
      rintro e w' ⟨rfl, hB⟩
      rw [Hpe.out]
      exact ⟨_, rfl, hB, rfl⟩
    rintro v5 W5 hB5 rfl
    simp only [Act.put, Act.eval, Array.getD_eq_getD_getElem?, List.getElem?_toArray, List.getElem?_cons_zero, List.getElem?_cons_succ, Option.getD_some, List.setIfInBounds_toArray, List.set_cons_succ, List.set_cons_zero]
    repeat ((first | refine lex_move _ (by first | exact Or.inl rfl | exact Or.inr rfl) rfl rfl ?_ | (refine lex_float ?_ rfl rfl (fun w1 hb1 hf1 => ?_) ?_; rotate_left; (go_simp; (try simp (disch := omega) only [IntWalk.i64_quo, IntWalk.rem_in, IntWalk.i64_in, IntWalk.u64_in, IntWalk.u32_in, IntWalk.u8_in, IntWalk.toNatUp, IntWalk.iteOmega]); (try go_simp); rfl)) | refine lex_skip rfl ?_); simp only [Act.put, Act.eval, Array.getD_eq_getD_getElem?, List.getElem?_toArray, List.getElem?_cons_zero, List.getElem?_cons_succ, Option.getD_some, List.setIfInBounds_toArray, List.set_cons_succ, List.set_cons_zero])
    refine lex_nil ?_
    have hBW2 := below_trans hW4 hB5
    have hx := below_cell hBW2 hx
    have c4 := below_cell hBW2 c4
    have c3 := below_cell hBW2 c3
    have HBW := Lib.hid (below_trans HBW.out hBW2)
    clear q1 q2 q4 hW4 hB5 hBW2
    by_cases hae : at' < en
    · have hae1 : ¬ (en : Int) ≤ (at' : Int) := by omega
      have hae2 : ¬ en ≤ at' := by omega
      go_wp2_with fail
      have hnn := hpe
      obtain ⟨gs, sc0, hsl, -, -, -, -, hkc, -⟩ := owns_parts HKS.out (by omega)
      injection hsl with hsl1 _ hsl3
      subst hsl1 hsl3
      obtain ⟨N, hN⟩ : ∃ N, en - at' = N := ⟨_, rfl⟩
      obtain ⟨qs, hqs⟩ : ∃ qs, walkR T.ps lo hi = qs := ⟨_, rfl⟩
      have hqe : qs = (T.ps.take en).drop at' := by rw [← hqs]; unfold walkR; rw [Hen.out, Hat.out]
      have hqg : ∀ i, i < N → qs[i]? = T.ps[at' + i]? := fun i hi => by rw [hqe, List.getElem?_drop, List.getElem?_take_of_lt (by omega)]
      have hql : qs.length = N := by rw [hqe, List.length_drop, List.length_take, Hn.out.1, Nat.min_eq_left hnn, hN]
      have hkql : (keysP qs).length = N := by rw [keysP_length, hql]
      have hCl := SS.clone_any ⟨gs, at', none⟩ N (sc - at') (strs (keysP qs)) (by rw [strs_length, hkql, Nat.mul_one]) (strs_one _) (by omega) W5 (fun j u hu => by
        have hj := (List.getElem?_eq_some_iff.1 hu).1
        rw [strs_length, hkql] at hj
        have h1 := hkc (at' + j) (by omega)
        have h2 : (strs (keysP T.ps))[at' + j]? = (strs (keysP qs))[j]? := by
          unfold strs keysP
          rw [List.getElem?_map, List.getElem?_map, List.getElem?_map, List.getElem?_map, hqg j hj]
        rw [h2, hu] at h1
        rw [Addr.add_lit]
        exact below_cell HBW.out h1)
      have HQ := Lib.hid (And.intro hqs (And.intro hqg (And.intro hql hkql)))
      have HCl := Lib.hid hCl
      have hqm : ∀ p ∈ qs, p ∈ T.ps := fun p hp => by
        rw [hqe] at hp
        exact List.mem_of_mem_take (List.mem_of_mem_drop hp)
      have HQM := Lib.hid hqm
      have hN9 : N ≤ 500000000 := by omega
      have hN0 : 0 < N := by omega
      have HNN := Lib.hid hN
      have hMk := fun W' => make_rows N hN9 W'
      clear hCl hkc hqs hqe hqg hql hkql hqm c4 hN
      simp only [Option.map_some, Addr.add_lit, Nat.zero_add]
      rw [HNN.out]
      refine HCl.out.mono ?_
      rintro e w6 ⟨vk, rfl, hok, -, hB6⟩
      obtain ⟨ka, kc, rfl, -⟩ := owns_shape hok
      have hb7 := below_box w6 (.cells (List.replicate N (.slice none 0 0)).toArray 52)
      have g7 := World.alloc_heap_new w6 (.cells (List.replicate N (.slice none 0 0)).toArray 52)
      have hx0 := hx
      have hx := below_cell hb7 (below_cell hB6 hx)
      have c3 := below_cell hb7 (below_cell hB6 c3)
      have hB67 := below_trans hB6 hb7
      have hok7 := owns_below hok hb7
      have hs7 : w6.heap.size < (w6.alloc (.cells (List.replicate N (.slice none 0 0)).toArray 52)).heap.size := by simp
      have HMK := Lib.hid (hMk w6)
      have hK6 : ∀ j, (Value.slice ka N kc).ownBlock = some j → j < w6.heap.size := fun j hj => owns_lt hok hj
      have hsz6 := hB6.size
      have hbt6 : Bt < w6.heap.size := Nat.lt_of_lt_of_le (Nat.lt_of_lt_of_le (block_lt_of_cell hx0) hsz6) (Nat.le_refl _)
      clear hMk HCl hb7 hB6 hok hx0
      obtain ⟨w7, hw7⟩ : ∃ w7, w6.alloc (.cells (List.replicate N (.slice none 0 0)).toArray 52) = w7 := ⟨_, rfl⟩
      rw [hw7] at g7 hx c3 hB67 hok7 hs7 HMK
      obtain ⟨gv, hgv⟩ : ∃ g, w6.heap.size = g := ⟨_, rfl⟩
      rw [hgv] at g7 hs7 HMK
      clear hw7
      have hB7 : Below W.heap.size W w7 := HBW.out.trans (hB67.mono HBW.out.size)
      have hkb : ∀ j, (Value.slice ka N kc).ownBlock = some j → j < gv := fun j hj => by rw [← hgv]; exact hK6 j hj
      have hWg : W.heap.size ≤ gv := by rw [← hgv]; exact Nat.le_trans HBW.out.size hsz6
      have HB7 := Lib.hid (And.intro hB7 hok7)
      have HG7 := Lib.hid (show ValsAt w7 gv gv N qs [] from ⟨by simpa [Row] using g7, fun i p v h1 h2 => by simp at h2, fun i j v u k h1 h2 => by simp at h2, fun v hv => (by cases hv)⟩)
      have hbtn : Bt < gv := by rw [← hgv]; exact hbt6
      have hqtn : q.t < gv := by have := HT.out.lt q.t (.inl rfl); omega
      clear hB7 hok7 hB67 hK6 hsz6 hbt6 g7
      go_wp2_with (simp only [HMK.out])
      go_loopw [57] (fun vi wr => ∃ (i : Nat) (vs : List Value), vi = .int .i64 i ∧ i ≤ N ∧ vs.length = i ∧ ValsAt wr gv gv N qs vs ∧ Ext (· = gv) w7 wr) (fun vi _ => N - (intOf vi).toNat)
      case atStart => exact ⟨0, [], rfl, Nat.zero_le _, rfl, HG7.out, Ext.refl _ _⟩
      case round =>
        obtain ⟨i, vs, rfl, hi, hvl, hVs, hXr⟩ := hrel
        have hVs0 := hVs.row
        have hBr : Below W.heap.size W wr := HB7.out.1.trans (hXr.to_belowAt HB7.out.1.size fun k hk e => by omega)
        by_cases hiN : i < N
        · have hiN' : (i : Int) < (N : Int) := by omega
          obtain ⟨p, hp⟩ : ∃ p, qs[i]? = some p := ⟨_, List.getElem?_eq_getElem (by rw [HQ.out.2.2.1]; exact hiN)⟩
          have hpm := HQM.out p (List.mem_of_getElem? hp)
          obtain ⟨kg, kcc, hsl, -, -, -, -, hkc, -⟩ := owns_parts HB7.out.2 hN0
          injection hsl with hsl1 _ hsl3
          subst hsl1 hsl3
          have hks := hkc i (by omega)
          rw [strs_get (show (keysP qs)[i]? = some p.1 by unfold keysP; rw [List.getElem?_map, hp]; rfl)] at hks
          have hkg : kg < gv := hkb kg rfl
          have hks := hXr.cell_some hks (by show kg ≠ gv; omega)
          have hxr := hXr.cell_some hx (by show Bt ≠ gv; omega)
          have c3r := hXr.cell_some c3 (by show q.t ≠ gv; omega)
          have hTr := HT.out.below hBr
          obtain ⟨hkbs, hvbs, hkl1, hvl1⟩ := HT.out.good p hpm
          have hlk := hTr.map.look p.1 hkbs (by omega)
          have hval := hTr.val p.1
          rw [pair_val HT.out.rise hpm] at hval
          obtain ⟨va, vc, hsh, -⟩ := hval.shape
          rw [hsh] at hval hlk
          rw [u8s_length] at hval hlk
          have Hval := Lib.hid hval
          have HV := Lib.hid (And.intro hVs (And.intro hXr (And.intro hBr (And.intro hp hvl))))
          have hgr := block_lt_of_heap hVs.row
          have hown0 : wr.ownsRow wr.heap.size 5 1 (.slice none 0 0) 0 [] := World.ownsRow_nil _ _ _ _
          clear hval hsh hkc hVs hVs0 hXr hBr hTr hp hvl
          go_wp2_with (at_builtin; go_loud (refine own_append_src rfl _ _ rfl wr.heap.size 0 _ _ [] (u8s p.2) rfl hown0 rfl Hval.out (u8s_one _) (by rw [u8s_length]; omega) (Nat.le_refl _) ?_; intro v2 w2 hown2 hg2; obtain ⟨ya, yc, rfl, -⟩ := owns_shape hown2; have hrow2 := HV.out.1.row.below hg2; have hc2 : w2.cell? ⟨gv, i, none⟩ = some (.slice none 0 0) := (by rw [hrow2.cell, List.getElem?_append_right (by rw [HV.out.2.2.2.2]; exact Nat.le_refl _), HV.out.2.2.2.2, Nat.sub_self, List.getElem?_replicate, if_pos (by omega)]); have hf2 := hrow2.frozen i; have Hg2 := Lib.hid hg2; have Hown2 := Lib.hid hown2; clear hown2 hg2 hrow2))
          have hown := Hown2.out
          rw [u8s_length, Nat.zero_add, List.nil_append] at hown
          have hput := HV.out.1.put (by rw [HV.out.2.2.2.2]; exact hiN) (by rw [HQ.out.2.2.1]; exact Nat.le_refl _) (by rw [HV.out.2.2.2.2]; exact HV.out.2.2.2.1) Hg2.out (by omega) (Nat.le_refl _) hown
          rw [HV.out.2.2.2.2] at hput
          refine ⟨⟨i + 1, vs ++ [.slice ya p.2.length yc], by simp, by omega, by rw [List.length_append, HV.out.2.2.2.2]; rfl, ?_, ?_⟩, ?_⟩
          · rw [u8s_length]
            exact hput
          · exact (HV.out.2.1.trans (Ext.of_below (S := (· = gv)) Hg2.out) fun _ _ h => h).trans (Ext.setCell (S := (· = gv)) (p := ⟨gv, i, none⟩) rfl _) fun _ _ h => h
          · show N - ((i : Int) + 1).toNat < N - (i : Int).toNat
            omega
        · obtain rfl : i = N := by omega
          have hiN' : ¬ (i : Int) < (i : Int) := by omega
          rw [hvl, Nat.sub_self, List.replicate_zero, List.append_nil] at hVs0
          go_wp2_with fail
          generalize wr = wA at *
          have hinvW := (hG.fresh w W hn0 hW).1
          have hwA := hBr.size
          have hownA : wA.ownsRow W.heap.size 9 1 (.slice ka i kc) i (strs (keysP qs)) := owns_base (owns_ext HB7.out.2 hXr fun k hk e => by have := hkb k hk; omega) fun k hk => Nat.le_trans HBW.out.size (HB7.out.2.lt k hk).1
          have hK0 : KeptX inv Pr' (fun k => (Value.slice ka i kc).ownBlock = some k ∨ k = gv ∨ ∃ j v, 0 ≤ j ∧ vs[j]? = some v ∧ v.ownBlock = some k) wA wA := by
            have hAB : ∀ k, ((Value.slice ka i kc).ownBlock = some k ∨ k = gv ∨ ∃ j v, 0 ≤ j ∧ vs[j]? = some v ∧ v.ownBlock = some k) → W.heap.size ≤ k ∧ CellsB wA k := fun k hk => by
              rcases hk with hk | rfl | ⟨j, v, -, hv, hk⟩
              · exact ⟨(hownA.lt k hk).1, owns_cells hownA hk⟩
              · exact ⟨hWg, _, hVs.row, rfl⟩
              · obtain ⟨p, hp⟩ : ∃ p, qs[j]? = some p := ⟨_, List.getElem?_eq_getElem (by rw [HQ.out.2.2.1, ← hvl]; exact (List.getElem?_eq_some_iff.1 hv).1)⟩
                have ho := hVs.own j p v hp hv
                exact ⟨Nat.le_trans hWg (ho.lt k hk).1, owns_cells ho hk⟩
            refine ⟨(hG.fresh W wA hinvW hBr).1, fun k hk => ?_, fun k hk => (hAB k hk).2.lt, fun _ _ => rfl⟩
            obtain ⟨h1, o, h2, h3⟩ := hAB k hk
            exact (hG.fresh W wA hinvW hBr).2.2 k o h1 h2 h3
          have hJr : J [] wA := J_belowX hJ HJ0.out hBr
          have HVs := Lib.hid (And.intro hVs (And.intro hvl (And.intro hownA hVs0)))
          clear hVs hvl hownA hVs0 c3 hx
          refine (wpIn_wide (n := m)).1 ?_
          gi_loopw [75] (fun vi wr => ∃ (j : Nat) (pre : List (Value × Value)), vi = .int .i64 j ∧ j ≤ i ∧ pre.length = j ∧ J pre wr ∧ KeptX inv Pr' (fun k => (Value.slice ka i kc).ownBlock = some k ∨ k = gv ∨ ∃ j' v, j ≤ j' ∧ vs[j']? = some v ∧ v.ownBlock = some k) wA wr ∧ wA.heap.size ≤ wr.heap.size ∧
            ∀ (t : Nat) (y : Value × Value), pre[t]? = some y → vs[t]? = some y.2 ∧ ∀ k, y.1.ownBlock = some k → wA.heap.size ≤ k ∧ k < wr.heap.size) (fun vi _ => i - (intOf vi).toNat)
          case atStart => exact ⟨0, [], rfl, Nat.zero_le _, rfl, hJr, hK0, Nat.le_refl _, fun t y h => by simp at h⟩
          case round =>
            obtain ⟨j, pre, rfl, hj, hpl, hJ1, hK1, hsw, hpre⟩ := hrel
            by_cases hji : j < i
            · have hji' : (j : Int) < (i : Int) := by omega
              obtain ⟨p, hp⟩ : ∃ p, qs[j]? = some p := ⟨_, List.getElem?_eq_getElem (by rw [HQ.out.2.2.1]; exact hji)⟩
              obtain ⟨v, hv⟩ : ∃ v, vs[j]? = some v := ⟨_, List.getElem?_eq_getElem (by rw [HVs.out.2.1]; exact hji)⟩
              have hpm := HQM.out p (List.mem_of_getElem? hp)
              obtain ⟨hkbs, -, hkl1, hvl1⟩ := HT.out.good p hpm
              obtain ⟨kg, kcc, hsl, -, -, -, -, hkc, -⟩ := owns_parts HVs.out.2.2.1 hN0
              injection hsl with hsl1 _ hsl3
              subst hsl1 hsl3
              have hks := hkc j (by omega)
              rw [strs_get (show (keysP qs)[j]? = some p.1 by unfold keysP; rw [List.getElem?_map, hp]; rfl)] at hks
              have hks := hK1.cell (b := kg) (.inl rfl) hks
              have hvc : wA.cell? ⟨gv, j, none⟩ = some v := by
                have h1 := HVs.out.1.row.cell j
                rw [h1, HVs.out.2.1, Nat.sub_self, List.replicate_zero, List.append_nil, hv]
              have hvc := hK1.cell (b := gv) (.inr (.inl rfl)) hvc
              have hownv := HVs.out.1.own j p v hp hv
              have hvA : ∀ k, v.ownBlock = some k → (Value.slice (some ⟨kg, 0, none⟩) i kc).ownBlock = some k ∨ k = gv ∨ ∃ j' v', j ≤ j' ∧ vs[j']? = some v' ∧ v'.ownBlock = some k := fun k hk => .inr (.inr ⟨j, v, Nat.le_refl _, hv, hk⟩)
              have hownr : wr.ownsRow gv 5 1 v p.2.length (u8s p.2) := owns_of_block hownv fun k hk => hK1.eq k (hvA k hk)
              obtain ⟨u, W1, hcv, hcr, hbc, gu, cu, rfl⟩ := conv_row p.1 wr hkbs
              have hvc := below_cell hbc hvc
              have hK2 := hK1.below hG hbc
              have hJ2 := J_belowX hJ hJ1 hbc
              have hwW := hW.size
              have hul : ∀ k, (Value.slice (some ⟨gu, 0, none⟩) p.1.length cu).ownBlock = some k → wr.heap.size ≤ k := fun k hk => (hcr.cells hk).1
              have hvlt : ∀ k, v.ownBlock = some k → k < wA.heap.size := fun k hk => owns_lt hownv hk
              have hok : WalkOk Pr' w.heap.size qs pre (.slice (some ⟨gu, 0, none⟩) p.1.length cu, v) W1 := by
                refine ⟨p, by rw [hpl]; exact hp, hcr.base (by omega), owns_base (owns_below hownr hbc) fun k hk => ?_, fun k hk => ?_, fun k hk e => ?_, fun y hy k hk => ?_⟩
                · have := (hownr.lt k hk).1; omega
                · rcases hk with hk | hk
                  · obtain ⟨h1, o, h2, h3⟩ := hcr.cells hk
                    exact (hG.fresh wr W1 hK1.lo hbc).2.2 k o h1 h2 h3
                  · exact hK2.pr k (hvA k hk)
                · have h1 := hul k hk; have h2 := hvlt k e; omega
                · obtain ⟨t, ht⟩ := List.mem_iff_getElem?.1 hy
                  have htl := (List.getElem?_eq_some_iff.1 ht).1
                  obtain ⟨h1, h2⟩ := hpre t y ht
                  rcases hk with hk | hk
                  · have h3 := h2 k hk
                    exact ⟨fun e => by have := hul k e; omega, fun e => by have := hvlt k e; omega⟩
                  · have h4 : k < wA.heap.size := by
                      obtain ⟨p', hp'⟩ : ∃ p', qs[t]? = some p' := ⟨_, List.getElem?_eq_getElem (by rw [HQ.out.2.2.1]; omega)⟩
                      exact owns_lt (HVs.out.1.own t p' y.2 hp' h1) hk
                    exact ⟨fun e => by have := hul k e; omega, HVs.out.1.ne t j y.2 v k (by omega) h1 hv hk⟩
              rw [← HQ.out.1] at hok
              obtain ⟨fn, tmps, assign, body, hy, hR⟩ := HY.out _ _ _ hJ2 hok
              have hKX : ∀ k, ((Value.slice (some ⟨kg, 0, none⟩) i kc).ownBlock = some k ∨ k = gv ∨ ∃ j' v', j + 1 ≤ j' ∧ vs[j']? = some v' ∧ v'.ownBlock = some k) → ¬ ((Value.slice (some ⟨gu, 0, none⟩) p.1.length cu).ownBlock = some k ∨ v.ownBlock = some k) := fun k hk e => by
                have hk2 : k < wr.heap.size := hK1.lt k (hk.imp id fun h => h.imp id fun ⟨j', v', h1, h2⟩ => ⟨j', v', by omega, h2⟩)
                rcases e with e | e
                · have := hul k e; omega
                · rcases hk with hk | rfl | ⟨j', v', h1, h2, h3⟩
                  · have h4 := hkb k hk
                    have h5 := (hownv.lt k e).1
                    omega
                  · exact HVs.out.1.ng v (List.mem_of_getElem? hv) e
                  · exact HVs.out.1.ne j j' v v' k (by omega) hv h2 e h3
              have hpre2 : ∀ W5 : World, W1.heap.size ≤ W5.heap.size → ∀ (t : Nat) (y : Value × Value), (pre ++ [(Value.slice (some ⟨gu, 0, none⟩) p.1.length cu, v)])[t]? = some y → vs[t]? = some y.2 ∧ ∀ k, y.1.ownBlock = some k → wA.heap.size ≤ k ∧ k < W5.heap.size := fun W5 hs5 t y ht => by
                have hbs := hbc.size
                rcases Nat.lt_or_ge t pre.length with hl | hl
                · rw [List.getElem?_append_left hl] at ht
                  obtain ⟨h1, h2⟩ := hpre t y ht
                  exact ⟨h1, fun k hk => by have := h2 k hk; omega⟩
                · have : t = pre.length := by
                    have := (List.getElem?_eq_some_iff.1 ht).1
                    simp at this
                    omega
                  subst this
                  rw [List.getElem?_append_right (Nat.le_refl _), Nat.sub_self] at ht
                  simp at ht
                  subst ht
                  rw [hpl]
                  exact ⟨hv, fun k hk => by have h1 := hul k hk; have h2 := (hcr.cells hk).2.lt; omega⟩
              have HK2 := Lib.hid (And.intro (hK2.mono (A' := fun k => (Value.slice (some ⟨kg, 0, none⟩) i kc).ownBlock = some k ∨ k = gv ∨ ∃ j' v', j + 1 ≤ j' ∧ vs[j']? = some v' ∧ v'.ownBlock = some k) fun k hk => hk.imp id fun h => h.imp id fun ⟨j', v', h1, h2⟩ => ⟨j', v', by omega, h2⟩) (And.intro hKX (And.intro hpre2 (And.intro hbc.size hpl))))
              obtain ⟨va, vc, rfl, -⟩ := owns_shape hownr
              dsimp only at hy
              clear hKX hpre2 hK2 hJ2 hok hownr hownv hvA hul hvlt hcr hkc hK1 hpre hp hv hpl hJ1
              gi_wp2_with fail
              refine ⟨fun h => (by cases h), hR.mono ?_⟩
              rintro e W5 (⟨rfl, hJ5, hk5, -⟩ | ⟨rfl, hJx5, -⟩)
              · gi_wp2_with fail
                go_roundw
                case rel => exact ⟨j + 1, pre ++ [(.slice (some ⟨gu, 0, none⟩) p.1.length cu, .slice va p.2.length vc)], by simp, by omega, by rw [List.length_append, HK2.out.2.2.2.2]; rfl, hJ5, HK2.out.1.keep hk5 HK2.out.2.1, by have h1 := HK2.out.2.2.2.1; have h2 := hk5.size; omega, HK2.out.2.2.1 W5 hk5.size⟩
                case measure =>
                  show i - ((j : Int) + 1).toNat < i - (j : Int).toNat
                  omega
              · gi_wp2_with fail
                refine bodyPost_ret (results_none rfl _ _ _) rfl ?_
                exact ⟨⟨_, rfl⟩, .inr ⟨_, trivial, hJx5⟩⟩
            · obtain rfl : j = i := by omega
              have hji' : ¬ (j : Int) < (j : Int) := by omega
              gi_wp2_with fail
              go_end0
              exact ⟨⟨_, rfl⟩, .inl ⟨pre, by rw [HQ.out.1, HQ.out.2.2.1]; exact hpl, hJ1⟩⟩
    · have hae1 : (en : Int) ≤ (at' : Int) := by omega
      have hae2 : en ≤ at' := by omega
      go_wp2_with fail
      refine bodyPost_ret (results_none rfl _ _ _) rfl ?_
      refine ⟨⟨_, rfl⟩, .inl ⟨[], ?_, J_belowX hJ HJ0.out HBW.out⟩⟩
      unfold walkR
      rw [Hen.out, Hat.out]
      simp
      omega
end Go.Proofs.YtbjofbhhnmehgaaGreatDoor.TT
namespace Go.RG
open Go.RowKit
/-- every operation waits for earlier ones alone -/
def fwdB (ops : Array Oper) : Bool := (List.range ops.size).all fun i => match ops[i]? with
  | some o => o.after.all fun e => !Region.binds .any e || decide (e.on < i)
  | none => true
theorem fwd_all {ops : Array Oper} (h : fwdB ops = true) {listed : Array Bool} (hs : listed.size = ops.size) (hr : Region.ready .any ops listed = []) : ∀ j, j < ops.size → listed.getD j true = true := by
  intro j
  induction j using Nat.strongRecOn with
  | _ j ih =>
    intro hj
    cases hb : listed.getD j true with
    | true => rfl
    | false =>
      exfalso
      have ho : ops[j]? = some ops[j] := Array.getElem?_eq_getElem hj
      have : j ∈ Region.ready .any ops listed := by
        refine mem_ready.2 ⟨hb, _, ho, fun e he hbd => ?_⟩
        have h1 := List.all_eq_true.1 h j (List.mem_range.2 hj)
        rw [ho] at h1
        have h2 := Array.all_eq_true_iff_forall_mem.1 h1 e he
        simp only [hbd, Bool.not_true, Bool.false_or, decide_eq_true_eq] at h2
        have h3 := ih e.on h2 (by omega)
        rw [Array.getD_eq_getD_getElem?] at h3 ⊢
        have h4 : e.on < listed.size := by omega
        simp [h4] at h3 ⊢
        exact h3
      rw [hr] at this
      cases this
section
variable {P : Program} {Q : Exit → Act → World → Prop} {ls : List Oper}
theorem wpAny_of_inv (I : (Nat → Bool) → Act → World → Prop) (hf : fwdB ls.toArray = true)
    (hstep : ∀ (L : Nat → Bool) (a : Act) (w : World) (i : Nat) (o : Oper), I L a w → L i = false → ls[i]? = some o → (∀ e ∈ o.after, Region.binds .any e = true → L e.on = true) →
      (Region.wanted o (yielded ls.toArray a.tmps) = true ∧ makes P o a w fun v w' => I (fun j => decide (j = i) || L j) (a.put o.dst v) w') ∨ (Region.wanted o (yielded ls.toArray a.tmps) = false ∧ I (fun j => decide (j = i) || L j) (a.put o.dst undef) w))
    (hend : ∀ (L : Nat → Bool) (a : Act) (w : World), I L a w → (∀ j, j < ls.length → L j = true) → Q .normal a w) :
    ∀ (fuel : Nat) (listed : Array Bool) (a : Act) (w : World), listed.size = ls.length → (listed.toList.count false) ≤ fuel → I (fun j => listed.getD j false) a w → wpAny P .any ls.toArray Q fuel listed a w := by
  have key : ∀ (listed : Array Bool) (a : Act) (w : World), listed.size = ls.length → I (fun j => listed.getD j false) a w → Region.ready .any ls.toArray listed = [] → Q .normal a w := fun listed a w hs hI hr => by
    refine hend _ a w hI fun j hj => ?_
    have := fwd_all hf (by simpa using hs) hr j (by simpa using hj)
    rw [Array.getD_eq_getD_getElem?] at this ⊢
    have h4 : j < listed.size := by omega
    simp [h4] at this ⊢
    exact this
  intro fuel
  induction fuel with
  | zero =>
    intro listed a w hs hc hI
    have hr : Region.ready .any ls.toArray listed = [] := by
      rw [List.eq_nil_iff_forall_not_mem]
      intro j hj
      obtain ⟨h1, -⟩ := mem_ready.1 hj
      have h2 : listed.toList.count false = 0 := by omega
      rw [List.count_eq_zero] at h2
      rw [Array.getD_eq_getD_getElem?] at h1
      rcases Nat.lt_or_ge j listed.size with h | h
      · simp [h] at h1
        exact h2 (by rw [← h1]; simp)
      · simp [h] at h1
    exact ⟨hr, key listed a w hs hI hr⟩
  | succ fuel ih =>
    intro listed a w hs hc hI
    refine ⟨fun hr => key listed a w hs hI hr, fun i hi => ?_⟩
    obtain ⟨h1, o, ho, h2⟩ := mem_ready.1 hi
    have hil : i < listed.size := by
      rcases Nat.lt_or_ge i listed.size with h | h
      · exact h
      · rw [Array.getD_eq_getD_getElem?] at h1
        simp [h] at h1
    have hLi : listed.getD i false = false := by
      rw [Array.getD_eq_getD_getElem?] at h1 ⊢
      simp [hil] at h1 ⊢
      exact h1
    have hset : (fun j => (listed.setIfInBounds i true).getD j false) = fun j => decide (j = i) || listed.getD j false := by
      funext j
      by_cases e : j = i
      · subst e
        simp [Array.getD_eq_getD_getElem?, hil]
      · have e' : ¬ i = j := fun h => e h.symm
        simp [Array.getD_eq_getD_getElem?, e, Array.getElem?_setIfInBounds, e']
    have hcount : (listed.setIfInBounds i true).toList.count false ≤ fuel := by
      have h3 : listed.toList[i]? = some false := by
        rw [Array.getElem?_toList, Array.getElem?_eq_getElem hil]
        rw [Array.getD_eq_getD_getElem?] at h1
        simp [hil] at h1
        rw [h1]
      rw [Array.toList_setIfInBounds]
      have h4 := List.count_set (a := true) (b := false) (l := listed.toList) (i := i) (by simpa using hil)
      have h5 : listed.toList[i] = false := by
        have := h3
        rw [List.getElem?_eq_getElem (by simpa using hil)] at this
        exact Option.some.inj this
      have h6 : 0 < List.count false listed.toList := List.count_pos_iff.2 (List.mem_of_getElem? h3)
      have h7 : (if (listed.toList[i] == false) = true then 1 else 0) = 1 := by rw [h5]; rfl
      have h8 : (if (true == false) = true then 1 else 0) = 0 := rfl
      rw [h4, h7, h8]
      omega
    have hgo := fun a' w' h => ih (listed.setIfInBounds i true) a' w' (by simpa using hs) hcount (by rw [hset]; exact h)
    unfold wpOp
    simp only [ho]
    rcases hstep _ a w i o hI hLi (by simpa using ho) h2 with ⟨hw, hm⟩ | ⟨hw, hI'⟩
    · rw [if_pos hw]
      exact .inl (wp_of_makes hm fun v w' h => hgo _ _ h)
    · rw [if_neg (by simp [hw])]
      exact hgo _ _ hI'
/-- **A region that draws, by an invariant.** -/
theorem wp_region_inv {id : Nat} {a : Act} {w : World} (I : (Nat → Bool) → Act → World → Prop) (hm : P.follows .mixedOrders = true) (hf : fwdB ls.toArray = true)
    (h0 : ∀ b : World, b.heap = w.heap → Below w.heap.size w b → I (fun _ => false) a b)
    (hstep : ∀ (L : Nat → Bool) (a : Act) (w : World) (i : Nat) (o : Oper), I L a w → L i = false → ls[i]? = some o → (∀ e ∈ o.after, Region.binds .any e = true → L e.on = true) →
      (Region.wanted o (yielded ls.toArray a.tmps) = true ∧ makes P o a w fun v w' => I (fun j => decide (j = i) || L j) (a.put o.dst v) w') ∨ (Region.wanted o (yielded ls.toArray a.tmps) = false ∧ I (fun j => decide (j = i) || L j) (a.put o.dst undef) w))
    (hend : ∀ (L : Nat → Bool) (a : Act) (w : World), I L a w → (∀ j, j < ls.length → L j = true) → Q .normal a w) :
    (Code.region id ls.toArray true).wp P Q a w := by
  refine wp_region_any hm ?_
  refine wpAny_of_inv I hf hstep hend _ _ _ _ (by simp) ?_ ?_
  · simp [List.count_replicate_self]
  · have hb : I (fun _ => false) a { w with drawn := w.drawn + 1 } := h0 _ rfl (Below.refl _ w).drew
    have : (fun j => (Array.replicate ls.toArray.size false).getD j false) = fun _ => false := by
      funext j
      simp [Array.getD_eq_getD_getElem?, Array.getElem?_replicate]
      split <;> rfl
    rw [this]
    exact hb
end
end Go.RG
namespace Go.Proofs.YtbjofbhhnmehgaaGreatDoor.TT
open Go.RowKit Go.RG Go.Hp Go.Proofs.YtbjofbhhnmehgaaGreatDoor


/-- what holds of Walk's region when so many of its operations are done -/
def WalkI (W0 : World) (p : Option Addr) (v1 v2 : Value) (lo hi : List Int) (B : Nat) (L : Nat → Bool) (a : Act) (w : World) : Prop :=
  ∃ x7 x8 x9 x10 x11 x12, a = { tmps := #[.pointer p, v1, v2, .pointer (some ⟨B, 0, none⟩), undef, undef, .nilFunc, x7, x8, x9, x10, x11, x12, undef], defers := [] } ∧ Below W0.heap.size W0 w ∧ (L 0 = true → x9 = v1) ∧ (L 1 = true → x10 = .string (strOfNums lo)) ∧ (L 2 = true → x11 = v2) ∧ (L 3 = true → x12 = .string (strOfNums hi)) ∧
    (L 4 = true → ∃ g, x7 = .pointer (some ⟨g, 0, none⟩) ∧ W0.heap.size ≤ g ∧ w.heap[g]? = some (.cells #[if L 6 then .string (strOfNums lo) else .string { data := #[] }] 9 (0, 0))) ∧
    (L 5 = true → ∃ g, x8 = .pointer (some ⟨g, 0, none⟩) ∧ W0.heap.size ≤ g ∧ w.heap[g]? = some (.cells #[if L 7 then .string (strOfNums hi) else .string { data := #[] }] 9 (0, 0))) ∧ (L 4 = true → L 5 = true → x7 ≠ x8) ∧ (L 6 = true → L 4 = true) ∧ (L 7 = true → L 5 = true)
set_option maxHeartbeats 1000000 in
set_option maxRecDepth 100000 in
theorem twalk_any (p : Option Addr) (v1 v2 : Value) (lo hi : List Int) (w : World) (h1 : Src w v1 (u8s lo)) (h2 : Src w v2 (u8s hi)) :
    Calls Tryz.prog 28 #[.pointer p, v1, v2] w fun e w' => ∃ Bt Bl Bh, e = .returned (.func (.func 67) #[] #[.pointer (some ⟨Bt, 0, none⟩), .pointer (some ⟨Bl, 0, none⟩), .pointer (some ⟨Bh, 0, none⟩)]) ∧ w.heap.size ≤ Bt ∧ w.heap.size ≤ Bl ∧ w.heap.size ≤ Bh ∧
      w'.cell? ⟨Bt, 0, none⟩ = some (.pointer p) ∧ w'.cell? ⟨Bl, 0, none⟩ = some (.string (strOfNums lo)) ∧ w'.cell? ⟨Bh, 0, none⟩ = some (.string (strOfNums hi)) ∧ Below w.heap.size w w' := by
  have hmf : ∀ (fn : Fn) (first cap : Array Value) (w : World), (Instr.makeFunc fn first cap).run Tryz.prog w = .ok (.func fn first cap) w := fun _ _ _ _ => rfl
  have hb0 := below_box w (.cells #[.pointer p] 26)
  have g0 := World.alloc_heap_new w (.cells #[.pointer p] 26)
  have H1 := Lib.hid (And.intro (h1.below hb0) (And.intro (h2.below hb0) (And.intro hb0 g0)))
  obtain ⟨a1, c1, rfl, -⟩ := h1.shape
  obtain ⟨a2, c2, rfl, -⟩ := h2.shape
  clear h1 h2 hb0 g0
  go_enter Tryz.func28, Tryz.ntmps28
  go_wp2_with fail
  generalize hW0 : w.alloc (.cells #[.pointer p] 26) = W0 at H1 ⊢
  refine wp_region_inv (WalkI W0 p (.slice a1 (u8s lo).length c1) (.slice a2 (u8s hi).length c2) lo hi w.heap.size) fol (by kernel_rfl) (fun b hb1 hb2 => ?_) (fun L a w1 i o hI hL ho haf => ?_) (fun L a w1 hI hall => ?_)
  · exact ⟨_, _, _, _, _, _, rfl, hb2, (fun h => by cases h), (fun h => by cases h), (fun h => by cases h), (fun h => by cases h), (fun h => by cases h), (fun h => by cases h), (fun h => by cases h), (fun h => by cases h), (fun h => by cases h)⟩
  · obtain ⟨x7, x8, x9, x10, x11, x12, rfl, hB, k0, k1, k2, k3, k4, k5, k6, k7, k8⟩ := hI
    have hil : i < 8 := (List.getElem?_eq_some_iff.1 ho).1
    left
    rcases (show i = 0 ∨ i = 1 ∨ i = 2 ∨ i = 3 ∨ i = 4 ∨ i = 5 ∨ i = 6 ∨ i = 7 by omega) with rfl | rfl | rfl | rfl | rfl | rfl | rfl | rfl <;> (simp only [List.getElem?_cons_zero, List.getElem?_cons_succ, Option.some.injEq] at ho; subst ho; refine ⟨rfl, ?_⟩; simp [Region.binds] at haf)
    · (unfold makes; go_simp; (try simp only [makesUpon]); (try simp only [Act.put, Act.eval, Array.getD_eq_getD_getElem?, List.getElem?_toArray, List.getElem?_cons_zero, List.getElem?_cons_succ, Option.getD_some, List.setIfInBounds_toArray, List.set_cons_succ, List.set_cons_zero]))
      exact ⟨x7, x8, _, x10, x11, x12, rfl, hB, fun _ => rfl, by simpa using k1, by simpa using k2, by simpa using k3, by simpa using k4, by simpa using k5, by simpa using k6, by simpa using k7, by simpa using k8⟩
    · have hx9 := k0 haf
      subst hx9
      have hcv := conv_src (H1.out.1.below hB)
      (unfold makes; go_simp; (try simp only [makesUpon]); (try simp only [Act.put, Act.eval, Array.getD_eq_getD_getElem?, List.getElem?_toArray, List.getElem?_cons_zero, List.getElem?_cons_succ, Option.getD_some, List.setIfInBounds_toArray, List.set_cons_succ, List.set_cons_zero]))
      exact ⟨x7, x8, _, _, x11, x12, rfl, hB, by simp, fun _ => rfl, by simpa using k2, by simpa using k3, by simpa using k4, by simpa using k5, by simpa using k6, by simpa using k7, by simpa using k8⟩
    · (unfold makes; go_simp; (try simp only [makesUpon]); (try simp only [Act.put, Act.eval, Array.getD_eq_getD_getElem?, List.getElem?_toArray, List.getElem?_cons_zero, List.getElem?_cons_succ, Option.getD_some, List.setIfInBounds_toArray, List.set_cons_succ, List.set_cons_zero]))
      exact ⟨x7, x8, x9, x10, _, x12, rfl, hB, by simpa using k0, by simpa using k1, fun _ => rfl, by simpa using k3, by simpa using k4, by simpa using k5, by simpa using k6, by simpa using k7, by simpa using k8⟩
    · have hx11 := k2 haf
      subst hx11
      have hcv := conv_src (H1.out.2.1.below hB)
      (unfold makes; go_simp; (try simp only [makesUpon]); (try simp only [Act.put, Act.eval, Array.getD_eq_getD_getElem?, List.getElem?_toArray, List.getElem?_cons_zero, List.getElem?_cons_succ, Option.getD_some, List.setIfInBounds_toArray, List.set_cons_succ, List.set_cons_zero]))
      exact ⟨x7, x8, x9, x10, _, _, rfl, hB, by simpa using k0, by simpa using k1, by simp, fun _ => rfl, by simpa using k4, by simpa using k5, by simpa using k6, by simpa using k7, by simpa using k8⟩
    · have hb1 := below_box w1 (.cells #[.string { data := #[] }] 9)
      have hg1 := World.alloc_heap_new w1 (.cells #[.string { data := #[] }] 9)
      have HH := Lib.hid (And.intro hb1 hg1)
      clear hb1 hg1
      (unfold makes; go_simp; (try simp only [makesUpon]); (try simp only [Act.put, Act.eval, Array.getD_eq_getD_getElem?, List.getElem?_toArray, List.getElem?_cons_zero, List.getElem?_cons_succ, Option.getD_some, List.setIfInBounds_toArray, List.set_cons_succ, List.set_cons_zero]))
      have hL6 : L 6 = false := by cases h : L 6 with | false => rfl | true => exact absurd (k7 h) (by rw [hL]; decide)
      refine ⟨_, x8, x9, x10, x11, x12, rfl, below_trans hB HH.out.1, by simpa using k0, by simpa using k1, by simpa using k2, by simpa using k3, fun _ => ⟨w1.heap.size, rfl, hB.size, by simpa [hL6] using HH.out.2⟩, fun h => ?_, fun _ h e => ?_, by simp [hL6], by simpa using k8⟩
      · obtain ⟨g, e1, e2, e3⟩ := k5 (by simpa using h)
        exact ⟨g, e1, e2, by simpa using below_heap HH.out.1 e3⟩
      · obtain ⟨g, e1, e2, e3⟩ := k5 (by simpa using h)
        rw [e1] at e
        injection e with e
        injection e with e
        injection e with e
        have := block_lt_of_heap e3
        omega
    · have hb1 := below_box w1 (.cells #[.string { data := #[] }] 9)
      have hg1 := World.alloc_heap_new w1 (.cells #[.string { data := #[] }] 9)
      have HH := Lib.hid (And.intro hb1 hg1)
      clear hb1 hg1
      (unfold makes; go_simp; (try simp only [makesUpon]); (try simp only [Act.put, Act.eval, Array.getD_eq_getD_getElem?, List.getElem?_toArray, List.getElem?_cons_zero, List.getElem?_cons_succ, Option.getD_some, List.setIfInBounds_toArray, List.set_cons_succ, List.set_cons_zero]))
      have hL7 : L 7 = false := by cases h : L 7 with | false => rfl | true => exact absurd (k8 h) (by rw [hL]; decide)
      refine ⟨x7, _, x9, x10, x11, x12, rfl, below_trans hB HH.out.1, by simpa using k0, by simpa using k1, by simpa using k2, by simpa using k3, fun h => ?_, fun _ => ⟨w1.heap.size, rfl, hB.size, by simpa [hL7] using HH.out.2⟩, fun h _ e => ?_, by simpa using k7, by simp [hL7]⟩
      · obtain ⟨g, e1, e2, e3⟩ := k4 (by simpa using h)
        exact ⟨g, e1, e2, by simpa using below_heap HH.out.1 e3⟩
      · obtain ⟨g, e1, e2, e3⟩ := k4 (by simpa using h)
        rw [e1] at e
        injection e with e
        injection e with e
        injection e with e
        have := block_lt_of_heap e3
        omega
    · have h0 : L 0 = true := by first | exact haf.1 | exact haf.2.2.2.2.2.2.2.1 | exact haf.2.2.2.2.2.2.2.2.1 | exact haf.2.1 | exact haf.2.2.1 | exact haf.2.2.2.1 | exact haf.2.2.2.2.1 | exact haf.2.2.2.2.2.1 | exact haf.2.2.2.2.2.2.1 | exact haf.2.2.2 | exact haf.2.2.2.2 | exact haf.2.2.2.2.2 | exact haf.2.2.2.2.2.2 | exact haf.2
      have h1 : L 1 = true := by first | exact haf.1 | exact haf.2.2.2.2.2.2.2.1 | exact haf.2.2.2.2.2.2.2.2.1 | exact haf.2.1 | exact haf.2.2.1 | exact haf.2.2.2.1 | exact haf.2.2.2.2.1 | exact haf.2.2.2.2.2.1 | exact haf.2.2.2.2.2.2.1 | exact haf.2.2.2 | exact haf.2.2.2.2 | exact haf.2.2.2.2.2 | exact haf.2.2.2.2.2.2 | exact haf.2
      have h4 : L 4 = true := by first | exact haf.1 | exact haf.2.2.2.2.2.2.2.1 | exact haf.2.2.2.2.2.2.2.2.1 | exact haf.2.1 | exact haf.2.2.1 | exact haf.2.2.2.1 | exact haf.2.2.2.2.1 | exact haf.2.2.2.2.2.1 | exact haf.2.2.2.2.2.2.1 | exact haf.2.2.2 | exact haf.2.2.2.2 | exact haf.2.2.2.2.2 | exact haf.2.2.2.2.2.2 | exact haf.2
      have h5 : L 5 = true := by first | exact haf.1 | exact haf.2.2.2.2.2.2.2.1 | exact haf.2.2.2.2.2.2.2.2.1 | exact haf.2.1 | exact haf.2.2.1 | exact haf.2.2.2.1 | exact haf.2.2.2.2.1 | exact haf.2.2.2.2.2.1 | exact haf.2.2.2.2.2.2.1 | exact haf.2.2.2 | exact haf.2.2.2.2 | exact haf.2.2.2.2.2 | exact haf.2.2.2.2.2.2 | exact haf.2
      have hx9 := k0 h0
      subst hx9
      obtain ⟨g, e1, e2, e3⟩ := k4 h4
      obtain ⟨g', f1, f2, f3⟩ := k5 h5
      have hx10 := k1 h1
      have hne := k6 h4 h5
      subst e1 f1 hx10
      have hgg : g ≠ g' := fun e => hne (by rw [e])
      rw [hL] at e3
      simp only [Bool.false_eq_true, if_false] at e3
      have hc := box11 e3 0 _ rfl
      have hf : w1.frozen? ⟨g, 0, none⟩ = false := by simp [World.frozen?, e3]
      have hs := heap_cell (j := 0) e3 (.string (strOfNums lo))
      have hX : Ext (· = g) w1 (w1.setCell ⟨g, 0, none⟩ (.string (strOfNums lo))) := Ext.setCell (S := (· = g)) (p := ⟨g, 0, none⟩) rfl _
      have HH := Lib.hid (And.intro hs hX)
      clear hs hX
      (unfold makes; go_simp; (try simp only [makesUpon]); (try simp only [Act.put, Act.eval, Array.getD_eq_getD_getElem?, List.getElem?_toArray, List.getElem?_cons_zero, List.getElem?_cons_succ, Option.getD_some, List.setIfInBounds_toArray, List.set_cons_succ, List.set_cons_zero]))
      refine ⟨_, _, _, _, x11, x12, rfl, hB.trans (HH.out.2.to_belowAt hB.size fun k hk e => by omega), by simp, by simp, by simpa using k2, by simpa using k3, fun _ => ⟨g, rfl, e2, by simpa using HH.out.1⟩, fun _ => ⟨g', rfl, f2, by simpa using (HH.out.2.block _ (block_lt_of_heap f3) (fun e => hgg e.symm)).trans f3⟩, fun _ _ => hne, by simpa using h4, by simpa using k8⟩
    · have h3 : L 3 = true := by first | exact haf.1 | exact haf.2.2.2.2.2.2.2.1 | exact haf.2.2.2.2.2.2.2.2.1 | exact haf.2.1 | exact haf.2.2.1 | exact haf.2.2.2.1 | exact haf.2.2.2.2.1 | exact haf.2.2.2.2.2.1 | exact haf.2.2.2.2.2.2.1 | exact haf.2.2.2 | exact haf.2.2.2.2 | exact haf.2.2.2.2.2 | exact haf.2.2.2.2.2.2 | exact haf.2
      have h4 : L 4 = true := by first | exact haf.1 | exact haf.2.2.2.2.2.2.2.1 | exact haf.2.2.2.2.2.2.2.2.1 | exact haf.2.1 | exact haf.2.2.1 | exact haf.2.2.2.1 | exact haf.2.2.2.2.1 | exact haf.2.2.2.2.2.1 | exact haf.2.2.2.2.2.2.1 | exact haf.2.2.2 | exact haf.2.2.2.2 | exact haf.2.2.2.2.2 | exact haf.2.2.2.2.2.2 | exact haf.2
      have h5 : L 5 = true := by first | exact haf.1 | exact haf.2.2.2.2.2.2.2.1 | exact haf.2.2.2.2.2.2.2.2.1 | exact haf.2.1 | exact haf.2.2.1 | exact haf.2.2.2.1 | exact haf.2.2.2.2.1 | exact haf.2.2.2.2.2.1 | exact haf.2.2.2.2.2.2.1 | exact haf.2.2.2 | exact haf.2.2.2.2 | exact haf.2.2.2.2.2 | exact haf.2.2.2.2.2.2 | exact haf.2
      have h0 : L 0 = true := by first | exact haf.1 | exact haf.2.2.2.2.2.2.2.1 | exact haf.2.2.2.2.2.2.2.2.1 | exact haf.2.1 | exact haf.2.2.1 | exact haf.2.2.2.1 | exact haf.2.2.2.2.1 | exact haf.2.2.2.2.2.1 | exact haf.2.2.2.2.2.2.1 | exact haf.2.2.2 | exact haf.2.2.2.2 | exact haf.2.2.2.2.2 | exact haf.2.2.2.2.2.2 | exact haf.2
      have h1 : L 1 = true := by first | exact haf.1 | exact haf.2.2.2.2.2.2.2.1 | exact haf.2.2.2.2.2.2.2.2.1 | exact haf.2.1 | exact haf.2.2.1 | exact haf.2.2.2.1 | exact haf.2.2.2.2.1 | exact haf.2.2.2.2.2.1 | exact haf.2.2.2.2.2.2.1 | exact haf.2.2.2 | exact haf.2.2.2.2 | exact haf.2.2.2.2.2 | exact haf.2.2.2.2.2.2 | exact haf.2
      have h2 : L 2 = true := by first | exact haf.1 | exact haf.2.2.2.2.2.2.2.1 | exact haf.2.2.2.2.2.2.2.2.1 | exact haf.2.1 | exact haf.2.2.1 | exact haf.2.2.2.1 | exact haf.2.2.2.2.1 | exact haf.2.2.2.2.2.1 | exact haf.2.2.2.2.2.2.1 | exact haf.2.2.2 | exact haf.2.2.2.2 | exact haf.2.2.2.2.2 | exact haf.2.2.2.2.2.2 | exact haf.2
      have hx9 := k0 h0
      have hx10 := k1 h1
      have hx11 := k2 h2
      subst hx9 hx10 hx11
      obtain ⟨g, e1, e2, e3⟩ := k4 h4
      obtain ⟨g', f1, f2, f3⟩ := k5 h5
      have hx12 := k3 h3
      have hne := k6 h4 h5
      subst e1 f1 hx12
      have hgg : g ≠ g' := fun e => hne (by rw [e])
      rw [hL] at f3
      simp only [Bool.false_eq_true, if_false] at f3
      have hc := box11 f3 0 _ rfl
      have hf : w1.frozen? ⟨g', 0, none⟩ = false := by simp [World.frozen?, f3]
      have hs := heap_cell (j := 0) f3 (.string (strOfNums hi))
      have hX : Ext (· = g') w1 (w1.setCell ⟨g', 0, none⟩ (.string (strOfNums hi))) := Ext.setCell (S := (· = g')) (p := ⟨g', 0, none⟩) rfl _
      have HH := Lib.hid (And.intro hs hX)
      clear hs hX
      (unfold makes; go_simp; (try simp only [makesUpon]); (try simp only [Act.put, Act.eval, Array.getD_eq_getD_getElem?, List.getElem?_toArray, List.getElem?_cons_zero, List.getElem?_cons_succ, Option.getD_some, List.setIfInBounds_toArray, List.set_cons_succ, List.set_cons_zero]))
      refine ⟨_, _, _, _, _, _, rfl, hB.trans (HH.out.2.to_belowAt hB.size fun k hk e => by omega), by simp, by simp, by simp, by simp, fun _ => ⟨g, rfl, e2, by simpa using (HH.out.2.block _ (block_lt_of_heap e3) hgg).trans e3⟩, fun _ => ⟨g', rfl, f2, by simpa using HH.out.1⟩, fun _ _ => hne, by simpa using k7, by simpa using h5⟩
  · obtain ⟨x7, x8, x9, x10, x11, x12, rfl, hB, k0, k1, k2, k3, k4, k5, k6, k7, k8⟩ := hI
    have ha := fun j (hj : j < 8) => hall j hj
    obtain ⟨g, e1, e2, e3⟩ := k4 (ha 4 (by decide))
    obtain ⟨g', f1, f2, f3⟩ := k5 (ha 5 (by decide))
    have hx9 := k0 (ha 0 (by decide))
    have hx10 := k1 (ha 1 (by decide))
    have hx11 := k2 (ha 2 (by decide))
    have hx12 := k3 (ha 3 (by decide))
    subst e1 f1 hx9 hx10 hx11 hx12
    rw [ha 6 (by decide)] at e3
    rw [ha 7 (by decide)] at f3
    simp only [if_true] at e3 f3
    have HE := Lib.hid (And.intro e2 (And.intro e3 (And.intro f2 (And.intro f3 hB))))
    clear k0 k1 k2 k3 k4 k5 k6 k7 k8 ha hall e2 e3 f2 f3 hB
    go_wp2_with fail
    go_ret
    have hs := H1.out.2.2.1.size
    exact ⟨w.heap.size, g, g', rfl, Nat.le_refl _, by have := HE.out.1; omega, by have := HE.out.2.2.1; omega, below_cell HE.out.2.2.2.2 (box11 H1.out.2.2.2 0 _ rfl), box11 HE.out.2.1 0 _ rfl, box11 HE.out.2.2.2.1 0 _ rfl, H1.out.2.2.1.trans (HE.out.2.2.2.2.mono hs)⟩
end Go.Proofs.YtbjofbhhnmehgaaGreatDoor.TT
namespace Go.Proofs.YtbjofbhhnmehgaaGreatDoor.TT
open Go.RowKit Go.RG Go.Hp Go.Proofs.YtbjofbhhnmehgaaGreatDoor


/-- a number brought between two -/
def spanZ (n lo hi : Int) : Int := lo + (if n < 0 then -(n + 1) else n) % (hi - lo + 1)
theorem spanZ_in (n : Int) {lo hi : Int} (h : lo ≤ hi) : lo ≤ spanZ n lo hi ∧ spanZ n lo hi ≤ hi := by
  unfold spanZ
  have h1 := Int.emod_nonneg (if n < 0 then -(n + 1) else n) (show hi - lo + 1 ≠ 0 by omega)
  have h2 := Int.emod_lt_of_pos (if n < 0 then -(n + 1) else n) (show 0 < hi - lo + 1 by omega)
  omega
theorem span_any (n lo hi : Int) (hn : -9223372036854775808 ≤ n ∧ n ≤ 9223372036854775807) (hlo : 0 ≤ lo ∧ lo ≤ hi ∧ hi ≤ 1099511627776) (w : World) :
    Calls Tryz.prog 13 #[.int .i64 n, .int .i64 lo, .int .i64 hi] w fun e w' => e = .returned (.int .i64 (spanZ n lo hi)) ∧ w = w' := by
  obtain ⟨h1, h2, h3⟩ := hlo
  have e1 := IntWalk.i64_in (n + 1) 
  have e2 := IntWalk.i64_in (-(n + 1))
  have e3 := IntWalk.i64_in (hi - lo) (by omega)
  have e4 := IntWalk.i64_in (hi - lo + 1) (by omega)
  have hne : ¬ hi - lo + 1 = 0 := by omega
  have Hsp := Lib.hid (spanZ_in n h2)
  by_cases h0 : n < 0
  · have e1 := e1 (by omega)
    have e2 := e2 (by omega)
    have hs : lo + -(n + 1).tmod (hi - lo + 1) = spanZ n lo hi := by
      unfold spanZ
      rw [if_pos h0, ← Int.neg_tmod, Int.tmod_eq_emod_of_nonneg (by omega)]
    have Hs := Lib.hid hs
    clear hs
    go_enter Tryz.func13, Tryz.ntmps13
    go_wp2_with fail
    go_ret
    rw [Hs.out, IntWalk.wrap64_in _ (by have := Hsp.out; omega)]
    exact ⟨rfl, rfl⟩
  · have hs : lo + n % (hi - lo + 1) = spanZ n lo hi := by unfold spanZ; rw [if_neg h0]
    have Hs := Lib.hid hs
    clear hs e1 e2
    go_enter Tryz.func13, Tryz.ntmps13
    go_wp2_with fail
    go_ret
    rw [Hs.out, IntWalk.wrap64_in _ (by have := Hsp.out; omega)]
    exact ⟨rfl, rfl⟩
/-! ### two rows of bytes, read side by side -/
theorem src_at {w : World} {v : Value} {bs : List Int} (h : Src w v (u8s bs)) {i : Nat} {b : Int} (hi : bs[i]? = some b) : ∃ g o c, v = .slice (some ⟨g, o, none⟩) bs.length c ∧ w.cell? ⟨g, o + i, none⟩ = some (.int .u8 b) := by
  rcases h with ⟨g, o, c, e, -, h⟩ | ⟨-, e⟩
  · rw [u8s_length] at e
    exact ⟨g, o, c, e, h i _ (u8s_get hi)⟩
  · have := congrArg List.length e
    rw [u8s_length] at this
    have h2 := (List.getElem?_eq_some_iff.1 hi).1
    simp at this
    rw [this] at h2
    simp at h2
set_option maxHeartbeats 1000000 in
set_option maxRecDepth 100000 in
theorem bytes_any (va vb : Value) (xs ys : List Int) (w : World) (hx : Src w va (u8s xs)) (hy : Src w vb (u8s ys)) (hl : xs.length ≤ 1099511627776) (hl2 : ys.length ≤ 1099511627776) :
    Calls Tryz.prog 29 #[va, vb] w fun e w' => e = .returned (.bool (decide (xs = ys))) ∧ Below w.heap.size w w' := by
  obtain ⟨aa, ca, rfl, -⟩ := hx.shape
  obtain ⟨ab, cb, rfl, -⟩ := hy.shape
  rw [u8s_length] at hx ⊢
  rw [u8s_length] at hy ⊢
  have HX := Lib.hid hx
  have HY := Lib.hid hy
  obtain ⟨n, hn⟩ : ∃ n, xs.length = n := ⟨_, rfl⟩
  obtain ⟨m, hm⟩ : ∃ m, ys.length = m := ⟨_, rfl⟩
  rw [hn] at hl HX ⊢
  rw [hm] at hl2 HY ⊢
  have Hn := Lib.hid (And.intro hn hm)
  clear hx hy hn hm
  by_cases hnm : n = m
  · subst hnm
    go_enter Tryz.func29, Tryz.ntmps29
    go_wp2_with fail
    go_loopw [5] (fun vi wr => ∃ i : Nat, vi = .int .i64 i ∧ i ≤ n ∧ xs.take i = ys.take i ∧ Below w.heap.size w wr) (fun vi _ => n - (intOf vi).toNat)
    case atStart => exact ⟨0, rfl, Nat.zero_le _, rfl, Below.refl _ _⟩
    case round =>
      obtain ⟨i, rfl, hi, htk, hB⟩ := hrel
      by_cases hin : i < n
      · have hin' : (i : Int) < (n : Int) := by omega
        obtain ⟨x, hxi⟩ : ∃ x, xs[i]? = some x := ⟨_, List.getElem?_eq_getElem (by rw [Hn.out.1]; exact hin)⟩
        obtain ⟨y, hyi⟩ : ∃ y, ys[i]? = some y := ⟨_, List.getElem?_eq_getElem (by rw [Hn.out.2]; exact hin)⟩
        obtain ⟨g1, o1, c1, e1, k1⟩ := src_at (HX.out.below hB) hxi
        obtain ⟨g2, o2, c2, e2, k2⟩ := src_at (HY.out.below hB) hyi
        injection e1 with e1 f1 e3
        injection e2 with e2 f2 e4
        subst e1 e3 e2 e4
        clear f1 f2
        have HT := Lib.hid (And.intro htk (And.intro hxi hyi))
        clear htk hxi hyi
        go_wp2_with fail
        refine wp_region_rg (fun _ => none) fol (by kernel_rfl) (fun W hW hh => ?_)
        clear hh
        have q1 := rcell hW k1
        have q2 := rcell hW k2
        repeat ((first | refine lex_move _ (by first | exact Or.inl rfl | exact Or.inr rfl) rfl rfl ?_ | (refine lex_float ?_ rfl rfl (fun w1 hb1 hf1 => ?_) ?_; rotate_left; (go_simp; (try simp (disch := omega) only [IntWalk.i64_quo, IntWalk.rem_in, IntWalk.i64_in, IntWalk.u64_in, IntWalk.u32_in, IntWalk.u8_in, IntWalk.toNatUp, IntWalk.iteOmega]); (try go_simp); rfl)) | refine lex_skip rfl ?_); simp only [Act.put, Act.eval, Array.getD_eq_getD_getElem?, List.getElem?_toArray, List.getElem?_cons_zero, List.getElem?_cons_succ, Option.getD_some, List.setIfInBounds_toArray, List.set_cons_succ, List.set_cons_zero])
        refine lex_nil ?_
        have hB2 := hB.trans (hW.mono hB.size)
        clear q1 q2
        by_cases hxy : x = y
        · subst hxy
          have hne : (x != x) = false := by simp
          go_wp2_with fail
          refine ⟨⟨i + 1, by simp, by omega, ?_, hB2⟩, ?_⟩
          · rw [List.take_add_one, List.take_add_one, HT.out.1, HT.out.2.1, HT.out.2.2]
          · show n - ((i : Int) + 1).toNat < n - (i : Int).toNat
            omega
        · have hne : (x != y) = true := by simp [bne, hxy]
          go_wp2_with fail
          go_ret
          have hf : decide (xs = ys) = false := decide_eq_false (by rintro rfl; exact hxy (Option.some.inj (HT.out.2.1.symm.trans HT.out.2.2)))
          rw [hf]
          exact ⟨rfl, hB2⟩
      · obtain rfl : i = n := by omega
        have hin' : ¬ (i : Int) < (i : Int) := by omega
        rw [List.take_of_length_le (by rw [Hn.out.1]; exact Nat.le_refl _), List.take_of_length_le (by rw [Hn.out.2]; exact Nat.le_refl _)] at htk
        have HT := Lib.hid htk
        clear htk
        go_wp2_with fail
        go_ret
        exact ⟨by rw [HT.out]; simp, hB⟩
  · have hnm' : ((n : Int) != (m : Int)) = true := by
      rw [bne, beq_eq_false_iff_ne.2 (by omega)]
      rfl
    go_enter Tryz.func29, Tryz.ntmps29
    go_wp2_with fail
    go_ret
    have hf : decide (xs = ys) = false := decide_eq_false (by rintro rfl; exact hnm (Hn.out.1.symm.trans Hn.out.2))
    rw [hf]
    exact ⟨rfl, Below.refl _ _⟩
end Go.Proofs.YtbjofbhhnmehgaaGreatDoor.TT
namespace Go.Proofs.YtbjofbhhnmehgaaGreatDoor.TT
open Go.RowKit Go.RG Go.Hp Go.Proofs.YtbjofbhhnmehgaaGreatDoor
/-- a disk in order -/
structure Dsk.wf (x : Dsk) : Prop where
  len : x.torn.length = x.dur.length
  some' : ∀ i, i ∈ x.ks → x.cache i ≠ []
  none' : ∀ i, i ∉ x.ks → x.cache i = []
  in' : ∀ i ∈ x.ks, 0 ≤ i ∧ i < (x.dur.length : Int)
theorem DskAt.wf {w : World} {b : Bks} {x : Dsk} (h : DskAt w b x) : x.wf := ⟨h.len, fun i hi e => absurd (h.rows i hi).1 (by rw [e]; exact Nat.lt_irrefl 0), h.none', h.in'⟩
theorem mem_addK {ks : List Int} {i j : Int} : j ∈ addK ks i ↔ j = i ∨ j ∈ ks := by
  unfold addK
  split
  · rename_i h
    constructor
    · exact .inr
    · rintro (rfl | h')
      · exact h
      · exact h'
  · simp [or_comm]
theorem Dsk.wf.wrote {x : Dsk} (h : x.wf) {i : Nat} (hi : i < x.dur.length) (bs : List Int) : (wroteD x i bs).wf := by
  refine ⟨h.len, fun j hj => ?_, fun j hj => ?_, fun j hj => ?_⟩
  · show (if j = (i : Int) then x.cache i ++ [bs] else x.cache j) ≠ []
    split
    · simp
    · rename_i hne
      exact h.some' j ((mem_addK.1 hj).resolve_left hne)
  · show (if j = (i : Int) then x.cache i ++ [bs] else x.cache j) = []
    rw [if_neg (fun e => hj (mem_addK.2 (.inl e)))]
    exact h.none' j fun h' => hj (mem_addK.2 (.inr h'))
  · rcases mem_addK.1 hj with rfl | h'
    · exact ⟨Int.natCast_nonneg _, by show (i : Int) < (x.dur.length : Int); omega⟩
    · exact h.in' j h'
theorem readD_wrote (x : Dsk) (i j : Nat) (bs : List Int) : readD (wroteD x i bs) j = if j = i then some bs else readD x j := by
  unfold readD wroteD
  simp only
  by_cases h : j = i
  · subst h; simp
  · rw [if_neg (by omega), if_neg h]
theorem Dsk.wf.flushed {x : Dsk} (h : x.wf) : (flushD x).wf := by
  refine ⟨?_, fun i hi => ?_, fun _ _ => rfl, fun i hi => ?_⟩
  · simp [flushD, someD, h.len]
  · cases hi
  · cases hi
theorem readD_flush {x : Dsk} (h : x.wf) (i : Nat) : readD (flushD x) i = readD x i := by
  unfold readD flushD someD
  simp only [List.getLast?_nil, List.getD_eq_getElem?_getD, List.getElem?_mapIdx]
  by_cases hi : (i : Int) ∈ x.ks
  · obtain ⟨h1, h2⟩ := h.in' _ hi
    have hlt : i < x.dur.length := by omega
    have hltt : i < x.torn.length := by rw [h.len]; exact hlt
    have hne := h.some' _ hi
    rw [List.getElem?_eq_getElem hlt, List.getElem?_eq_getElem hltt]
    obtain ⟨s, hs⟩ : ∃ s, (x.cache (i : Int)).getLast? = some s := ⟨_, List.getLast?_eq_some_getLast hne⟩
    simp [hi, hs]
  · have hn := h.none' _ hi
    by_cases hlt : i < x.dur.length
    · have hltt : i < x.torn.length := by rw [h.len]; exact hlt
      rw [List.getElem?_eq_getElem hlt, List.getElem?_eq_getElem hltt]
      simp [hi, hn]
    · have hl' := h.len
      rw [List.getElem?_eq_none (l := x.torn) (by omega), List.getElem?_eq_none (l := x.dur) (by omega)]
      simp [hn]
/-- a disk that is on, and whose power does not fail -/
structure Dsk.on (x : Dsk) : Prop where
  off : x.off = false
  fuse : x.fuse = -1
theorem Dsk.on.goesB {x : Dsk} (h : x.on) : goesB x = true := by unfold TT.goesB; rw [h.off, h.fuse]; rfl
theorem Dsk.on.goesD {x : Dsk} (h : x.on) : goesD x = x := by unfold TT.goesD; rw [h.off, h.fuse]; rfl
theorem Dsk.on.write {x : Dsk} (h : x.on) (i : Nat) (bs : List Int) : writeX x i bs = wroteD x i bs := by unfold writeX; rw [if_pos h.goesB, h.goesD]
theorem Dsk.on.wrote {x : Dsk} (h : x.on) (i : Nat) (bs : List Int) : (wroteD x i bs).on := ⟨h.off, h.fuse⟩
theorem Dsk.on.flush {x : Dsk} (h : x.on) : flushX x = flushD x := by unfold flushX; rw [if_pos h.goesB, h.goesD]
theorem Dsk.on.flushed {x : Dsk} (h : x.on) : (flushD x).on := ⟨h.off, h.fuse⟩
theorem Dsk.on.goesE {x : Dsk} (h : x.on) : goesE x = 0 := by unfold TT.goesE; rw [if_pos h.goesB]
theorem Dsk.on.lay {x : Dsk} (h : x.on) (i : Nat) (bs : List Int) : layX x i bs = flushD (wroteD x i bs) ∧ layE x i bs = 0 := by
  unfold layX layE
  rw [if_pos h.goesB, if_pos h.goesB, h.write, (h.wrote i bs).flush, (h.wrote i bs).goesE]
  exact ⟨rfl, rfl⟩
theorem readD_lay {x : Dsk} (hw : x.wf) (h : x.on) {i : Nat} (hi : i < x.dur.length) (bs : List Int) (j : Nat) : readD (layX x i bs) j = if j = i then some bs else readD x j := by
  rw [(h.lay i bs).1, readD_flush (hw.wrote hi bs), readD_wrote]
theorem Dsk.wf.lay {x : Dsk} (hw : x.wf) (h : x.on) {i : Nat} (hi : i < x.dur.length) (bs : List Int) : (layX x i bs).wf := by
  rw [(h.lay i bs).1]; exact (hw.wrote hi bs).flushed
theorem Dsk.on.layOn {x : Dsk} (h : x.on) (i : Nat) (bs : List Int) : (layX x i bs).on := by
  rw [(h.lay i bs).1]; exact (h.wrote i bs).flushed
/- numbers -/
theorem leNum_le (v n : Nat) : leNum (leBytes v n) = ((v % 256 ^ n : Nat) : Int) := by
  induction n with
  | zero => simp [leBytes, leNum, Nat.mod_one]
  | succ n ih =>
    show leNum (leBytes v n ++ [(v : Int) / 256 ^ n % 256]) = _
    rw [leNum_append, ih, leBytes_length]
    show _ + 256 ^ n * ((v : Int) / 256 ^ n % 256 + 256 * 0) = _
    rw [Nat.pow_succ, Nat.mod_mul, Int.mul_zero, Int.add_zero, Int.natCast_add, Int.natCast_mul, Int.natCast_emod v, Int.natCast_emod (v / 256 ^ n), Int.natCast_ediv, Int.natCast_pow]
    rfl
theorem leNum_of (v n : Nat) (h : v < 256 ^ n) : leNum (leBytes v n) = v := by rw [leNum_le, Nat.mod_eq_of_lt h]
theorem layB_mid (a d b D : List Int) (h : d.length = D.length) (n : Nat) (hn : n = a.length) : layB (a ++ d ++ b) n D = a ++ D ++ b := by
  subst hn
  unfold layB
  have e1 : (a ++ d ++ b).take a.length = a := by rw [List.append_assoc, List.take_left]
  have e2 : (a ++ d ++ b).drop (a.length + D.length) = b := by rw [← h, show a.length + d.length = (a ++ d).length by simp, List.drop_left]
  rw [e1, e2]
theorem fieldOf_mid (a d b : List Int) (n m : Nat) (hn : n = a.length) (hm : m = d.length) : fieldOf (a ++ d ++ b) n m = d := by
  subst hn hm
  unfold fieldOf
  rw [List.append_assoc, List.drop_left, List.take_left]
theorem zeros_app (a b : Nat) : zeros (a + b) = zeros a ++ zeros b := by unfold zeros; rw [List.replicate_append_replicate]
theorem getN_mid (a b : List Int) (v n at' : Nat) (hn : at' = a.length) (hv : v < 256 ^ n) : getN (a ++ leBytes v n ++ b) at' n = v := by
  unfold getN getF
  rw [fieldOf_mid a (leBytes v n) b at' n hn (by rw [leBytes_length]), leNum_of v n hv]
  rfl
theorem cleanB_zeros (n : Nat) : cleanB (zeros n) = true := by
  unfold cleanB zeros
  simp
/-- a head's text, field by field -/
theorem headRaw_eq (h : Head) (size : Nat) : headRaw h size = headMark ++ leBytes h.gen 6 ++ leBytes h.epoch 6 ++ leBytes h.first 6 ++ leBytes h.least 6 ++ leBytes size 4 ++ zeros 92 := by
  have l := leBytes_length
  unfold headRaw
  rw [show zeros 120 = zeros 6 ++ zeros 114 from zeros_app 6 114, ← List.append_assoc, layB_mid _ _ _ _ (by rw [l]; rfl) 4 rfl]
  rw [show zeros 114 = zeros 6 ++ zeros 108 from zeros_app 6 108, ← List.append_assoc, layB_mid _ _ _ _ (by rw [l]; rfl) 10 (by simp [l, headMark])]
  rw [show zeros 108 = zeros 6 ++ zeros 102 from zeros_app 6 102, ← List.append_assoc, layB_mid _ _ _ _ (by rw [l]; rfl) 16 (by simp [l, headMark])]
  rw [show zeros 102 = zeros 6 ++ zeros 96 from zeros_app 6 96, ← List.append_assoc, layB_mid _ _ _ _ (by rw [l]; rfl) 22 (by simp [l, headMark])]
  rw [show zeros 96 = zeros 4 ++ zeros 92 from zeros_app 4 92, ← List.append_assoc, layB_mid _ _ _ _ (by rw [l]; rfl) 28 (by simp [l, headMark])]
theorem headRaw_back (h : Head) (hl : h.low) (size : Nat) (hs : size < 4294967296) : (headRaw h size).take 4 = headMark ∧ cleanB ((headRaw h size).drop 32) = true ∧ getN (headRaw h size) 28 4 = size ∧ headOf (headRaw h size) = h := by
  have l := leBytes_length
  obtain ⟨g, e, f, m⟩ := h
  obtain ⟨h1, h2, h3, h4⟩ := hl
  simp only at h1 h2 h3 h4
  rw [headRaw_eq]
  simp only
  refine ⟨?_, ?_, ?_, ?_⟩
  · simp only [List.append_assoc]
    exact List.take_left (l₁ := headMark)
  · have : headMark ++ leBytes g 6 ++ leBytes e 6 ++ leBytes f 6 ++ leBytes m 6 ++ leBytes size 4 ++ zeros 92 = (headMark ++ leBytes g 6 ++ leBytes e 6 ++ leBytes f 6 ++ leBytes m 6 ++ leBytes size 4) ++ zeros 92 := rfl
    rw [this, show 32 = (headMark ++ leBytes g 6 ++ leBytes e 6 ++ leBytes f 6 ++ leBytes m 6 ++ leBytes size 4).length by simp [l, headMark], List.drop_left]
    exact cleanB_zeros 92
  · exact getN_mid _ _ size 4 28 (by simp [l, headMark]) (by simpa using hs)
  · unfold headOf
    have e1 : getN (headMark ++ leBytes g 6 ++ leBytes e 6 ++ leBytes f 6 ++ leBytes m 6 ++ leBytes size 4 ++ zeros 92) 4 6 = g := by
      simp only [List.append_assoc]; rw [← List.append_assoc]; exact getN_mid _ _ g 6 4 rfl (by simpa using h1)
    have e2 : getN (headMark ++ leBytes g 6 ++ leBytes e 6 ++ leBytes f 6 ++ leBytes m 6 ++ leBytes size 4 ++ zeros 92) 10 6 = e := by
      have := getN_mid (headMark ++ leBytes g 6) (leBytes f 6 ++ leBytes m 6 ++ leBytes size 4 ++ zeros 92) e 6 10 (by simp [l, headMark]) (by simpa using h2)
      simpa only [List.append_assoc] using this
    have e3 : getN (headMark ++ leBytes g 6 ++ leBytes e 6 ++ leBytes f 6 ++ leBytes m 6 ++ leBytes size 4 ++ zeros 92) 16 6 = f := by
      have := getN_mid (headMark ++ leBytes g 6 ++ leBytes e 6) (leBytes m 6 ++ leBytes size 4 ++ zeros 92) f 6 16 (by simp [l, headMark]) (by simpa using h3)
      simpa only [List.append_assoc] using this
    have e4 : getN (headMark ++ leBytes g 6 ++ leBytes e 6 ++ leBytes f 6 ++ leBytes m 6 ++ leBytes size 4 ++ zeros 92) 22 6 = m := by
      have := getN_mid (headMark ++ leBytes g 6 ++ leBytes e 6 ++ leBytes f 6) (leBytes size 4 ++ zeros 92) m 6 22 (by simp [l, headMark]) (by simpa using h4)
      simpa only [List.append_assoc] using this
    rw [e1, e2, e3, e4]
theorem unsealed_sealed (t : List Int) : unsealed (sealed' t) = some t := by
  unfold unsealed sealed'
  have h4 := sealOf_length t
  rw [List.length_append, h4, Nat.add_sub_cancel, List.take_left, List.drop_left, if_pos ⟨by omega, rfl⟩]
/-- a slot that holds a head's text -/
theorem slotR_text {x : Dsk} (ho : x.off = false) {first size k : Nat} {h : Head} (hl : h.low) (hs : size < 4294967296) (hr : readD x (first + k) = some (headText h size)) : slotR x first size k = (h, decide (0 < h.gen) && decide (h.gen % 2 = k)) := by
  obtain ⟨h1, h2, h3, h4⟩ := headRaw_back h hl size hs
  unfold slotR sealedR
  rw [ho, hr]
  simp only [headText, unsealed_sealed, h1, if_true, Bool.false_eq_true, if_false, h2, h3, and_self, h4]
/-- a piece in order -/
structure Piece.fine (p : Piece) : Prop where
  num : p.num < 281474976710656
  epoch : p.epoch < 281474976710656
  bytes : p.bytes ≤ 8192
  index : p.index < need p.bytes
  len : p.data.length = min 104 (p.bytes - p.index * 104)
theorem pieceRaw_eq (p : Piece) (hl : p.data.length ≤ 104) : pieceRaw p = pieceMark ++ leBytes p.num 6 ++ leBytes p.epoch 6 ++ leBytes p.bytes 2 ++ leBytes p.index 2 ++ p.data ++ zeros (104 - p.data.length) := by
  have l := leBytes_length
  unfold pieceRaw
  rw [show zeros 120 = zeros 6 ++ zeros 114 from zeros_app 6 114, ← List.append_assoc, layB_mid _ _ _ _ (by rw [l]; rfl) 4 rfl]
  rw [show zeros 114 = zeros 6 ++ zeros 108 from zeros_app 6 108, ← List.append_assoc, layB_mid _ _ _ _ (by rw [l]; rfl) 10 (by simp [l, pieceMark])]
  rw [show zeros 108 = zeros 2 ++ zeros 106 from zeros_app 2 106, ← List.append_assoc, layB_mid _ _ _ _ (by rw [l]; rfl) 16 (by simp [l, pieceMark])]
  rw [show zeros 106 = zeros 2 ++ zeros 104 from zeros_app 2 104, ← List.append_assoc, layB_mid _ _ _ _ (by rw [l]; rfl) 18 (by simp [l, pieceMark])]
  rw [show zeros 104 = zeros p.data.length ++ zeros (104 - p.data.length) by rw [← zeros_app]; congr 1; omega, ← List.append_assoc, layB_mid _ _ _ _ (zeros_length _) 20 (by simp [l, pieceMark])]
theorem pieceRaw_back (p : Piece) (h : p.fine) : (pieceRaw p).take 4 = pieceMark ∧ getN (pieceRaw p) 4 6 = p.num ∧ getN (pieceRaw p) 10 6 = p.epoch ∧ getN (pieceRaw p) 16 2 = p.bytes ∧ getN (pieceRaw p) 18 2 = p.index ∧
    cleanB ((pieceRaw p).drop (20 + p.data.length)) = true ∧ ((pieceRaw p).take (20 + p.data.length)).drop 20 = p.data := by
  have l := leBytes_length
  have hl := h.len
  rw [pieceRaw_eq p (by omega)]
  obtain ⟨n, e, b, i, d⟩ := p
  obtain ⟨h1, h2, h3, h4, -⟩ := h
  simp only at h1 h2 h3 h4 hl ⊢
  have hn79 := need_le b
  refine ⟨?_, ?_, ?_, ?_, ?_, ?_, ?_⟩
  · simp only [List.append_assoc]
    exact List.take_left (l₁ := pieceMark)
  · simp only [List.append_assoc]; rw [← List.append_assoc]; exact getN_mid _ _ n 6 4 rfl (by simpa using h1)
  · have := getN_mid (pieceMark ++ leBytes n 6) (leBytes b 2 ++ leBytes i 2 ++ d ++ zeros (104 - d.length)) e 6 10 (by simp [l, pieceMark]) (by simpa using h2)
    simpa only [List.append_assoc] using this
  · have := getN_mid (pieceMark ++ leBytes n 6 ++ leBytes e 6) (leBytes i 2 ++ d ++ zeros (104 - d.length)) b 2 16 (by simp [l, pieceMark]) (by simp; omega)
    simpa only [List.append_assoc] using this
  · have := getN_mid (pieceMark ++ leBytes n 6 ++ leBytes e 6 ++ leBytes b 2) (d ++ zeros (104 - d.length)) i 2 18 (by simp [l, pieceMark]) (by simp; omega)
    simpa only [List.append_assoc] using this
  · rw [show 20 + d.length = (pieceMark ++ leBytes n 6 ++ leBytes e 6 ++ leBytes b 2 ++ leBytes i 2 ++ d).length by simp [l, pieceMark]; omega, List.drop_left]
    exact cleanB_zeros _
  · rw [show 20 + d.length = (pieceMark ++ leBytes n 6 ++ leBytes e 6 ++ leBytes b 2 ++ leBytes i 2 ++ d).length by simp [l, pieceMark]; omega, List.take_left, show 20 = (pieceMark ++ leBytes n 6 ++ leBytes e 6 ++ leBytes b 2 ++ leBytes i 2).length by simp [l, pieceMark], List.drop_left]
/-- a sector that holds a piece's text -/
theorem pieceR_text {x : Dsk} (ho : x.off = false) {first size n : Nat} {p : Piece} (h : p.fine) (hn : p.num = n) (hr : readD x (ringN first size n) = some (sealed' (pieceRaw p))) : pieceR x first size n = .ok p := by
  obtain ⟨h1, h2, h3, h4, h5, h6, h7⟩ := pieceRaw_back p h
  unfold pieceR sealedR
  rw [ho, hr]
  have he : pieceEnd (pieceRaw p) = 20 + p.data.length := by unfold pieceEnd; rw [h4, h5, h.len]
  simp only [unsealed_sealed, h1, if_true, Bool.false_eq_true, if_false]
  rw [h2, h4, h5, he, if_neg (by have := h.index; omega), h6, h7, if_pos rfl]
  unfold pieceOf
  rw [h2, h3, h4, h5]
end Go.Proofs.YtbjofbhhnmehgaaGreatDoor.TT
namespace Go.Proofs.YtbjofbhhnmehgaaGreatDoor.TT
open Go.RowKit Go.RG Go.Hp Go.Proofs.YtbjofbhhnmehgaaGreatDoor
/-- a record: its bytes, and its epoch -/
abbrev Rc := List Int × Nat
/-- its pieces lie in the ring from n on -/
def Chain (x : Dsk) (first size n : Nat) (r : Rc) : Prop := ∀ j, j < need r.1.length → readD x (ringN first size (n + j)) = some (pieceText n r.2 r.1 j)
theorem needs_pos {n : Nat} (h : n ≤ 8192) : 1 ≤ need n ∧ n ≤ 104 * need n := by unfold need; rw [if_pos h]; omega
theorem piece_fine {n ep : Nat} {rec : List Int} {j : Nat} (hl : rec.length ≤ 8192) (hj : j < need rec.length) (hn : n + need rec.length ≤ 281474976710656) (he : ep < 281474976710656) : Piece.fine ⟨n + j, ep, rec.length, j, chunk rec j⟩ :=
  ⟨by show n + j < _; omega, he, hl, hj, chunk_len _ _⟩
theorem chain_piece {x : Dsk} (ho : x.off = false) {first size n : Nat} {r : Rc} (h : Chain x first size n r) (hl : r.1.length ≤ 8192) (hn : n + need r.1.length ≤ 281474976710656) (he : r.2 < 281474976710656) {j : Nat} (hj : j < need r.1.length) :
    pieceR x first size (n + j) = .ok ⟨n + j, r.2, r.1.length, j, chunk r.1 j⟩ := pieceR_text ho (piece_fine hl hj hn he) rfl (h j hj)
theorem chunk_take (rec : List Int) (k : Nat) : rec.take (104 * k) ++ chunk rec k = rec.take (104 * (k + 1)) := by
  unfold chunk
  rw [show k * 104 = 104 * k by omega, show 104 * (k + 1) = 104 * k + 104 by omega, List.take_add]
theorem recUp_chain {x : Dsk} (ho : x.off = false) {first size n : Nat} {r : Rc} (h : Chain x first size n r) (hl : r.1.length ≤ 8192) (hn : n + need r.1.length ≤ 281474976710656) (he : r.2 < 281474976710656) :
    ∀ k, k < need r.1.length → recUp x first size n ⟨n, r.2, r.1.length, 0, chunk r.1 0⟩ k = .ok (r.1.take (104 * (k + 1)))
  | 0, _ => by
    show Except.ok (chunk r.1 0) = _
    congr 1
  | k + 1, hk => by
    unfold recUp
    rw [recUp_chain ho h hl hn he k (by omega)]
    simp only
    rw [chain_piece ho h hl hn he hk]
    simp only [ne_eq, not_true_eq_false, or_self, if_false]
    rw [chunk_take]
theorem recordR_chain {x : Dsk} (ho : x.off = false) {first size n least most : Nat} {r : Rc} (h : Chain x first size n r) (hl : r.1.length ≤ 8192) (hn : n + need r.1.length ≤ 281474976710656) (he : r.2 < 281474976710656) (h1 : least ≤ r.2) (h2 : r.2 ≤ most) :
    recordR x first size n least most = .ok r := by
  have hp := needs_pos hl
  unfold recordR
  have h0 := chain_piece ho h hl hn he (j := 0) (by omega)
  rw [Nat.add_zero] at h0
  rw [h0]
  simp only
  rw [if_neg (by omega), recUp_chain ho h hl hn he _ (by omega)]
  simp only
  rw [show 104 * (need r.1.length - 1 + 1) = 104 * need r.1.length by congr 1; omega, List.take_of_length_le hp.2]
/- records, one behind the other -/
def endN : Nat → List Rc → Nat
  | n, [] => n
  | n, r :: rs => endN (n + need r.1.length) rs
def startsN : Nat → List Rc → List Nat
  | _, [] => []
  | n, r :: rs => n :: startsN (n + need r.1.length) rs
def ChainV (x : Dsk) (first size : Nat) : Nat → List Rc → Prop
  | _, [] => True
  | n, r :: rs => Chain x first size n r ∧ ChainV x first size (n + need r.1.length) rs
def Asc : Nat → List Rc → Prop
  | _, [] => True
  | l, r :: rs => l ≤ r.2 ∧ Asc r.2 rs
def lastE : Nat → List Rc → Nat
  | l, [] => l
  | _, r :: rs => lastE r.2 rs
theorem endN_app : ∀ (n : Nat) (a b : List Rc), endN n (a ++ b) = endN (endN n a) b
  | _, [], _ => rfl
  | n, r :: rs, b => endN_app (n + need r.1.length) rs b
theorem startsN_app : ∀ (n : Nat) (a b : List Rc), startsN n (a ++ b) = startsN n a ++ startsN (endN n a) b
  | _, [], _ => rfl
  | n, r :: rs, b => by show n :: startsN _ (rs ++ b) = _; rw [startsN_app]; rfl
theorem startsN_length : ∀ (n : Nat) (a : List Rc), (startsN n a).length = a.length
  | _, [] => rfl
  | n, r :: rs => by show (startsN _ rs).length + 1 = _; rw [startsN_length]; rfl
theorem ChainV_app {x : Dsk} {first size : Nat} : ∀ {n : Nat} {a b : List Rc}, ChainV x first size n (a ++ b) ↔ ChainV x first size n a ∧ ChainV x first size (endN n a) b
  | n, [], b => by simp [ChainV, endN]
  | n, r :: rs, b => by
    show (Chain x first size n r ∧ ChainV x first size _ (rs ++ b)) ↔ (Chain x first size n r ∧ ChainV x first size _ rs) ∧ _
    rw [ChainV_app (a := rs), and_assoc]
    rfl
theorem Asc_app : ∀ {l : Nat} {a b : List Rc}, Asc l (a ++ b) ↔ Asc l a ∧ Asc (lastE l a) b
  | l, [], b => by simp [Asc, lastE]
  | l, r :: rs, b => by
    show (l ≤ r.2 ∧ Asc r.2 (rs ++ b)) ↔ (l ≤ r.2 ∧ Asc r.2 rs) ∧ _
    rw [Asc_app (a := rs), and_assoc]
    rfl
theorem lastE_app : ∀ (l : Nat) (a b : List Rc), lastE l (a ++ b) = lastE (lastE l a) b
  | _, [], _ => rfl
  | _, r :: rs, b => lastE_app r.2 rs b
theorem endN_le : ∀ (n : Nat) (a : List Rc), n ≤ endN n a
  | _, [] => Nat.le_refl _
  | n, r :: rs => by have := endN_le (n + need r.1.length) rs; show n ≤ endN _ rs; omega
theorem endN_many : ∀ (n : Nat) (a : List Rc), (∀ r ∈ a, r.1.length ≤ 8192) → n + a.length ≤ endN n a
  | _, [], _ => Nat.le_refl _
  | n, r :: rs, h => by
    have := endN_many (n + need r.1.length) rs fun s hs => h s (List.mem_cons_of_mem _ hs)
    have := (needs_pos (h r (List.mem_cons_self))).1
    show n + (rs.length + 1) ≤ endN _ rs
    omega
theorem Asc.last : ∀ {l : Nat} {a : List Rc}, Asc l a → ∀ {m}, l ≤ m → (∀ r ∈ a, r.2 ≤ m) → l ≤ lastE l a ∧ lastE l a ≤ m
  | _, [], _, _, h, _ => ⟨Nat.le_refl _, h⟩
  | l, s :: rs, h, m, hm, ha => by
    have := h.2.last (ha s List.mem_cons_self) fun r hr => ha r (List.mem_cons_of_mem _ hr)
    exact ⟨Nat.le_trans h.1 this.1, this.2⟩
theorem startsN_rise : ∀ (n : Nat) (a : List Rc), (∀ r ∈ a, r.1.length ≤ 8192) → (startsN n a).Pairwise (· < ·) ∧ ∀ m ∈ startsN n a, n ≤ m ∧ m < endN n a
  | _, [], _ => ⟨List.Pairwise.nil, fun m hm => by cases hm⟩
  | n, r :: rs, h => by
    obtain ⟨h1, h2⟩ := startsN_rise (n + need r.1.length) rs fun s hs => h s (List.mem_cons_of_mem _ hs)
    have hp := (needs_pos (h r List.mem_cons_self)).1
    have he := endN_le (n + need r.1.length) rs
    refine ⟨List.pairwise_cons.2 ⟨fun m hm => by have := (h2 m hm).1; omega, h1⟩, fun m hm => ?_⟩
    rcases List.mem_cons.1 hm with rfl | hm
    · exact ⟨Nat.le_refl _, by show m < endN _ rs; omega⟩
    · have := h2 m hm
      exact ⟨by omega, this.2⟩
/-- the scan over records -/
theorem scanUp_chain {x : Dsk} (ho : x.off = false) {first size most h0 l0 : Nat} (hm : most < 281474976710656) : ∀ (rs : List Rc) (j n l : Nat) (st ep : List Nat), scanUp x first size most h0 l0 j = ⟨st, ep, n, l, true⟩ → ChainV x first size n rs → Asc l rs → (∀ r ∈ rs, r.2 ≤ most ∧ r.1.length ≤ 8192) →
    h0 ≤ n → endN n rs ≤ 281474976710656 → endN n rs - h0 ≤ size - 2 → scanUp x first size most h0 l0 (j + rs.length) = ⟨st ++ startsN n rs, ep ++ rs.map Prod.snd, endN n rs, lastE l rs, true⟩
  | [], j, n, l, st, ep, hs, _, _, _, _, _, _ => by simpa [startsN, endN, lastE] using hs
  | r :: rs, j, n, l, st, ep, hs, hc, ha, hr, h0n, h1, h2 => by
    obtain ⟨hr1, hr2⟩ := hr r List.mem_cons_self
    have he := endN_le (n + need r.1.length) rs
    have h1' : endN (n + need r.1.length) rs ≤ 281474976710656 := h1
    have h2' : endN (n + need r.1.length) rs - h0 ≤ size - 2 := h2
    have hstep : scanUp x first size most h0 l0 (j + 1) = ⟨st ++ [n], ep ++ [r.2], n + need r.1.length, r.2, true⟩ := by
      show (if (scanUp x first size most h0 l0 j).go then scanStep x first size most h0 (scanUp x first size most h0 l0 j) else _) = _
      rw [hs, if_pos rfl]
      unfold scanStep
      simp only
      rw [recordR_chain ho hc.1 hr2 (by omega) (by omega) ha.1 hr1]
      simp only
      rw [if_neg (by omega)]
    have := scanUp_chain ho hm rs (j + 1) _ _ _ _ hstep hc.2 ha.2 (fun s hs => hr s (List.mem_cons_of_mem _ hs)) (by omega) h1' h2'
    rw [show j + (r :: rs).length = j + 1 + rs.length by simp; omega, this]
    simp [startsN, endN, lastE]
theorem scanR_chain {x : Dsk} (ho : x.off = false) {first size : Nat} {h : Head} (h2 : 2 < size) (hm : h.epoch < 281474976710656) {rs : List Rc} (hc : ChainV x first size h.first rs) (ha : Asc h.least rs) (hr : ∀ r ∈ rs, r.2 ≤ h.epoch ∧ r.1.length ≤ 8192)
    (h1 : endN h.first rs ≤ 281474976710656) (h3 : endN h.first rs - h.first ≤ size - 2) {c : Int} (hs : recordR x first size (endN h.first rs) (lastE h.least rs) h.epoch = .error c) :
    scanR x first size h = ⟨startsN h.first rs, rs.map Prod.snd, endN h.first rs, lastE h.least rs, false⟩ := by
  have hu := scanUp_chain ho (size := size) (h0 := h.first) (l0 := h.least) hm rs 0 h.first h.least [] [] rfl hc ha hr (Nat.le_refl _) h1 h3
  rw [Nat.zero_add] at hu
  have hlen := endN_many h.first rs fun r hr' => (hr r hr').2
  have hst : scanUp x first size h.epoch h.first h.least (rs.length + 1) = ⟨startsN h.first rs, rs.map Prod.snd, endN h.first rs, lastE h.least rs, false⟩ := by
    show (if (scanUp x first size h.epoch h.first h.least rs.length).go then scanStep x first size h.epoch h.first (scanUp x first size h.epoch h.first h.least rs.length) else _) = _
    rw [hu, if_pos rfl]
    unfold scanStep
    simp only
    rw [hs]
    simp
  unfold scanR
  rw [scanUp_stop (j := rs.length + 1) (by rw [hst]) (by omega), hst]
end Go.Proofs.YtbjofbhhnmehgaaGreatDoor.TT
namespace Go.Proofs.YtbjofbhhnmehgaaGreatDoor.TT
open Go.RowKit Go.RG Go.Hp Go.Proofs.YtbjofbhhnmehgaaGreatDoor
theorem slotR_congr {x y : Dsk} (ho : y.off = x.off) {first size k : Nat} (hr : readD y (first + k) = readD x (first + k)) : slotR y first size k = slotR x first size k := by
  unfold slotR sealedR
  rw [ho, hr]
theorem pieceR_congr {x y : Dsk} (ho : y.off = x.off) {first size n : Nat} (hr : readD y (ringN first size n) = readD x (ringN first size n)) : pieceR y first size n = pieceR x first size n := by
  unfold pieceR sealedR
  rw [ho, hr]
theorem recUp_congr {x y : Dsk} {first size n : Nat} {p0 : Piece} (h : ∀ m, n ≤ m → pieceR y first size m = pieceR x first size m) : ∀ k, recUp y first size n p0 k = recUp x first size n p0 k
  | 0 => rfl
  | k + 1 => by unfold recUp; rw [recUp_congr h k, h _ (by omega)]
theorem recordR_congr {x y : Dsk} {first size n least most : Nat} (h : ∀ m, n ≤ m → pieceR y first size m = pieceR x first size m) : recordR y first size n least most = recordR x first size n least most := by
  unfold recordR
  rw [h n (Nat.le_refl _)]
  split
  · rfl
  · rw [recUp_congr h]
theorem pieceR_of {x : Dsk} (ho : x.off = false) {first size n : Nat} {p q : Piece} (hq : q.fine) (hr : readD x (ringN first size n) = some (sealed' (pieceRaw q))) (h : pieceR x first size n = .ok p) : p = q ∧ q.num = n := by
  obtain ⟨h1, h2, h3, h4, h5, h6, h7⟩ := pieceRaw_back q hq
  have hn : q.num = n := by
    unfold pieceR sealedR at h
    rw [ho, hr] at h
    simp only [unsealed_sealed, h1, if_true, Bool.false_eq_true, if_false] at h
    rw [h2, h4, h5] at h
    by_cases e : q.num = n
    · exact e
    · rw [if_pos (.inl e)] at h; cases h
  have := pieceR_text ho hq hn hr
  rw [this] at h
  injection h with h
  exact ⟨h.symm, hn⟩
/-- a record that begins with an old piece is none -/
theorem recordR_old {x : Dsk} {first size n least most : Nat} (h : ∀ p, pieceR x first size n = .ok p → p.epoch < least) : ∃ c, recordR x first size n least most = .error c := by
  unfold recordR
  split
  · exact ⟨_, rfl⟩
  · rename_i p hp
    rw [if_pos (.inr (.inl (h p hp)))]
    exact ⟨_, rfl⟩
/-- a record that ends later ends no later by more allowed epochs -/
theorem recordR_most {x : Dsk} {first size n least most most' : Nat} (hp : ∀ p, pieceR x first size n = .ok p → p.epoch ≤ most) {c : Int} (h : recordR x first size n least most = .error c) : ∃ c, recordR x first size n least most' = .error c := by
  unfold recordR at h ⊢
  split
  · exact ⟨_, rfl⟩
  · rename_i p hq
    rw [hq] at h
    simp only at h
    have hm := hp p hq
    split
    · exact ⟨_, rfl⟩
    · rename_i hc
      rw [if_neg (by omega)] at h
      split
      · exact ⟨_, rfl⟩
      · rename_i d hd
        rw [hd] at h
        cases h
theorem counts_of {x : Dsk} {first size : Nat} {h : Head} (hg : 0 < h.gen) (h1 : slotR x first size (h.gen % 2) = (h, true)) (h2 : (slotR x first size (1 - h.gen % 2)).2 = true → (slotR x first size (1 - h.gen % 2)).1.gen < h.gen) : countsR x first size = (h, ((h.gen % 2 : Nat) : Int)) := by
  show bestR (bestR (noHead, -1) 0 (slotR x first size 0)) 1 (slotR x first size 1) = _
  have hn : noHead.gen = 0 := rfl
  rcases Nat.mod_two_eq_zero_or_one h.gen with e | e
  · rw [e] at h1 h2 ⊢
    rw [h1]
    have h2' : (slotR x first size 1).2 = true → (slotR x first size 1).1.gen < h.gen := h2
    have e1 : bestR (noHead, -1) 0 (h, true) = (h, 0) := by unfold bestR; rw [if_pos ⟨rfl, by rw [hn]; exact hg⟩]; rfl
    rw [e1]
    unfold bestR
    rw [if_neg (fun hc => by have := h2' hc.1; have := hc.2; simp only at this; omega)]
    rfl
  · rw [e] at h1 h2 ⊢
    rw [h1]
    unfold bestR
    have hlt : (if (slotR x first size 0).2 = true ∧ (noHead, (-1 : Int)).1.gen < (slotR x first size 0).1.gen then ((slotR x first size 0).1, ((0 : Nat) : Int)) else (noHead, -1)).1.gen < h.gen := by
      split
      · rename_i hc; exact h2 hc.1
      · exact hg
    rw [if_pos ⟨rfl, hlt⟩]
/-- what a log's disk tells: the log L holds the records rs -/
structure LogV (x : Dsk) (first size : Nat) (L : LogS) (rs : List Rc) : Prop where
  wf : x.wf
  off : x.off = false
  fit : first + size ≤ x.dur.length
  size3 : 2 < size
  size6 : size ≤ 65536
  low : L.head.low
  gen : 0 < L.head.gen
  slot : readD x (first + L.head.gen % 2) = some (headText L.head size)
  other : (slotR x first size (1 - L.head.gen % 2)).2 = true → (slotR x first size (1 - L.head.gen % 2)).1.gen < L.head.gen
  chain : ChainV x first size L.head.first rs
  starts : L.starts = startsN L.head.first rs
  epochs : L.epochs = rs.map Prod.snd
  next : L.next = endN L.head.first rs
  asc : Asc L.head.least rs
  recs : ∀ r ∈ rs, r.2 ≤ L.head.epoch ∧ r.1.length ≤ 8192
  least : L.head.least ≤ L.head.epoch
  big : L.next < 281474976710656
  ring : L.next - L.head.first ≤ size - 2
  up : L.fallen = false
  junk : ∀ n p, pieceR x first size n = .ok p → p.epoch ≤ L.head.epoch ∧ (n < L.next ∨ p.epoch < L.head.epoch)
  stop : ∃ c, recordR x first size L.next (lastE L.head.least rs) L.head.epoch = .error c
theorem LogV.congr {x y : Dsk} {first size : Nat} {L : LogS} {rs : List Rc} (h : LogV x first size L rs) (hw : y.wf) (ho : y.off = false) (hl : y.dur.length = x.dur.length) (hr : ∀ i, readD y i = readD x i) : LogV y first size L rs := by
  have ho' : y.off = x.off := by rw [ho, h.off]
  have hp : ∀ n, pieceR y first size n = pieceR x first size n := fun n => pieceR_congr ho' (hr _)
  have hc : ∀ (rs : List Rc) (n : Nat), ChainV x first size n rs → ChainV y first size n rs := by
    intro rs
    induction rs with
    | nil => exact fun _ _ => trivial
    | cons r rs ih => exact fun n h => ⟨fun j hj => by rw [hr]; exact h.1 j hj, ih _ h.2⟩
  exact { h with wf := hw, off := ho, fit := by rw [hl]; exact h.fit, slot := by rw [hr]; exact h.slot, other := by rw [slotR_congr ho' (hr _)]; exact h.other, chain := hc _ _ h.chain, junk := fun n p e => h.junk n p (by rw [← hp]; exact e), stop := by rw [recordR_congr fun m _ => hp m]; exact h.stop }
theorem LogV.counts {x : Dsk} {first size : Nat} {L : LogS} {rs : List Rc} (h : LogV x first size L rs) : countsR x first size = (L.head, ((L.head.gen % 2 : Nat) : Int)) := by
  refine counts_of h.gen ?_ h.other
  rw [slotR_text h.off h.low (by have := h.size6; omega) h.slot]
  have := h.gen
  simp [this]
theorem LogV.scan {x : Dsk} {first size : Nat} {L : LogS} {rs : List Rc} (h : LogV x first size L rs) : openL x first size L.head = { L with head := noHead } := by
  obtain ⟨c, hc⟩ := h.stop
  have hn := h.next
  rw [hn] at hc
  unfold openL
  rw [scanR_chain h.off h.size3 h.low.2.1 h.chain h.asc h.recs (by have := h.big; omega) (by have := h.ring; omega) hc]
  have := h.starts
  have := h.epochs
  have := h.up
  obtain ⟨hd, nx, st, ep, f⟩ := L
  simp_all
/-- a head is written -/
theorem LogV.turn {x : Dsk} {first size : Nat} {L : LogS} {rs : List Rc} (h : LogV x first size L rs) (on : x.on) {h' : Head} {rs' : List Rc} (hl : h'.low) (hg : h'.gen = L.head.gen + 1) (he : L.head.epoch ≤ h'.epoch) (hc : ChainV x first size h'.first rs') (hn : endN h'.first rs' = L.next)
    (ha : Asc h'.least rs') (hr : ∀ r ∈ rs', r.2 ≤ h'.epoch ∧ r.1.length ≤ 8192) (hle : h'.least ≤ h'.epoch) (hri : L.next - h'.first ≤ size - 2) (hs : ∃ c, recordR x first size L.next (lastE h'.least rs') h'.epoch = .error c) :
    LogV (layX x (first + h'.gen % 2) (headText h' size)) first size ⟨h', L.next, startsN h'.first rs', rs'.map Prod.snd, false⟩ rs' ∧ (layX x (first + h'.gen % 2) (headText h' size)).on ∧ layE x (first + h'.gen % 2) (headText h' size) = 0 := by
  have hi : first + h'.gen % 2 < x.dur.length := by have := h.fit; have := h.size3; omega
  have on' := on.layOn (first + h'.gen % 2) (headText h' size)
  have hrd := readD_lay h.wf on hi (headText h' size)
  have hw' := h.wf.lay on hi (headText h' size)
  have hlen := layX_len x (first + h'.gen % 2) (headText h' size)
  refine ⟨?_, on', (on.lay _ _).2⟩
  generalize layX x (first + h'.gen % 2) (headText h' size) = y at *
  have ho' : y.off = x.off := by rw [on'.off, h.off]
  have hp : ∀ n, pieceR y first size n = pieceR x first size n := fun n => pieceR_congr ho' (by rw [hrd, if_neg]; unfold ringN; omega)
  have hcv : ∀ (rs : List Rc) (n : Nat), ChainV x first size n rs → ChainV y first size n rs := by
    intro rs
    induction rs with
    | nil => exact fun _ _ => trivial
    | cons r rs ih => exact fun n h => ⟨fun j hj => by rw [hrd, if_neg (by unfold ringN; omega)]; exact h.1 j hj, ih _ h.2⟩
  have hoth : slotR y first size (1 - h'.gen % 2) = (L.head, true) := by
    rw [slotR_congr ho' (by rw [hrd, if_neg (by omega)]), show 1 - h'.gen % 2 = L.head.gen % 2 by omega, slotR_text h.off h.low (by have := h.size6; omega) h.slot]
    have := h.gen
    simp [this]
  exact { wf := hw', off := on'.off, fit := by rw [hlen]; exact h.fit, size3 := h.size3, size6 := h.size6, low := hl, gen := by show 0 < h'.gen; omega, slot := by show readD y (first + h'.gen % 2) = _; rw [hrd, if_pos rfl],
          other := fun _ => by show (slotR y first size (1 - h'.gen % 2)).1.gen < h'.gen; rw [hoth]; show L.head.gen < _; omega,
          chain := hcv _ _ hc, starts := rfl, epochs := rfl, next := hn.symm, asc := ha, recs := hr, least := hle, big := h.big, ring := hri, up := rfl,
          junk := fun n p e => by
            have := h.junk n p (by rw [← hp]; exact e)
            exact ⟨by show p.epoch ≤ h'.epoch; omega, by show n < L.next ∨ p.epoch < h'.epoch; omega⟩,
          stop := by show ∃ c, recordR y first size L.next (lastE h'.least rs') h'.epoch = .error c; rw [recordR_congr fun m _ => hp m]; exact hs }
def firstE (d : Nat) : List Rc → Nat
  | [] => d
  | r :: _ => r.2
/-- the head that Open writes -/
def openHd (L : LogS) (rs : List Rc) : Head := ⟨L.head.gen + 1, L.head.epoch + 1, L.head.first, firstE (L.head.epoch + 1) rs⟩
theorem LogV.open {x : Dsk} {first size : Nat} {L : LogS} {rs : List Rc} (h : LogV x first size L rs) (on : x.on) (hg : L.head.gen < 281474976710655) (he : L.head.epoch < 281474976710655) :
    (openR x first size).2.1 = 0 ∧ (openR x first size).2.2 = { L with head := openHd L rs } ∧ LogV (openR x first size).1 first size { L with head := openHd L rs } rs ∧ (openR x first size).1.on ∧ (openR x first size).1.dur.length = x.dur.length := by
  have hlow := h.low
  have hst := h.starts
  have hep := h.epochs
  have hup := h.up
  have htH : turnH { L with head := noHead } (openH L.head) = openHd L rs := by
    unfold turnH openH openHd
    congr 1
    simp only
    rw [hst, hep]
    cases rs with
    | nil => simp [startsN, firstE]
    | cons r rs =>
      have hpos : posU (startsN L.head.first (r :: rs)) L.head.first = 0 := by
        refine posU_unique (Nat.zero_le _) (fun q n hq => absurd hq (Nat.not_lt_zero _)) fun q n _ hq => ?_
        exact ((startsN_rise L.head.first (r :: rs) fun s hs => (h.recs s hs).2).2 n (List.mem_of_getElem? hq)).1
      rw [if_pos (by simp [startsN]), hpos]
      simp [firstE]
  have hle' : (openHd L rs).least ≤ L.head.epoch + 1 := by
    unfold openHd
    cases rs with
    | nil => exact Nat.le_refl _
    | cons r rs => have := (h.recs r List.mem_cons_self).1; simp only [firstE]; omega
  obtain ⟨hV, hon, hE⟩ := h.turn on (h' := openHd L rs) (rs' := rs) ⟨by show L.head.gen + 1 < _; omega, by show L.head.epoch + 1 < _; omega, hlow.2.2.1, by show (openHd L rs).least < _; omega⟩ rfl (by show _ ≤ L.head.epoch + 1; omega) h.chain h.next.symm
    (by
      have := h.asc
      unfold openHd
      cases rs with
      | nil => trivial
      | cons r rs => exact ⟨Nat.le_refl _, this.2⟩)
    (fun r hr => ⟨by have := (h.recs r hr).1; show _ ≤ L.head.epoch + 1; omega, (h.recs r hr).2⟩) hle' h.ring
    (by
      obtain ⟨c, hc⟩ := h.stop
      cases rs with
      | nil =>
        refine recordR_old fun p hp => ?_
        have := (h.junk _ p hp).1
        show p.epoch < L.head.epoch + 1
        omega
      | cons r rs => exact recordR_most (fun p hp => (h.junk _ p hp).1) hc)
  have hL' : (⟨openHd L rs, L.next, startsN (openHd L rs).first rs, rs.map Prod.snd, false⟩ : LogS) = { L with head := openHd L rs } := by
    obtain ⟨hd, nx, st, ep, f⟩ := L
    simp only at hst hep hup
    subst hst hep hup
    rfl
  rw [hL'] at hV
  have e : openR x first size = (layX x (first + (openHd L rs).gen % 2) (headText (openHd L rs) size), 0, { L with head := openHd L rs }) := by
    unfold openR
    rw [h.counts, if_neg (by rw [h.off]; decide), if_neg (by simp only; omega), if_neg (by simp only; omega)]
    simp only
    rw [h.scan]
    unfold turnX turnE turnL turnE turnI
    rw [htH]
    rw [show (openH L.head).gen = (openHd L rs).gen from rfl, hE]
    rfl
  rw [e]
  exact ⟨rfl, rfl, hV, hon, layX_len _ _ _⟩
theorem ringN_inj {first size a b : Nat} (h : a ≤ b) (hb : b - a < size - 2) (e : ringN first size a = ringN first size b) : a = b := by
  unfold ringN at e
  have e1 : b % (size - 2) = a % (size - 2) := by omega
  have := Nat.sub_mod_eq_zero_of_mod_eq e1
  rw [Nat.mod_eq_of_lt hb] at this
  omega
theorem appX_on {x : Dsk} (hw : x.wf) (on : x.on) {first size n ep : Nat} (hf : first + size ≤ x.dur.length) (h3 : 2 < size) {rec : List Int} : ∀ j, j ≤ size - 2 → ∃ y, appX x first size n ep rec j = (y, true) ∧ y.wf ∧ y.on ∧ y.dur.length = x.dur.length ∧
    (∀ i, i < j → readD y (ringN first size (n + i)) = some (pieceText n ep rec i)) ∧ ∀ m, (∀ i, i < j → m ≠ ringN first size (n + i)) → readD y m = readD x m
  | 0, _ => ⟨x, rfl, hw, on, rfl, fun i hi => absurd hi (Nat.not_lt_zero _), fun m _ => rfl⟩
  | j + 1, hj => by
    obtain ⟨y, e, yw, yon, yl, y1, y2⟩ := appX_on hw on hf h3 (rec := rec) (n := n) (ep := ep) j (by omega)
    have hrl : ringN first size (n + j) < y.dur.length := by
      have := Nat.mod_lt (n + j) (show 0 < size - 2 by omega)
      unfold ringN
      omega
    refine ⟨wroteD y (ringN first size (n + j)) (pieceText n ep rec j), ?_, yw.wrote hrl _, yon.wrote _ _, yl, fun i hi => ?_, fun m hm => ?_⟩
    · unfold appX
      rw [e]
      simp only
      rw [yon.write, yon.goesB]
    · rw [readD_wrote]
      by_cases hij : i = j
      · subst hij; rw [if_pos rfl]
      · rw [if_neg (fun e => hij (by have := ringN_inj (by omega) (by omega) e; omega))]
        exact y1 i (by omega)
    · rw [readD_wrote, if_neg (hm j (Nat.lt_succ_self _))]
      exact y2 m fun i hi => hm i (by omega)
theorem ChainV.keep {x y : Dsk} {first size : Nat} : ∀ {n : Nat} {rs : List Rc}, ChainV x first size n rs → (∀ m, n ≤ m → m < endN n rs → readD y (ringN first size m) = readD x (ringN first size m)) → ChainV y first size n rs
  | _, [], _, _ => trivial
  | n, r :: rs, h, hk => by
    have he := endN_le (n + need r.1.length) rs
    have hk' : ∀ m, n ≤ m → m < endN (n + need r.1.length) rs → readD y (ringN first size m) = readD x (ringN first size m) := hk
    exact ⟨fun j hj => by rw [hk' _ (by omega) (by omega)]; exact h.1 j hj, h.2.keep fun m h1 h2 => hk' m (by omega) h2⟩
theorem LogV.append {x : Dsk} {first size : Nat} {L : LogS} {rs : List Rc} (h : LogV x first size L rs) (on : x.on) {rec : List Int} (hl : rec.length ≤ 8192) (hf : need rec.length ≤ L.free size) (hb : L.next + need rec.length < 281474976710656) :
    ∃ y, appendR x first size L rec = (y, ⟨L.head, L.next + need rec.length, L.starts ++ [L.next], L.epochs ++ [L.head.epoch], false⟩, L.next, 0) ∧
      LogV y first size ⟨L.head, L.next + need rec.length, L.starts ++ [L.next], L.epochs ++ [L.head.epoch], false⟩ (rs ++ [(rec, L.head.epoch)]) ∧ y.on ∧ y.dur.length = x.dur.length := by
  have hnp := needs_pos hl
  have hfr : L.next - L.head.first + need rec.length ≤ size - 2 := by unfold LogS.free at hf; have := h.ring; omega
  have hle : L.head.first ≤ L.next := by rw [h.next]; exact endN_le _ _
  obtain ⟨y, e, yw, yon, yl, y1, y2⟩ := appX_on h.wf on (n := L.next) (ep := L.head.epoch) h.fit h.size3 (rec := rec) (need rec.length) (by omega)
  refine ⟨y, ?_, ?_, yon, yl⟩
  · unfold appendR
    rw [h.up, h.off, if_neg (by decide), if_neg (by omega), if_neg (by omega), e]
    rfl
  have ho' : y.off = x.off := by rw [yon.off, h.off]
  have hold : ∀ m, L.head.first ≤ m → m < L.next → readD y (ringN first size m) = readD x (ringN first size m) := fun m h1 h2 => y2 _ fun i hi e => by
    have := ringN_inj (by omega) (by omega) e
    omega
  have hslot : ∀ k, k < 2 → readD y (first + k) = readD x (first + k) := fun k hk => y2 _ fun i hi => by unfold ringN; omega
  have hpn : ∀ n p, pieceR y first size n = .ok p → p.epoch ≤ L.head.epoch ∧ (n < L.next + need rec.length ∨ p.epoch < L.head.epoch) := fun n p hp => by
    by_cases hx : ∃ i, i < need rec.length ∧ ringN first size n = ringN first size (L.next + i)
    · obtain ⟨i, hi, e⟩ := hx
      have := y1 i hi
      rw [← e] at this
      obtain ⟨rfl, hn⟩ := pieceR_of yon.off (piece_fine hl hi (by omega) h.low.2.1) this hp
      have hn' : L.next + i = n := hn
      exact ⟨Nat.le_refl _, .inl (by omega)⟩
    · rw [pieceR_congr ho' (y2 _ fun i hi e => hx ⟨i, hi, e⟩)] at hp
      have := h.junk n p hp
      exact ⟨this.1, by omega⟩
  have hend : endN L.head.first (rs ++ [(rec, L.head.epoch)]) = L.next + need rec.length := by rw [endN_app, ← h.next]; rfl
  have hlast : lastE L.head.least (rs ++ [(rec, L.head.epoch)]) = L.head.epoch := by rw [lastE_app]; rfl
  exact { wf := yw, off := yon.off, fit := by rw [yl]; exact h.fit, size3 := h.size3, size6 := h.size6, low := h.low, gen := h.gen, slot := by show readD y (first + L.head.gen % 2) = _; rw [hslot _ (Nat.mod_lt _ (by decide))]; exact h.slot,
          other := by show (slotR y first size (1 - L.head.gen % 2)).2 = true → _; rw [slotR_congr ho' (hslot _ (by omega))]; exact h.other,
          chain := ChainV_app.2 ⟨h.chain.keep fun m h1 h2 => hold m h1 (by rw [h.next]; exact h2), ⟨fun j hj => by rw [← h.next]; exact y1 j hj, trivial⟩⟩,
          starts := by show L.starts ++ [L.next] = startsN L.head.first _; rw [startsN_app, ← h.next, ← h.starts]; rfl,
          epochs := by show L.epochs ++ [L.head.epoch] = _; rw [List.map_append, ← h.epochs]; rfl,
          next := hend.symm,
          asc := Asc_app.2 ⟨h.asc, ⟨(h.asc.last h.least fun r hr => (h.recs r hr).1).2, trivial⟩⟩,
          recs := fun r hr => by
            rcases List.mem_append.1 hr with hr | hr
            · exact h.recs r hr
            · rw [List.mem_singleton.1 hr]; exact ⟨Nat.le_refl _, hl⟩,
          least := h.least, big := hb, ring := by show L.next + need rec.length - L.head.first ≤ size - 2; omega, up := rfl, junk := hpn,
          stop := by
            rw [hlast]
            exact recordR_old fun p hp => by have := (hpn _ p hp).2; simp only at this; omega }
theorem LogV.flush {x : Dsk} {first size : Nat} {L : LogS} {rs : List Rc} (h : LogV x first size L rs) (on : x.on) : lflushR x L = (flushD x, L, 0) ∧ LogV (flushD x) first size L rs ∧ (flushD x).on ∧ (flushD x).dur.length = x.dur.length := by
  have hl : (flushD x).dur.length = x.dur.length := by rw [← on.flush]; exact flushX_len x
  refine ⟨?_, h.congr h.wf.flushed on.flushed.off hl (readD_flush h.wf), on.flushed, hl⟩
  unfold lflushR
  rw [h.up, h.off, if_neg (by decide), on.goesB, on.flush]
  have := h.up
  obtain ⟨hd, nx, st, ep, f⟩ := L
  simp only at this
  subst this
  rfl
end Go.Proofs.YtbjofbhhnmehgaaGreatDoor.TT
namespace Go.Proofs.YtbjofbhhnmehgaaGreatDoor.TT
open Go.RowKit Go.RG Go.Hp Go.Proofs.YtbjofbhhnmehgaaGreatDoor
theorem sealedR_zero {x : Dsk} {i : Nat} {M : List Int} (hM : M ≠ zeros 4) (h : readD x i = some (zeros 128)) : ∃ c, sealedR x i M = .error c := by
  unfold sealedR
  split
  · exact ⟨_, rfl⟩
  · rw [h]
    simp only
    split
    · exact ⟨_, rfl⟩
    · rename_i t ht
      have ht' := (unsealed_some ht).2.1
      rw [if_neg]
      · exact ⟨_, rfl⟩
      · rw [ht', zeros_length]
        intro e
        apply hM
        rw [← e]
        rfl
theorem slotR_zero {x : Dsk} {first size k : Nat} (h : readD x (first + k) = some (zeros 128)) : slotR x first size k = (noHead, false) := by
  obtain ⟨c, hc⟩ := sealedR_zero (M := headMark) (by decide) h
  unfold slotR
  rw [hc]
theorem pieceR_zero {x : Dsk} {first size n : Nat} (h : readD x (ringN first size n) = some (zeros 128)) : ∃ c, pieceR x first size n = .error c := by
  obtain ⟨c, hc⟩ := sealedR_zero (M := pieceMark) (by decide) h
  unfold pieceR
  rw [hc]
  exact ⟨c, rfl⟩
theorem fmtE_on {x : Dsk} (hw : x.wf) (on : x.on) {first k : Nat} (hf : first + 1 < x.dur.length) : ∀ i, ∃ y, fmtE x first k i = (y, 0) ∧ y.wf ∧ y.on ∧ y.dur.length = x.dur.length ∧ (∀ j, j < i → readD y (first + (k + j) % 2) = some (zeros 128)) ∧ ∀ m, (∀ j, j < i → m ≠ first + (k + j) % 2) → readD y m = readD x m
  | 0 => ⟨x, rfl, hw, on, rfl, fun j hj => absurd hj (Nat.not_lt_zero _), fun m _ => rfl⟩
  | i + 1 => by
    obtain ⟨y, e, yw, yon, yl, y1, y2⟩ := fmtE_on hw on hf (k := k) i
    have hi : first + (k + i) % 2 < y.dur.length := by omega
    have hr := readD_lay yw yon hi (zeros 128)
    refine ⟨layX y (first + (k + i) % 2) (zeros 128), ?_, yw.lay yon hi _, yon.layOn _ _, by rw [layX_len, yl], fun j hj => ?_, fun m hm => ?_⟩
    · unfold fmtE
      rw [e]
      simp only [if_true]
      rw [(yon.lay _ _).2]
    · rw [hr]
      split
      · rfl
      · exact y1 j (by rename_i h; rcases Nat.lt_succ_iff_lt_or_eq.1 hj with h' | h'; exact h'; subst h'; exact absurd rfl h)
    · rw [hr, if_neg (hm i (Nat.lt_succ_self _))]
      exact y2 m fun j hj => hm j (by omega)
theorem fmtW_on {x : Dsk} (hw : x.wf) (on : x.on) {first : Nat} : ∀ i, first + 2 + i ≤ x.dur.length → ∃ y, fmtW x first i = (y, true) ∧ y.wf ∧ y.on ∧ y.dur.length = x.dur.length ∧ (∀ j, j < i → readD y (first + (2 + j)) = some (zeros 128)) ∧ ∀ m, (∀ j, j < i → m ≠ first + (2 + j)) → readD y m = readD x m
  | 0, _ => ⟨x, rfl, hw, on, rfl, fun j hj => absurd hj (Nat.not_lt_zero _), fun m _ => rfl⟩
  | i + 1, hf => by
    obtain ⟨y, e, yw, yon, yl, y1, y2⟩ := fmtW_on hw on (first := first) i (by omega)
    have hi : first + (2 + i) < y.dur.length := by omega
    have hr : ∀ m, readD (wroteD y (first + (2 + i) : Nat) (zeros 128)) m = if m = first + (2 + i) then some (zeros 128) else readD y m := fun m => readD_wrote y _ m _
    refine ⟨wroteD y (first + (2 + i) : Nat) (zeros 128), ?_, yw.wrote hi _, yon.wrote _ _, yl, fun j hj => ?_, fun m hm => ?_⟩
    · unfold fmtW
      rw [e]
      simp only [if_true]
      rw [yon.write, yon.goesB]
    · rw [hr]
      split
      · rfl
      · exact y1 j (by omega)
    · rw [hr, if_neg (hm i (Nat.lt_succ_self _))]
      exact y2 m fun j hj => hm j (by omega)
/-- Format leaves a log without records -/
theorem format_on {x : Dsk} (hw : x.wf) (on : x.on) {first size : Nat} (h3 : 2 < size) (h6 : size ≤ 65536) (hf : first + size ≤ x.dur.length) :
    ∃ y, formatR x first size = (y, 0) ∧ LogV y first size ⟨head1, 0, [], [], false⟩ [] ∧ y.on ∧ y.dur.length = x.dur.length := by
  obtain ⟨y, e1, yw, yon, yl, y1, -⟩ := fmtE_on hw on (first := first) (k := fmtK x first size) (by omega) 2
  obtain ⟨z, e2, zw, zon, zl, z1, z2⟩ := fmtW_on yw yon (first := first) (size - 2) (by omega)
  have fl : (flushD z).dur.length = z.dur.length := by rw [← zon.flush]; exact flushX_len z
  have hi : first + 1 < (flushD z).dur.length := by omega
  have hr := readD_lay zw.flushed zon.flushed hi (headText head1 size)
  have won := zon.flushed.layOn (first + 1) (headText head1 size)
  refine ⟨layX (flushD z) (first + 1) (headText head1 size), ?_, ?_, won, by rw [layX_len]; omega⟩
  · unfold formatR
    rw [on.off, if_neg (by decide), e1]
    simp only
    rw [if_neg (by simp), e2]
    simp only
    rw [if_neg (by simp), zon.goesB, if_neg (by simp), zon.flush, (zon.flushed.lay _ _).2]
  have hk := fmtK_lt x first size
  have hslot : ∀ k, k < 2 → readD z (first + k) = some (zeros 128) := fun k hk' => by
    rw [z2 _ fun j hj => by omega]
    have h0 := y1 0 (by decide)
    have h1 := y1 1 (by decide)
    rcases (show (fmtK x first size + 0) % 2 = k ∨ (fmtK x first size + 1) % 2 = k by omega) with e | e
    · rw [← e]; exact h0
    · rw [← e]; exact h1
  generalize hW : layX (flushD z) (first + 1) (headText head1 size) = w at *
  have hring : ∀ n, readD w (ringN first size n) = some (zeros 128) := fun n => by
    have hm := Nat.mod_lt n (show 0 < size - 2 by omega)
    rw [hr, if_neg (by unfold ringN; omega), readD_flush zw]
    have := z1 (n % (size - 2)) hm
    unfold ringN
    rw [show first + 2 + n % (size - 2) = first + (2 + n % (size - 2)) by omega]
    exact this
  have hno : ∀ n p, pieceR w first size n ≠ .ok p := fun n p hp => by
    obtain ⟨c, hc⟩ := pieceR_zero (hring n)
    rw [hc] at hp
    cases hp
  have hoth : (slotR w first size (1 - head1.gen % 2)).2 = true → (slotR w first size (1 - head1.gen % 2)).1.gen < head1.gen := by
    show (slotR w first size 0).2 = true → _
    rw [slotR_zero (by rw [hr, if_neg (by omega), readD_flush zw]; exact hslot 0 (by decide))]
    exact fun h => by cases h
  exact { wf := by rw [← hW]; exact zw.flushed.lay zon.flushed hi _, off := won.off, fit := by rw [← hW, layX_len]; omega, size3 := h3, size6 := h6, low := ⟨by decide, by decide, by decide, by decide⟩, gen := by decide,
          slot := by show readD w (first + 1) = _; rw [hr, if_pos rfl],
          other := hoth, chain := trivial, starts := rfl, epochs := rfl, next := rfl, asc := trivial, recs := (fun r hr => by cases hr), least := Nat.le_refl _, big := by decide, ring := Nat.zero_le _, up := rfl,
          junk := fun n p hp => absurd hp (hno n p), stop := recordR_old fun p hp => absurd hp (hno _ p) }
/-- the records, read back -/
theorem LogV.has {x : Dsk} {first size : Nat} {L : LogS} {rs : List Rc} (h : LogV x first size L rs) : HasRecs x first size L ((startsN L.head.first rs).zip (rs.map Prod.fst)) := by
  refine ⟨by rw [List.map_fst_zip (by rw [startsN_length, List.length_map]; exact Nat.le_refl _)]; exact h.starts.symm, fun e he => ?_⟩
  have hkey : ∀ (rs : List Rc) (n : Nat), ChainV x first size n rs → (∀ r ∈ rs, r.2 ≤ L.head.epoch ∧ r.1.length ≤ 8192) → endN n rs < 281474976710656 → ∀ e ∈ (startsN n rs).zip (rs.map Prod.fst), ∃ ep, recordR x first size e.1 0 L.head.epoch = .ok (e.2, ep) := by
    intro rs
    induction rs with
    | nil => exact fun n _ _ _ e he => by cases he
    | cons r rs ih =>
      intro n hc hr hb e he
      have hle := endN_le (n + need r.1.length) rs
      have hb' : endN (n + need r.1.length) rs < 281474976710656 := hb
      obtain ⟨r1, r2⟩ := hr r List.mem_cons_self
      rcases List.mem_cons.1 he with rfl | he
      · exact ⟨r.2, recordR_chain h.off hc.1 r2 (by show n + need r.1.length ≤ _; omega) (by have := h.low.2.1; omega) (Nat.zero_le _) r1⟩
      · exact ih _ hc.2 (fun s hs => hr s (List.mem_cons_of_mem _ hs)) hb' e he
  exact hkey rs _ h.chain h.recs (by rw [← h.next]; exact h.big) e he
theorem LogV.has_snd {L : LogS} (rs : List Rc) : ((startsN L.head.first rs).zip (rs.map Prod.fst)).map Prod.snd = rs.map Prod.fst := List.map_snd_zip (by rw [startsN_length, List.length_map]; exact Nat.le_refl _)
/-- table.Format leaves a log with the record of no pairs -/
theorem tformat_on {x : Dsk} (hw : x.wf) (on : x.on) {first size : Nat} (h3 : 83 ≤ size) (h6 : size ≤ 65536) (hf : first + size ≤ x.dur.length) :
    ∃ y L, tformatR x first size = (y, 0) ∧ LogV y first size L [(partB [] 0, 1)] ∧ y.on ∧ y.dur.length = x.dur.length ∧ L.head.gen = 2 ∧ L.head.epoch = 1 ∧ L.head.first = 0 := by
  obtain ⟨y, e1, hV, yon, yl⟩ := format_on hw on (by omega) h6 hf
  obtain ⟨o1, o2, o3, o4, o5⟩ := hV.open yon (by decide) (by decide)
  have hl21 : (partB [] 0).length ≤ 21 := by
    have := headB_le 0 (partsN 0) (by decide) (by decide)
    unfold partB
    simpa using this
  have hlen : (partB [] 0).length ≤ 8192 := by omega
  have hneed : need (partB [] 0).length = 1 := by unfold need; rw [if_pos hlen]; omega
  obtain ⟨z, a1, a2, a3, a4⟩ := o3.append o4 (rec := partB [] 0) hlen (by rw [hneed]; unfold LogS.free openHd head1; simp only; omega) (by rw [hneed]; decide)
  obtain ⟨f1, f2, f3, f4⟩ := a2.flush a3
  refine ⟨flushD z, _, ?_, f2, f3, by omega, rfl, rfl, rfl⟩
  unfold tformatR
  rw [e1]
  simp only
  rw [if_neg (by simp), o1, if_neg (by simp), o2, a1]
  simp only
  rw [if_neg (by simp), f1]
end Go.Proofs.YtbjofbhhnmehgaaGreatDoor.TT
namespace Go.Proofs.YtbjofbhhnmehgaaGreatDoor.TT
open Go.RowKit Go.RG Go.Hp Go.Proofs.YtbjofbhhnmehgaaGreatDoor


/-- the pairs that a slice holds; F: what may be written meanwhile -/
def PrsAt (w : World) (F : Nat → Prop) (v : Value) (ps : List Pr) : Prop := ∃ a cap, v = .slice a ps.length cap ∧ ∀ i p, ps[i]? = some p →
  ∃ g o va vb, a = some ⟨g, o, none⟩ ∧ w.cell? ⟨g, o + i * 2, none⟩ = some va ∧ w.cell? ⟨g, o + i * 2 + 1, none⟩ = some vb ∧ Src w va (u8s p.1) ∧ Src w vb (u8s p.2) ∧ ¬ F g ∧ ∀ j, va.ownBlock = some j ∨ vb.ownBlock = some j → j < w.heap.size ∧ ¬ F j
theorem PrsAt.ext {w w' : World} {F S : Nat → Prop} {v : Value} {ps : List Pr} (h : PrsAt w F v ps) (hX : Ext S w w') (hS : ∀ j, S j → F j) : PrsAt w' F v ps := by
  obtain ⟨a, cap, rfl, h⟩ := h
  refine ⟨a, cap, rfl, fun i c hc => ?_⟩
  obtain ⟨g, o, va, vb, rfl, h1, h2, h4, h5, h6, h7⟩ := h i c hc
  exact ⟨g, o, va, vb, rfl, hX.cell_some h1 fun e => h6 (hS _ e), hX.cell_some h2 fun e => h6 (hS _ e), src_ext h4 hX fun j hj e => (h7 j (.inl hj)).2 (hS _ e), src_ext h5 hX fun j hj e => (h7 j (.inr hj)).2 (hS _ e), h6, fun j hj => ⟨Nat.lt_of_lt_of_le (h7 j hj).1 hX.size, (h7 j hj).2⟩⟩
theorem PrsAt.below {w w' : World} {F : Nat → Prop} {v : Value} {ps : List Pr} (h : PrsAt w F v ps) (hb : Below w.heap.size w w') : PrsAt w' F v ps :=
  h.ext (S := fun _ => False) (Ext.of_below hb) fun _ e => e.elim
theorem PrsAt.nil (w : World) (F : Nat → Prop) : PrsAt w F (.slice none 0 0) [] := ⟨none, 0, rfl, fun i p h => by simp at h⟩
theorem PrsAt.at {w : World} {F : Nat → Prop} {a : Option Addr} {n cap : Nat} {ps : List Pr} (h : PrsAt w F (.slice a n cap) ps) {i : Nat} {p : Pr} (hp : ps[i]? = some p) :
    ∃ g o va vb, a = some ⟨g, o, none⟩ ∧ w.cell? ⟨g, o + i * 2, none⟩ = some va ∧ w.cell? ⟨g, o + i * 2 + 1, none⟩ = some vb ∧ Src w va (u8s p.1) ∧ Src w vb (u8s p.2) ∧ ¬ F g ∧ ∀ j, va.ownBlock = some j ∨ vb.ownBlock = some j → j < w.heap.size ∧ ¬ F j := by
  obtain ⟨a', cap', e, h⟩ := h
  injection e with e1 e2 e3
  subst e1
  exact h i p hp
theorem liveN_upto {ps : List Pr} (hl : ps.length ≤ 1048576) (hg : ∀ p ∈ ps, p.1.length ≤ 1048576 ∧ p.2.length ≤ 1048576) : liveN ps ≤ 4398046511104 := by
  have key : ∀ ps : List Pr, (∀ p ∈ ps, p.1.length ≤ 1048576 ∧ p.2.length ≤ 1048576) → liveN ps ≤ 4194304 * ps.length := by
    intro ps
    induction ps with
    | nil => exact fun _ => Nat.zero_le _
    | cons p ps ih =>
      intro h
      have h1 := ih fun q hq => h q (List.mem_cons_of_mem _ hq)
      obtain ⟨h2, h3⟩ := h p List.mem_cons_self
      have h4 := sdnv_length p.1.length (by omega)
      have h5 := sdnv_length p.2.length (by omega)
      have h6 : pairN p.1 p.2 ≤ 4194304 := by unfold pairN lenText; simp only [List.length_append, u8s_length]; omega
      rw [liveN_cons, List.length_cons]
      omega
  have := key ps hg
  omega
theorem liveN_succ {ps : List Pr} {i : Nat} {p : Pr} (h : ps[i]? = some p) : liveN (ps.take (i + 1)) = liveN (ps.take i) + pairN p.1 p.2 := by
  rw [List.take_add_one, h, Option.toList_some, liveN_append, liveN_cons]
  simp [liveN]
set_option maxHeartbeats 1000000 in
set_option maxRecDepth 100000 in
theorem bytesOf_any (F : Nat → Prop) (v : Value) (ps : List Pr) (w : World) (h : PrsAt w F v ps) (hl : ps.length ≤ 1048576) (hg : ∀ p ∈ ps, p.1.length ≤ 1048576 ∧ p.2.length ≤ 1048576) :
    Calls Tryz.prog 25 #[v] w fun e w' => e = .returned (.int .i64 (liveN ps)) ∧ Below w.heap.size w w' := by
  have hmax := liveN_upto hl hg
  obtain ⟨a, cap, rfl, -⟩ := id h
  obtain ⟨n, hn⟩ : ∃ n, ps.length = n := ⟨_, rfl⟩
  rw [hn] at h hl ⊢
  have H := Lib.hid (And.intro h hg)
  have Hn := Lib.hid hn
  have hle : ∀ i, liveN (ps.take i) ≤ liveN ps := fun i => by
    have := liveN_append (ps.take i) (ps.drop i)
    rw [List.take_append_drop] at this
    omega
  have Hle := Lib.hid hle
  have Hmax := Lib.hid hmax
  clear h hg hn hle hmax
  go_enter Tryz.func25, Tryz.ntmps25
  go_wp2_with fail
  go_loopw [3, 4, 5] (fun vn vi _ wr => ∃ i : Nat, vn = .int .i64 (liveN (ps.take i)) ∧ vi = .int .i64 i ∧ i ≤ n ∧ Below w.heap.size w wr) (fun _ vi _ _ => n - (intOf vi).toNat)
  case atStart => exact ⟨0, rfl, rfl, Nat.zero_le _, Below.refl _ _⟩
  case round =>
    obtain ⟨i, rfl, rfl, hi, hB⟩ := hrel
    by_cases hin : i < n
    · have hin' : (i : Int) < (n : Int) := by omega
      obtain ⟨p, hp⟩ : ∃ p, ps[i]? = some p := ⟨_, List.getElem?_eq_getElem (by rw [Hn.out]; exact hin)⟩
      obtain ⟨g, o, va, vb, rfl, c1, c2, s1, s2, -, -⟩ := (H.out.1.below hB).at hp
      obtain ⟨g1, g2⟩ := H.out.2 p (List.mem_of_getElem? hp)
      obtain ⟨m, hm⟩ : ∃ m, liveN (ps.take i) = m := ⟨_, rfl⟩
      have hsum := liveN_succ hp
      have hm2 := Hle.out (i + 1)
      have hmx := Hmax.out
      rw [hm] at hsum
      rw [hsum] at hm2
      rw [hm]
      have HS := Lib.hid hsum
      have hs0 : Src wr (.slice none 0 0) [] := .inr ⟨rfl, rfl⟩
      have HA := Lib.hid (appendBytes_any (.slice none 0 0) va [] (u8s p.1) wr hs0 s1 (fun u h => by cases h) (u8s_one _) (by decide) (by rw [u8s_length]; omega))
      have HC := Lib.hid (And.intro c1 (And.intro c2 s2))
      have Hp := Lib.hid (And.intro hp (And.intro g1 g2))
      have hl1 := sdnv_length p.1.length (by omega)
      clear hs0 s1 s2 c2 hsum hp hm g1 g2
      go_wp2_with fail
      refine HA.out.mono ?_
      rintro e w1 ⟨u, rfl, hown, hB1⟩
      have hB2 := hB.trans (hB1.mono hB.size)
      have c2 := below_cell hB1 HC.out.2.1
      have HA2 := Lib.hid (appendBytes_any u vb _ (u8s p.2) w1 (Src.of_owns hown) (HC.out.2.2.below hB1) (by rw [List.nil_append]; exact lenText_one (u8s_one _)) (u8s_one _) (by have := Hp.out.2.1; simp [lenText, u8s_length]; omega) (by have := Hp.out.2.2; rw [u8s_length]; omega))
      clear hown hB1 c1
      go_wp2_with fail
      refine HA2.out.mono ?_
      rintro e w2 ⟨u2, rfl, hown2, hB3⟩
      obtain ⟨a2, c3, rfl, -⟩ := owns_shape hown2
      have hle : (([] ++ lenText (u8s p.1)) ++ lenText (u8s p.2)).length = pairN p.1 p.2 := by simp [pairN]
      rw [hle]
      have hB4 := hB2.trans (hB3.mono hB2.size)
      clear hown2 hle c2
      have e1 := IntWalk.i64_in ((m : Int) + (pairN p.1 p.2 : Nat)) (by omega)
      go_wp2_with fail
      refine ⟨⟨i + 1, by rw [HS.out]; push_cast; rfl, by simp, by omega, hB4⟩, ?_⟩
      show n - ((i : Int) + 1).toNat < n - (i : Int).toNat
      omega
    · obtain rfl : i = n := by omega
      have hi' : ¬ ((i : Int) < (i : Int)) := by omega
      have ht : ps.take i = ps := List.take_of_length_le (by rw [Hn.out]; exact Nat.le_refl _)
      rw [ht]
      clear ht
      go_wp2_with fail
      go_ret
      exact ⟨rfl, hB⟩
end Go.Proofs.YtbjofbhhnmehgaaGreatDoor.TT
