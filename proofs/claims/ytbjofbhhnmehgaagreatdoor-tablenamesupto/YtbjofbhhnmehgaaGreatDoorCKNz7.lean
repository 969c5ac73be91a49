/-
  table: batch, of a record that is one.
-/
import Derived.Test.YtbjofbhhnmehgaaGreatDoorCKNz6
import Derived.Defers
import Derived.Recover
set_option linter.unusedSimpArgs false
set_option linter.unusedVariables false
namespace Go.Proofs.YtbjofbhhnmehgaaGreatDoor.TT
open Go.RowKit Go.RG Go.Hp Go.Proofs.YtbjofbhhnmehgaaGreatDoor


theorem und_changes : Tryz.prog.underlying 49 = some (.slice 78) := by kernel_rfl
theorem info_change : (Tryz.prog.info? 78).map (fun i => (i.zero, i.size, i.bytes)) = some (some (.agg #[.slice none 0 0, .slice none 0 0, .bool false]), 3, 56) := by kernel_rfl
/-- a change, as a record says it -/
def Chg.norm (c : Chg) : Chg := if c.gone then { c with value := [] } else c
theorem chgP_norm (ps : List Pr) (c : Chg) : chgP ps c.norm = chgP ps c := by
  unfold Chg.norm
  split
  · rename_i h
    unfold chgP
    simp [h]
  · rfl
/-- the first changes of a list that is being made -/
structure LstAt (w : World) (B r : Nat) (v : Value) (cs : List Chg) : Prop where
  row : ∃ cells, w.ownsRow B 78 3 v cs.length cells ∧ ∀ j c, cs[j]? = some c → ∃ va vb, cells[j * 3]? = some va ∧ cells[j * 3 + 1]? = some vb ∧ cells[j * 3 + 2]? = some (.bool c.gone) ∧ Src w va (u8s c.key) ∧ Src w vb (u8s c.value) ∧
    ∀ i, va.ownBlock = some i ∨ vb.ownBlock = some i → B ≤ i ∧ i < w.heap.size ∧ i ≠ r ∧ v.ownBlock ≠ some i
  ne : v.ownBlock ≠ some r
theorem LstAt.ext {w w' : World} {B r : Nat} {v : Value} {cs : List Chg} (h : LstAt w B r v cs) (hX : Ext (· = r) w w') : LstAt w' B r v cs := by
  obtain ⟨cells, h1, h2⟩ := h.row
  refine ⟨⟨cells, owns_ext h1 hX fun j hj e => h.ne (e ▸ hj), fun j c hc => ?_⟩, h.ne⟩
  obtain ⟨va, vb, k1, k2, k3, k4, k5, k6⟩ := h2 j c hc
  exact ⟨va, vb, k1, k2, k3, src_ext k4 hX fun i hi e => (k6 i (.inl hi)).2.2.1 e, src_ext k5 hX fun i hi e => (k6 i (.inr hi)).2.2.1 e, fun i hi => ⟨(k6 i hi).1, Nat.lt_of_lt_of_le (k6 i hi).2.1 hX.size, (k6 i hi).2.2⟩⟩
theorem LstAt.below {w w' : World} {B r : Nat} {v : Value} {cs : List Chg} (h : LstAt w B r v cs) (hB : Below w.heap.size w w') : LstAt w' B r v cs := h.ext (Ext.of_below hB)
/-- one more -/
theorem LstAt.push {w w1 : World} {B r : Nat} {v u : Value} {cs : List Chg} (h : LstAt w B r v cs) (c : Chg) (va vb : Value) (hk : Src w va (u8s c.key)) (hv : Src w vb (u8s c.value)) (hfar : ∀ i, va.ownBlock = some i ∨ vb.ownBlock = some i → B ≤ i ∧ i < w.heap.size ∧ i ≠ r ∧ v.ownBlock ≠ some i)
    (hr : r < w.heap.size) (hX : Ext (fun j => v.ownBlock = some j) w w1) (hu : ∀ j, u.ownBlock = some j → v.ownBlock = some j ∨ w.heap.size ≤ j) (hown : ∀ cells, w.ownsRow B 78 3 v cs.length cells → w1.ownsRow B 78 3 u (cs.length + 1) (cells ++ [va, vb, .bool c.gone])) : LstAt w1 B r u (cs ++ [c]) := by
  obtain ⟨cells, h1, h2⟩ := h.row
  have hl := h1.1
  have hne : ∀ i, B ≤ i ∧ i < w.heap.size ∧ i ≠ r ∧ v.ownBlock ≠ some i → B ≤ i ∧ i < w1.heap.size ∧ i ≠ r ∧ u.ownBlock ≠ some i := fun i ⟨a, b, c, d⟩ => ⟨a, Nat.lt_of_lt_of_le b hX.size, c, fun e => (hu i e).elim d fun e => by omega⟩
  refine ⟨⟨cells ++ [va, vb, .bool c.gone], by rw [List.length_append]; exact hown cells h1, fun j d hd => ?_⟩, fun e => (hu r e).elim h.ne fun e => by omega⟩
  rcases Nat.lt_or_ge j cs.length with hj | hj
  · rw [List.getElem?_append_left hj] at hd
    obtain ⟨xa, xb, k1, k2, k3, k4, k5, k6⟩ := h2 j d hd
    refine ⟨xa, xb, ?_, ?_, ?_, src_ext k4 hX fun i hi e => (k6 i (.inl hi)).2.2.2 e, src_ext k5 hX fun i hi e => (k6 i (.inr hi)).2.2.2 e, fun i hi => hne i (k6 i hi)⟩
    · rw [List.getElem?_append_left (by omega)]; exact k1
    · rw [List.getElem?_append_left (by omega)]; exact k2
    · rw [List.getElem?_append_left (by omega)]; exact k3
  · have hjl := (List.getElem?_eq_some_iff.1 hd).1
    rw [List.length_append, List.length_singleton] at hjl
    obtain rfl : j = cs.length := by omega
    rw [List.getElem?_append_right (Nat.le_refl _), Nat.sub_self] at hd
    obtain rfl := Option.some.inj hd
    refine ⟨va, vb, ?_, ?_, ?_, src_ext hk hX fun i hi e => (hfar i (.inl hi)).2.2.2 e, src_ext hv hX fun i hi e => (hfar i (.inr hi)).2.2.2 e, fun i hi => hne i (hfar i hi)⟩
    · rw [List.getElem?_append_right (by omega), hl, Nat.sub_self]; rfl
    · rw [List.getElem?_append_right (by omega), hl, Nat.add_sub_cancel_left]; rfl
    · rw [List.getElem?_append_right (by omega), hl, Nat.add_sub_cancel_left]; rfl
theorem LstAt.batch {w : World} {B r : Nat} {v : Value} {cs : List Chg} (h : LstAt w B r v cs) (F : Nat → Prop) (hF : ∀ j, F j → j < B) : BatchAt w F v cs := by
  obtain ⟨cells, h1, h2⟩ := h.row
  obtain ⟨a, cap, hsh, -⟩ := owns_shape h1
  refine ⟨a, cap, hsh, fun i c hc => ?_⟩
  obtain ⟨va, vb, k1, k2, k3, k4, k5, k6⟩ := h2 i c hc
  rcases h1.2 with ⟨-, h0⟩ | ⟨g, cap', cur, hv, hg, hh, -⟩
  · have := (List.getElem?_eq_some_iff.1 hc).1; omega
  · rw [hv] at h1 hsh
    injection hsh with hsh _ _
    have hcell : ∀ j u, cells[j]? = some u → w.cell? ⟨g, j, none⟩ = some u := fun j u hu => by
      have := h1.cells (g := g) rfl j u hu
      rwa [Addr.add_lit, Nat.zero_add] at this
    refine ⟨g, 0, va, vb, hsh.symm, ?_, ?_, ?_, k4, k5, fun e => by have := hF g e; omega, fun j hj => ⟨(k6 j hj).2.1, fun e => by have := hF j e; have := (k6 j hj).1; omega⟩⟩
    · rw [Nat.zero_add]; exact hcell _ _ k1
    · rw [Nat.zero_add]; exact hcell _ _ k2
    · rw [Nat.zero_add]; exact hcell _ _ k3
theorem app_chg (w : World) (B : Nat) (v : Value) (n : Nat) (cells : List Value) (hown : w.ownsRow B 78 3 v n cells) (hn : n ≤ 1048576) (g c : Nat) (va vb : Value) (b : Bool) (hg : w.heap[g]? = some (.cells #[va, vb, .bool b] 78 (0, 0))) (h1 : va.oneCell' = true) (h2 : vb.oneCell' = true) (hB : B ≤ w.heap.size) (ty : TypeId) :
    ∃ v' w', (Builtin.append_ #[49, 49] ty #[v, .slice (some ⟨g, 0, none⟩) 1 c]).run Tryz.prog w = .ok v' w' ∧ w'.ownsRow B 78 3 v' (n + 1) (cells ++ [va, vb, .bool b]) ∧ Ext (fun j => v.ownBlock = some j) w w' ∧ (∀ k, v'.ownBlock = some k → v.ownBlock = some k ∨ w.heap.size ≤ k) := by
  obtain ⟨i0, hi, hz0, hz1, hz2⟩ := info_parts info_change
  obtain ⟨v', w', r1, r2, r3, r4⟩ := append_gen (P := Tryz.prog) w B 49 ty 78 i0 (.agg #[.slice none 0 0, .slice none 0 0, .bool false]) 3 56 und_changes hi hz0 hz1 hz2 rfl (by decide) v n cells hown ⟨g, 0, none⟩ 1 c [va, vb, .bool b] rfl (fun j u hu => by
    rw [Addr.add_lit, Nat.zero_add]
    exact box11 hg j u (by simpa using hu)) (fun u hu => by
      simp only [List.mem_cons, List.mem_nil_iff, or_false] at hu
      rcases hu with rfl | rfl | rfl
      · exact h1
      · exact h2
      · rfl) (by unfold maxLen; omega) (by omega) hB
  exact ⟨v', w', r1, r2, r3.ext.mono fun k _ ⟨_, _, h, _⟩ => h, r4⟩
theorem owns_unique {w : World} {B e sz n : Nat} {v : Value} {xs ys : List Value} (h : w.ownsRow B e sz v n xs) (k : w.ownsRow B e sz v n ys) : xs = ys := by
  have h1 := h.1
  have k1 := k.1
  rcases h.2 with ⟨rfl, rfl⟩ | ⟨g, cap, cur, rfl, -, hg, -, -, -, ht⟩
  · rw [Nat.zero_mul] at h1 k1
    rw [List.eq_nil_of_length_eq_zero h1, List.eq_nil_of_length_eq_zero k1]
  · rcases k.2 with ⟨hv, -⟩ | ⟨g', cap', cur', hv, -, kg, -, -, -, kt⟩
    · cases hv
    · injection hv with hv _ _
      injection hv with hv
      injection hv with hv
      subst hv
      rw [hg] at kg
      injection kg with kg
      injection kg with kg
      subst kg
      rw [← ht, ← kt]
/-- one more change is appended -/
theorem LstAt.app {w : World} {B r : Nat} {v : Value} {cs : List Chg} (h : LstAt w B r v cs) (hn : cs.length ≤ 1000) (c : Chg) (va vb : Value) (hk : Src w va (u8s c.key)) (hv : Src w vb (u8s c.value)) (hfar : ∀ i, va.ownBlock = some i ∨ vb.ownBlock = some i → B ≤ i ∧ i < w.heap.size ∧ i ≠ r ∧ v.ownBlock ≠ some i)
    (hr : r < w.heap.size) (hB : B ≤ w.heap.size) (g cc : Nat) (hg : w.heap[g]? = some (.cells #[va, vb, .bool c.gone] 78 (0, 0))) (ty : TypeId) :
    ∃ v' w', (Builtin.append_ #[49, 49] ty #[v, .slice (some ⟨g, 0, none⟩) 1 cc]).run Tryz.prog w = .ok v' w' ∧ LstAt w' B r v' (cs ++ [c]) ∧ Ext (fun j => v.ownBlock = some j) w w' ∧ (∀ k, v'.ownBlock = some k → v.ownBlock = some k ∨ w.heap.size ≤ k) ∧ ∃ a cap, v' = .slice a (cs.length + 1) cap := by
  obtain ⟨cells, h1, h2⟩ := h.row
  have e1 : va.oneCell' = true := by obtain ⟨a, c, rfl, -⟩ := hk.shape; rfl
  have e2 : vb.oneCell' = true := by obtain ⟨a, c, rfl, -⟩ := hv.shape; rfl
  obtain ⟨v', w', r1, r2, r3, r4⟩ := app_chg w B v cs.length cells h1 (by omega) g cc va vb c.gone hg e1 e2 hB ty
  obtain ⟨a, cap, hsh, -⟩ := owns_shape r2
  exact ⟨v', w', r1, h.push c va vb hk hv hfar hr r3 r4 fun cells' h' => by rw [owns_unique h' h1]; exact r2, r3, r4, a, cap, hsh⟩
theorem recB_split {cs : List Chg} {i : Nat} {c : Chg} (h : cs[i]? = some c) : ∃ rest, (recB cs).drop (recPre cs i).length = chgB c ++ rest := by
  refine ⟨(cs.drop (i + 1)).flatMap chgB, ?_⟩
  obtain ⟨hi, hc⟩ := List.getElem?_eq_some_iff.1 h
  have e1 : recB cs = recPre cs i ++ (chgB c ++ (cs.drop (i + 1)).flatMap chgB) := by
    unfold recB recPre
    have e2 : cs.flatMap chgB = (cs.take i).flatMap chgB ++ (chgB c ++ (cs.drop (i + 1)).flatMap chgB) := by
      conv => lhs; rw [← List.take_append_drop i cs, List.drop_eq_getElem_cons hi, hc, List.flatMap_append, List.flatMap_cons]
    rw [e2]
    simp only [List.append_assoc]
  rw [e1, List.drop_left]
theorem RdAt.other {w w' : World} {S : Nat → Prop} {r : Nat} {v : Value} {bs : List Int} {at' : Nat} (h : RdAt w r v bs at') (hX : Ext S w w') (hr : ¬ S r) (hv : ∀ k, v.ownBlock = some k → ¬ S k) : RdAt w' r v bs at' :=
  ⟨hX.heap h.head hr, h.src.ext hX hv, h.ne, h.bytes, h.le, h.lim⟩
set_option maxHeartbeats 4000000 in
set_option maxRecDepth 100000 in
theorem batch_any (v : Value) (cs : List Chg) (w : World) (hv : Src w v (u8s (recB cs))) (h0 : cs ≠ []) (hn : cs.length ≤ 80) (hg : ∀ c ∈ cs, c.good = true ∧ isBytes c.key ∧ isBytes c.value ∧ c.value.length ≤ 1024) :
    Calls Tryz.prog 96 #[v] w fun e w' => ∃ u, e = .returned u ∧ BatchAt w' (fun j => j < w.heap.size) u (cs.map Chg.norm) ∧ Below w.heap.size w w' := by
  have hgl : ∀ c ∈ cs, c.key.length ≤ 64 ∧ c.value.length ≤ 1024 := fun c hc => by
    have h := (hg c hc).1
    unfold Chg.good at h
    simp only [Bool.and_eq_true, decide_eq_true_eq] at h
    exact ⟨h.1.2, (hg c hc).2.2.2⟩
  have hbb := isBytes_rec hn hgl (fun c hc => (hg c hc).2)
  have hpre := recPre_length hgl (by omega)
  have hpall := recPre_all cs
  have hbl := hpre cs.length
  rw [hpall] at hbl
  have hN := rnew_any v (recB cs) w hv hbb (by omega)
  obtain ⟨bs, hbs⟩ : ∃ b, recB cs = b := ⟨_, rfl⟩
  have hsplit := fun i c (h : cs[i]? = some c) => recB_split h
  have hd1 : sdnv cs.length <+: bs.drop 1 := by rw [← hbs]; exact ⟨cs.flatMap chgB, rfl⟩
  have hp0 : (recPre cs 0).length = 1 + (sdnv cs.length).length := by simp [recPre]; omega
  have hl1 : 1 ≤ bs.length := by rw [← hbs]; unfold recB; simp
  rw [hbs] at hN hbl hpall hsplit hbb
  obtain ⟨n, hnn⟩ : ∃ n, cs.length = n := ⟨_, rfl⟩
  have hnpos : 0 < n := by rw [← hnn]; exact List.length_pos_iff.2 h0
  rw [hnn] at hn hd1 hp0 hbl hpall
  have Hbs := Lib.hid hbs
  have HN := Lib.hid hN
  have HNN := Lib.hid hnn
  have Hpre := Lib.hid hpre
  have Hsplit := Lib.hid hsplit
  have Hpall := Lib.hid hpall
  have Hp0 := Lib.hid hp0
  clear hv hN hnn hbs hpre hsplit hpall h0 hp0
  go_enter Tryz.func96, Tryz.ntmps96
  go_wp2_with fail
  refine HN.out.mono ?_
  rintro e w1 ⟨r, u, rfl, hR1, hr1, hu1, hB1⟩
  have HTk := Lib.hid (rtake_ok r u bs 0 1 (by omega) w1 hR1)
  have hrl1 := block_lt_of_heap hR1.head
  have hult : ∀ j, u.ownBlock = some j → j < w1.heap.size := fun j hj => by
    rcases hR1.src with ⟨g, o, c, rfl, -, hc⟩ | ⟨-, e⟩
    · obtain rfl := Option.some.inj hj
      exact block_lt_of_cell (hc 0 _ (List.getElem?_eq_getElem (by rw [u8s_length]; omega)))
    · have := congrArg List.length e
      rw [u8s_length] at this
      simp at this
      rw [this] at hl1
      simp at hl1
  clear hR1 HN
  go_wp2_with fail
  refine HTk.out.mono ?_
  rintro e w2 ⟨u2, rfl, hown2, hR2, hX2⟩
  obtain ⟨ta, tc, rfl, -⟩ := owns_shape hown2
  have HNm := Lib.hid (rnumber_ok r u bs (0 + 1) n 80 hn (by decide) hd1 w2 hR2)
  clear hR2 HTk hown2
  go_wp2_with fail
  refine HNm.out.mono ?_
  rintro e w3 ⟨rfl, hR3, hX3⟩
  have HE3 := Lib.hid (rerr_ok r u bs _ w3 hR3)
  have HR3 := Lib.hid hR3
  clear hR3 HNm
  have hnz : (0 : Int) < (n : Int) := by omega
  go_wp2_with fail
  refine HE3.out.mono ?_
  rintro e w4 ⟨rfl, rfl⟩
  go_wp2_with fail
  refine (must_true w3).mono ?_
  rintro e w4 ⟨⟨t, rfl⟩, rfl⟩
  have hB3 : Below w.heap.size w w3 := (hB1.trans (Ext.to_belowAt hX2 hB1.size fun k hk e => by omega)).trans (Ext.to_belowAt hX3 (Nat.le_trans hB1.size hX2.size) fun k hk e => by omega)
  have hrl3 := block_lt_of_heap HR3.out.head
  have HL0 := Lib.hid (show LstAt w3 w.heap.size r (.slice none 0 0) [] from ⟨⟨[], ⟨rfl, .inl ⟨rfl, rfl⟩⟩, fun j c hc => (by cases hc)⟩, fun e => (by cases e)⟩)
  go_wp2_with fail
  go_loopw [5, 23] (fun vl vi wr => ∃ i : Nat, vi = .int .u64 i ∧ i ≤ n ∧ RdAt wr r u bs (recPre cs i).length ∧ LstAt wr w.heap.size r vl ((cs.take i).map Chg.norm) ∧ (∀ j, vl.ownBlock = some j → u.ownBlock ≠ some j) ∧ w1.heap.size ≤ wr.heap.size ∧ Below w.heap.size w wr) (fun _ vi _ => n - (intOf vi).toNat)
  case atStart =>
    refine ⟨0, rfl, Nat.zero_le _, ?_, HL0.out, fun j hj => (by cases hj), Nat.le_trans hX2.size hX3.size, hB3⟩
    have := HR3.out
    rwa [Nat.zero_add, ← Hp0.out] at this
  case round =>
    obtain ⟨i, rfl, hi, hRr, hLr, hul, hw1r, hBr⟩ := hrel
    by_cases hin : i < n
    · have hin' : (i : Int) < (n : Int) := by omega
      obtain ⟨c, hci⟩ : ∃ c, cs[i]? = some c := ⟨_, List.getElem?_eq_getElem (by rw [HNN.out]; exact hin)⟩
      obtain ⟨rest, hrest⟩ := Hsplit.out i c hci
      obtain ⟨hgd, hkb, hvb, hvl⟩ := hg c (List.mem_of_getElem? hci)
      obtain ⟨hkl, -⟩ := hgl c (List.mem_of_getElem? hci)
      have hsucc := recPre_succ hci
      obtain ⟨off, hoff⟩ : ∃ o, (recPre cs i).length = o := ⟨_, rfl⟩
      have hoff' : (recPre cs (i + 1)).length = off + (chgB c).length := by rw [hsucc, List.length_append, hoff]
      rw [hoff] at hrest hRr
      have hnorm : ((cs.take (i + 1)).map Chg.norm) = (cs.take i).map Chg.norm ++ [c.norm] := by rw [List.take_add_one, hci]; simp
      have hll : ((cs.take i).map Chg.norm).length = i := by rw [List.length_map, List.length_take, HNN.out]; omega
      have hlen : off + (chgB c).length ≤ bs.length := by
        have := congrArg List.length hrest
        rw [List.length_drop, List.length_append] at this
        have := hRr.le
        omega
      have HF := Lib.hid (And.intro hoff' (And.intro hnorm hll))
      have hrr := block_lt_of_heap hRr.head
      have hbr := hBr.size
      have HLr := Lib.hid hLr
      have hulr : ∀ j, u.ownBlock = some j → j ≠ r := fun j hj e => hRr.ne (e ▸ hj)
      have hcl1 : 1 ≤ (chgB c).length := by unfold chgB; split <;> simp
      have HTk := Lib.hid (rtake_ok r u bs off 1 (by omega) wr hRr)
      clear hoff' hnorm hll hLr hRr hci hsucc hoff
      rcases Bool.eq_false_or_eq_true c.gone with hgone | hgone
      · have hcb : chgB c = 0 :: lenB c.key := by unfold chgB; rw [if_pos hgone]
        have hnc : c.norm = ⟨c.key, [], true⟩ := by
          obtain ⟨ck, cv, cg⟩ := c
          simp only at hgone
          subst hgone
          rfl
        have hk1 : (bs.drop off).take 1 = [0] := by rw [hrest, hcb]; rfl
        have hk2 : sdnv c.key.length ++ c.key <+: bs.drop (off + 1) := by
          rw [← List.drop_drop, hrest, hcb]
          exact ⟨rest, rfl⟩
        rw [hk1] at HTk
        have hgl2 : (chgB c).length = 1 + (sdnv c.key.length).length + c.key.length := by rw [hcb]; unfold lenB; simp; omega
        have HG := Lib.hid (And.intro hgone (And.intro hnc hgl2))
        have hgd2 : (⟨c.key, [], true⟩ : Chg).good = true := by
          unfold Chg.good at hgd ⊢
          simp only [Bool.and_eq_true, decide_eq_true_eq] at hgd
          simp [hgd.1.1, hgd.1.2]
        clear hgone hnc hcb hk1 hgl2 hgd
        go_wp2_with fail
        refine HTk.out.mono ?_
        rintro e w4 ⟨ku, rfl, hownk, hR4, hX4⟩
        obtain ⟨ka, kc, rfl, -⟩ := owns_shape hownk
        have hksrc := Src.of_owns hownk
        have hkfr : ∀ j, (Value.slice ka 1 kc).ownBlock = some j → wr.heap.size ≤ j ∧ j < w4.heap.size := fun j hj => hownk.lt j hj
        have hs4 := hX4.size
        have HBy := Lib.hid (rbytes_ok r u bs (off + 1) 64 c.key hkl (by decide) hk2 w4 hR4)
        clear hR4 hownk HTk hk2
        go_wp2_with fail
        refine HBy.out.mono ?_
        rintro e w5 ⟨kv, rfl, hown5, hR5, hX5⟩
        obtain ⟨a5, c5, rfl, -⟩ := owns_shape hown5
        have hs5 := hX5.size
        have hk5 : Src w5 (.slice ka 1 kc) (u8s [0]) := src_ext hksrc hX5 fun j hj e => by have := (hkfr j hj).1; omega
        obtain ⟨gk, ok, ck, hke, -, hkc⟩ : ∃ g o c', Value.slice ka 1 kc = .slice (some ⟨g, o, none⟩) 1 c' ∧ 1 ≤ c' ∧ w5.cell? ⟨g, o + 0, none⟩ = some (.int .u8 0) := by
          rcases hk5 with ⟨g, o, c', e1, h2, h3⟩ | ⟨-, e2⟩
          · exact ⟨g, o, c', e1, h2, h3 0 _ rfl⟩
          · cases e2
        injection hke with e1 _ e2
        subst e1 e2
        rw [Nat.add_zero] at hkc
        have hgk := block_lt_of_cell hkc
        simp only at hgk
        have hb6 := below_box w5 (.cells #[.slice a5 c.key.length c5, .slice none 0 0, .bool false] 78)
        have hE6 := Lib.hid (rerr_ok r u bs _ _ (hR5.below hb6))
        have hkc6 := below_cell hb6 hkc
        have hb7 := below_box w5 (.cells #[.slice a5 c.key.length c5, .slice none 0 0, .bool true] 78)
        have g7 := World.alloc_heap_new w5 (.cells #[.slice a5 c.key.length c5, .slice none 0 0, .bool true] 78)
        have hE7 := Lib.hid (rerr_ok r u bs _ _ (hR5.below hb7))
        have HR7 := Lib.hid (hR5.below hb7)
        have hfk : ∀ j, (Value.slice a5 c.key.length c5).ownBlock = some j → w4.heap.size ≤ j ∧ j < w5.heap.size := fun j hj => hown5.lt j hj
        have HK7 := Lib.hid ((Src.of_owns hown5).below hb7)
        have hGd := good_any (.slice a5 c.key.length c5) (.slice none 0 0) ⟨c.key, [], true⟩ _ HK7.out (.inr ⟨rfl, rfl⟩)
        rw [hgd2] at hGd
        have HGd := Lib.hid hGd
        have HX := Lib.hid (And.intro hX4 (And.intro hX5 (And.intro hb7 g7)))
        have hrl5 := block_lt_of_heap hR5.head
        clear hGd hb6 hb7 g7 hR5 hown5 hksrc hk5 HBy hX4 hX5
        go_wp2_with fail
        refine hE6.out.mono ?_
        rintro e w6 ⟨rfl, rfl⟩
        go_wp2_with fail
        refine (must_true _).mono ?_
        rintro e w6 ⟨⟨t, rfl⟩, rfl⟩
        go_wp2_with fail
        refine hE7.out.mono ?_
        rintro e w6 ⟨rfl, rfl⟩
        go_wp2_with fail
        refine HGd.out.mono ?_
        rintro e w7 ⟨rfl, hB7⟩
        go_wp2_with fail
        refine (must_true _).mono ?_
        rintro e w8 ⟨⟨t, rfl⟩, rfl⟩
        have k70 := below_cell hB7 (box11 HX.out.2.2.2 0 _ rfl)
        have k71 := below_cell hB7 (box11 HX.out.2.2.2 1 _ rfl)
        have k72 := below_cell hB7 (box11 HX.out.2.2.2 2 _ rfl)
        have hb8 := below_box w7 (.cells #[.slice a5 c.key.length c5, .slice none 0 0, .bool true] 78)
        have g8 := World.alloc_heap_new w7 (.cells #[.slice a5 c.key.length c5, .slice none 0 0, .bool true] 78)
        have hB58 := (HX.out.2.2.1.trans (hB7.mono HX.out.2.2.1.size)).trans (hb8.mono (Nat.le_trans HX.out.2.2.1.size hB7.size))
        have hXall := (HX.out.1.trans HX.out.2.1 fun _ _ h => h).trans (Ext.of_below (S := (· = r)) hB58) fun _ _ h => h
        have hL8 := HLr.out.ext hXall
        have hltl : ∀ j, u5.ownBlock = some j → j < wr.heap.size := fun j hj => by obtain ⟨cells, h1, -⟩ := HLr.out.row; exact owns_lt h1 hj
        have hshl : ∃ a cap, u5 = .slice a i cap := by
          obtain ⟨cells, h1, -⟩ := HLr.out.row
          rw [HF.out.2.2] at h1
          obtain ⟨a, cap, h, -⟩ := owns_shape h1
          exact ⟨a, cap, h⟩
        have hsz8 := hB58.size
        obtain ⟨v9, w9, ra9, hL9, hX9, hu9, va9, vc9, hv9⟩ := hL8.app (by rw [HF.out.2.2]; omega) ⟨c.key, [], true⟩ (.slice a5 c.key.length c5) (.slice none 0 0) (((HK7.out.below hB7).below hb8)) (.inr ⟨rfl, rfl⟩) (fun j hj => by
          rcases hj with hj | hj
          · have := hfk j hj
            exact ⟨by omega, by omega, by omega, fun e => by have := hltl j e; omega⟩
          · cases hj) (by omega) (by omega) w7.heap.size 1 g8 49
        rw [HF.out.2.2] at hv9
        subst hv9
        obtain ⟨la, lc, rfl⟩ := hshl
        have hRf := Lib.hid (HR7.out.below hB7 |>.below hb8)
        have HB7 := Lib.hid (And.intro hB7 (And.intro hb8 (And.intro hXall (And.intro hL9 (And.intro hX9 (And.intro hu9 hB58))))))
        have Hra := Lib.hid ra9
        clear hB7 hb8 g8 hB58 hXall hL8 hL9 hX9 ra9 hu9
        go_wp2_with (at_builtin; refine wpList_value rfl (exec_append (.tmp 59) (.tmp 61) 49 49 rfl Hra.out) ?_)
        have hne : (Value.slice la i lc).ownBlock ≠ some r := HLr.out.ne
        refine ⟨⟨i + 1, by simp, by omega, ?_, ?_, fun j hj e => ?_, ?_, ?_⟩, ?_⟩
        · rw [HF.out.1, HG.out.2.2, show off + (1 + (sdnv c.key.length).length + c.key.length) = off + 1 + (sdnv c.key.length).length + c.key.length by omega]
          exact hRf.out.other HB7.out.2.2.2.2.1 hne fun k hk e => hul k e hk
        · rw [HF.out.2.1, HG.out.2.1]
          exact HB7.out.2.2.2.1
        · rcases HB7.out.2.2.2.2.2.1 j hj with e2 | e2
          · exact hul j e2 e
          · have := hult j e; omega
        · have := HB7.out.2.2.2.2.1.size; omega
        · exact (hBr.trans (Ext.to_belowAt HB7.out.2.2.1 hbr fun k hk e => by omega)).trans (Ext.to_belowAt HB7.out.2.2.2.2.1 (by omega) fun k hk e => by
            obtain ⟨cells, h1, -⟩ := HLr.out.row
            have := (h1.lt k e).1
            omega)
        · show n - ((i : Int) + 1).toNat < n - (i : Int).toNat
          omega
      · have hcb : chgB c = 1 :: (lenB c.key ++ lenB c.value) := by unfold chgB; rw [if_neg (by rw [hgone]; decide)]
        have hnc : c.norm = c := by unfold Chg.norm; rw [if_neg (by rw [hgone]; decide)]
        have hk1 : (bs.drop off).take 1 = [1] := by rw [hrest, hcb]; rfl
        have hd2 : bs.drop (off + 1) = lenB c.key ++ (lenB c.value ++ rest) := by
          rw [← List.drop_drop, hrest, hcb]
          simp
        have hk2 : sdnv c.key.length ++ c.key <+: bs.drop (off + 1) := by rw [hd2]; exact ⟨_, rfl⟩
        have hk3 : sdnv c.value.length ++ c.value <+: bs.drop (off + 1 + (sdnv c.key.length).length + c.key.length) := by
          have e : bs.drop (off + 1 + (sdnv c.key.length).length + c.key.length) = lenB c.value ++ rest := by
            rw [show off + 1 + (sdnv c.key.length).length + c.key.length = (off + 1) + (lenB c.key).length by unfold lenB; rw [List.length_append]; omega, ← List.drop_drop, hd2, List.drop_left]
          rw [e]
          exact ⟨_, rfl⟩
        rw [hk1] at HTk
        have hgl2 : (chgB c).length = 1 + ((sdnv c.key.length).length + c.key.length) + ((sdnv c.value.length).length + c.value.length) := by rw [hcb]; unfold lenB; simp; omega
        have HG := Lib.hid (And.intro hgone (And.intro hnc hgl2))
        clear hnc hcb hk1 hgl2 hd2 hgone
        go_wp2_with fail
        refine HTk.out.mono ?_
        rintro e w4 ⟨ku, rfl, hownk, hR4, hX4⟩
        obtain ⟨ka, kc, rfl, -⟩ := owns_shape hownk
        have hksrc := Src.of_owns hownk
        have hkfr : ∀ j, (Value.slice ka 1 kc).ownBlock = some j → wr.heap.size ≤ j ∧ j < w4.heap.size := fun j hj => hownk.lt j hj
        have hs4 := hX4.size
        have HBy := Lib.hid (rbytes_ok r u bs (off + 1) 64 c.key hkl (by decide) hk2 w4 hR4)
        clear hR4 hownk HTk hk2
        go_wp2_with fail
        refine HBy.out.mono ?_
        rintro e w5 ⟨kv, rfl, hown5, hR5, hX5⟩
        obtain ⟨a5, c5, rfl, -⟩ := owns_shape hown5
        have hs5 := hX5.size
        have hk5 : Src w5 (.slice ka 1 kc) (u8s [1]) := src_ext hksrc hX5 fun j hj e => by have := (hkfr j hj).1; omega
        obtain ⟨gk, ok, ck, hke, -, hkc⟩ : ∃ g o c', Value.slice ka 1 kc = .slice (some ⟨g, o, none⟩) 1 c' ∧ 1 ≤ c' ∧ w5.cell? ⟨g, o + 0, none⟩ = some (.int .u8 1) := by
          rcases hk5 with ⟨g, o, c', e1, h2, h3⟩ | ⟨-, e2⟩
          · exact ⟨g, o, c', e1, h2, h3 0 _ rfl⟩
          · cases e2
        injection hke with e1 _ e2
        subst e1 e2
        rw [Nat.add_zero] at hkc
        have hgk := block_lt_of_cell hkc
        simp only at hgk
        have hb6 := below_box w5 (.cells #[.slice a5 c.key.length c5, .slice none 0 0, .bool false] 78)
        have g6 := World.alloc_heap_new w5 (.cells #[.slice a5 c.key.length c5, .slice none 0 0, .bool false] 78)
        have hE6 := Lib.hid (rerr_ok r u bs _ _ (hR5.below hb6))
        have hkc6 := below_cell hb6 hkc
        have hfk : ∀ j, (Value.slice a5 c.key.length c5).ownBlock = some j → w4.heap.size ≤ j ∧ j < w5.heap.size := fun j hj => hown5.lt j hj
        have HK6 := Lib.hid ((Src.of_owns hown5).below hb6)
        have HBv := Lib.hid (rbytes_ok r u bs _ 1024 c.value hvl (by decide) hk3 _ (hR5.below hb6))
        have HX := Lib.hid (And.intro hX4 (And.intro hX5 (And.intro hb6 g6)))
        have hrl5 := block_lt_of_heap hR5.head
        have hsz6 : (w5.alloc (.cells #[.slice a5 c.key.length c5, .slice none 0 0, .bool false] 78)).heap.size = w5.heap.size + 1 := by simp
        clear hb6 g6 hR5 hown5 hksrc hk5 HBy hX4 hX5 hk3
        go_wp2_with fail
        refine hE6.out.mono ?_
        rintro e w6 ⟨rfl, rfl⟩
        go_wp2_with fail
        refine (must_true _).mono ?_
        rintro e w6 ⟨⟨t, rfl⟩, rfl⟩
        go_wp2_with fail
        refine HBv.out.mono ?_
        rintro e w7 ⟨vv, rfl, hown7, hR7, hX7⟩
        obtain ⟨a7, c7, rfl, -⟩ := owns_shape hown7
        have g7 : w7.heap[w5.heap.size]? = some (.cells #[.slice a5 c.key.length c5, .slice none 0 0, .bool false] 78 (0, 0)) := hX7.heap HX.out.2.2.2 (by omega)
        have hfv : ∀ j, (Value.slice a7 c.value.length c7).ownBlock = some j → w5.heap.size + 1 ≤ j ∧ j < w7.heap.size := fun j hj => by have := hown7.lt j hj; omega
        have k70 := box11 g7 0 (.slice a5 c.key.length c5) rfl
        have k71 := box11 g7 1 (.slice none 0 0) rfl
        have k72 := box11 g7 2 (.bool false) rfl
        have f7 : ∀ j, w7.frozen? ⟨w5.heap.size, j, none⟩ = false := fun j => by simp only [World.frozen?]; rw [g7]; simp
        have hX8 := Ext.setCell (S := (· = w5.heap.size)) (w := w7) (p := ⟨w5.heap.size, 1, none⟩) rfl (.slice a7 c.value.length c7)
        have hR8 := hR7.other hX8 (by omega) (fun k hk e => by have := hult k hk; omega)
        have g8 := heap_cell (j := 1) g7 (.slice a7 c.value.length c7)
        have HK8 := Lib.hid (src_ext (src_ext HK6.out hX7 fun j hj e => by have := hfk j hj; omega) hX8 fun j hj e => by have := hfk j hj; omega)
        have HV8 := Lib.hid (src_ext (Src.of_owns hown7) hX8 fun j hj e => by have := hfv j hj; omega)
        have hE8 := Lib.hid (rerr_ok r u bs _ _ hR8)
        have hcg : c.good = true := hgd
        have hGd := good_any (.slice a5 c.key.length c5) (.slice a7 c.value.length c7) c _ HK8.out HV8.out
        rw [hcg, HG.out.1] at hGd
        have HGd := Lib.hid hGd
        have HR8 := Lib.hid hR8
        have hsz7 := hX7.size
        have HY := Lib.hid (And.intro hX7 (And.intro hX8 g8))
        have hsz8 : (w7.setCell ⟨w5.heap.size, 1, none⟩ (.slice a7 c.value.length c7)).heap.size = w7.heap.size := by simp
        clear hGd g7 g8 hX7 hX8 hR7 hR8 hown7 hcg HBv
        go_wp2_with fail
        refine hE8.out.mono ?_
        rintro e w8 ⟨rfl, rfl⟩
        go_wp2_with fail
        refine HGd.out.mono ?_
        rintro e w9 ⟨rfl, hB9⟩
        go_wp2_with fail
        refine (must_true _).mono ?_
        rintro e w10 ⟨⟨t, rfl⟩, rfl⟩
        have hb10 := below_box w9 (.cells #[.slice a5 c.key.length c5, .slice a7 c.value.length c7, .bool false] 78)
        have g10 := World.alloc_heap_new w9 (.cells #[.slice a5 c.key.length c5, .slice a7 c.value.length c7, .bool false] 78)
        have g9 := below_heap hB9 HY.out.2.2
        have k90 := box11 g9 0 (.slice a5 c.key.length c5) rfl
        have k91 := box11 g9 1 (.slice a7 c.value.length c7) rfl
        have k92 := box11 g9 2 (.bool false) rfl
        have hBx := hB9.trans (hb10.mono hB9.size)
        have hX48 := ((HX.out.1.trans HX.out.2.1 fun _ _ h => h).trans (Ext.of_below (S := (· = r)) HX.out.2.2.1) fun _ _ h => h).trans HY.out.1 fun _ _ h => h
        have hX88 : Ext (· = r) wr (w7.setCell ⟨w5.heap.size, 1, none⟩ (.slice a7 c.value.length c7)) := hX48.trans HY.out.2.1 fun k hk e => by omega
        have hXall := hX88.trans (Ext.of_below (S := (· = r)) hBx) fun _ _ h => h
        have hL8 := HLr.out.ext hXall
        have hltl : ∀ j, u5.ownBlock = some j → j < wr.heap.size := fun j hj => by obtain ⟨cells, h1, -⟩ := HLr.out.row; exact owns_lt h1 hj
        have hshl : ∃ a cap, u5 = .slice a i cap := by
          obtain ⟨cells, h1, -⟩ := HLr.out.row
          rw [HF.out.2.2] at h1
          obtain ⟨a, cap, h, -⟩ := owns_shape h1
          exact ⟨a, cap, h⟩
        have hszx := hBx.size
        obtain ⟨v9, w11, ra9, hL9, hX9, hu9, va9, vc9, hv9⟩ := hL8.app (by rw [HF.out.2.2]; omega) c (.slice a5 c.key.length c5) (.slice a7 c.value.length c7) (HK8.out.below hBx) (HV8.out.below hBx) (fun j hj => by
          rcases hj with hj | hj
          · have := hfk j hj
            exact ⟨by omega, by omega, by omega, fun e => by have := hltl j e; omega⟩
          · have := hfv j hj
            exact ⟨by omega, by omega, by omega, fun e => by have := hltl j e; omega⟩) (by omega) (by omega) w9.heap.size 1 (by rw [HG.out.1]; exact g10) 49
        rw [HF.out.2.2] at hv9
        subst hv9
        obtain ⟨la, lc, rfl⟩ := hshl
        have hRf := Lib.hid (HR8.out.below hBx)
        have HB7 := Lib.hid (And.intro hXall (And.intro hL9 (And.intro hX9 (And.intro hu9 hBx))))
        have Hra := Lib.hid ra9
        have HG2 := Lib.hid HG.out
        clear hB9 hb10 g10 g9 hBx hX48 hX88 hXall hL8 hL9 hX9 ra9 hu9
        go_wp2_with (at_builtin; refine wpList_value rfl (exec_append (.tmp 59) (.tmp 61) 49 49 rfl Hra.out) ?_)
        have hne : (Value.slice la i lc).ownBlock ≠ some r := HLr.out.ne
        refine ⟨⟨i + 1, by simp, by omega, ?_, ?_, fun j hj e => ?_, ?_, ?_⟩, ?_⟩
        · rw [HF.out.1, HG2.out.2.2, show off + (1 + ((sdnv c.key.length).length + c.key.length) + ((sdnv c.value.length).length + c.value.length)) = off + 1 + (sdnv c.key.length).length + c.key.length + (sdnv c.value.length).length + c.value.length by omega]
          exact hRf.out.other HB7.out.2.2.1 hne fun k hk e => hul k e hk
        · rw [HF.out.2.1, HG2.out.2.1]
          exact HB7.out.2.1
        · rcases HB7.out.2.2.2.1 j hj with e2 | e2
          · exact hul j e2 e
          · have := hult j e; omega
        · have := HB7.out.2.2.1.size; omega
        · exact (hBr.trans (Ext.to_belowAt HB7.out.1 hbr fun k hk e => by omega)).trans (Ext.to_belowAt HB7.out.2.2.1 (by omega) fun k hk e => by
            obtain ⟨cells, h1, -⟩ := HLr.out.row
            have := (h1.lt k e).1
            omega)
        · show n - ((i : Int) + 1).toNat < n - (i : Int).toNat
          omega
    · obtain rfl : i = n := by omega
      have hin' : ¬ (i : Int) < (i : Int) := by omega
      rw [Hpall.out] at hRr
      have HEnd := Lib.hid (rend_ok r u bs wr hRr)
      have HLr := Lib.hid hLr
      clear hRr hLr
      go_wp2_with fail
      refine HEnd.out.mono ?_
      rintro e w8 ⟨rfl, hB8⟩
      go_wp2_with fail
      refine (must_true w8).mono ?_
      rintro e w9 ⟨⟨t, rfl⟩, rfl⟩
      go_wp2_with fail
      go_ret
      have hL := HLr.out.below hB8
      rw [List.take_of_length_le (by rw [HNN.out]; exact Nat.le_refl _)] at hL
      exact ⟨_, rfl, hL.batch _ fun j hj => hj, hBr.trans (hB8.mono hBr.size)⟩
end Go.Proofs.YtbjofbhhnmehgaaGreatDoor.TT
namespace Go.Proofs.YtbjofbhhnmehgaaGreatDoor.TT
open Go.RowKit Go.RG Go.Hp Go.Proofs.YtbjofbhhnmehgaaGreatDoor


/-- records that a slice of slices holds; F: what may be written meanwhile -/
def RecsAt (w : World) (F : Nat → Prop) (v : Value) (recs : List (List Int)) : Prop := ∃ a cap, v = .slice a recs.length cap ∧ ∀ i rec, recs[i]? = some rec →
  ∃ g o u, a = some ⟨g, o, none⟩ ∧ w.cell? ⟨g, o + i, none⟩ = some u ∧ Src w u (u8s rec) ∧ ¬ F g ∧ ∀ j, u.ownBlock = some j → j < w.heap.size ∧ ¬ F j
theorem RecsAt.ext {w w' : World} {F S : Nat → Prop} {v : Value} {recs : List (List Int)} (h : RecsAt w F v recs) (hX : Ext S w w') (hS : ∀ j, S j → F j) : RecsAt w' F v recs := by
  obtain ⟨a, cap, rfl, h⟩ := h
  refine ⟨a, cap, rfl, fun i rec hr => ?_⟩
  obtain ⟨g, o, u, rfl, h1, h2, h3, h4⟩ := h i rec hr
  exact ⟨g, o, u, rfl, hX.cell_some h1 fun e => h3 (hS _ e), src_ext h2 hX fun j hj e => (h4 j hj).2 (hS _ e), h3, fun j hj => ⟨Nat.lt_of_lt_of_le (h4 j hj).1 hX.size, (h4 j hj).2⟩⟩
theorem RecsAt.below {w w' : World} {F : Nat → Prop} {v : Value} {recs : List (List Int)} (h : RecsAt w F v recs) (hb : Below w.heap.size w w') : RecsAt w' F v recs :=
  h.ext (S := fun _ => False) (Ext.of_below hb) fun _ e => e.elim
theorem RecsAt.shape {w : World} {F : Nat → Prop} {v : Value} {recs : List (List Int)} (h : RecsAt w F v recs) : ∃ a cap, v = .slice a recs.length cap := by
  obtain ⟨a, cap, rfl, -⟩ := h
  exact ⟨a, cap, rfl⟩
/-- part i of a text, without its head -/
def pieceT (bs : List Int) (i : Nat) : List Int := (bs.drop (i * 8112)).take 8112
theorem partB_split (bs : List Int) (i : Nat) : partB bs i = headB i (partsN bs.length) ++ pieceT bs i := rfl
theorem pieceT_take (bs : List Int) (i : Nat) : bs.take (i * 8112) ++ pieceT bs i = bs.take ((i + 1) * 8112) := by
  unfold pieceT
  rw [show (i + 1) * 8112 = i * 8112 + 8112 by omega, List.take_add]
theorem take_all (bs : List Int) : bs.take (partsN bs.length * 8112) = bs := by
  apply List.take_of_length_le
  unfold partsN
  omega
/-- the records of a checkpoint -/
def ckRecs (bs : List Int) : List (List Int) := (List.range (partsN bs.length)).map (partB bs)
theorem ckRecs_length (bs : List Int) : (ckRecs bs).length = partsN bs.length := by simp [ckRecs]
theorem ckRecs_get {bs : List Int} {i : Nat} (h : i < partsN bs.length) : (ckRecs bs)[i]? = some (partB bs i) := by simp [ckRecs, h]
theorem partsN_pos (n : Nat) : 1 ≤ partsN n := by unfold partsN; omega
/-- where pair j begins in a text -/
theorem textB_drop {ps : List Pr} {j : Nat} {p : Pr} (h : ps[j]? = some p) : (textB ps).drop (textB (ps.take j)).length = pairB p ++ textB (ps.drop (j + 1)) := by
  obtain ⟨hj, hp⟩ := List.getElem?_eq_some_iff.1 h
  have e : textB ps = textB (ps.take j) ++ (pairB p ++ textB (ps.drop (j + 1))) := by
    conv => lhs; rw [← List.take_append_drop j ps, List.drop_eq_getElem_cons hj, hp, textB_append]
    rfl
  conv => lhs; rw [e]
  rw [List.drop_left]
/-- pairs that come in order, one by one -/
theorem put_last {ps : List Pr} {p : Pr} (hr : KRising (keysP (ps ++ [p]))) : putP ps p.1 p.2 = ps ++ [p] := by
  have hall : ∀ k ∈ keysP ps, klt k p.1 = true := by
    have : keysP (ps ++ [p]) = keysP ps ++ [p.1] := by simp [keysP]
    rw [this] at hr
    intro k hk
    exact (List.pairwise_append.1 hr).2.2 k hk p.1 (List.mem_singleton.2 rfl)
  have hno : p.1 ∉ keysP ps := fun h => by
    have := hall _ h
    rw [klt_irrefl] at this
    cases this
  have hpos : posK (keysP ps) p.1 = (keysP ps).length := posK_unique (Nat.le_refl _) (fun q n hq hn => hall n (List.mem_of_getElem? hn)) (fun q n hq hn => by rw [List.getElem?_eq_none hq] at hn; cases hn)
  unfold putP
  rw [if_neg hno, hpos, keysP_length, List.take_length, List.drop_length]
end Go.Proofs.YtbjofbhhnmehgaaGreatDoor.TT
namespace Go.Proofs.YtbjofbhhnmehgaaGreatDoor.TT
open Go.RowKit Go.RG Go.Hp Go.Proofs.YtbjofbhhnmehgaaGreatDoor


theorem RdAt.ext {w w' : World} {r : Nat} {v : Value} {bs : List Int} {at' : Nat} {S : Nat → Prop} (h : RdAt w r v bs at') (hX : Ext S w w') (hr : ¬ S r) (hv : ∀ k, v.ownBlock = some k → ¬ S k) : RdAt w' r v bs at' :=
  ⟨(hX.block r (block_lt_of_heap h.head) hr).trans h.head, Src.ext h.src hX hv, h.ne, h.bytes, h.le, h.lim⟩
theorem ChgAt.below {w w' : World} {q : TBk} {c : Chg} {va vb : Value} (h : ChgAt w q c va vb) (hb : Below w.heap.size w w') : ChgAt w' q c va vb :=
  ⟨h.key.below hb, h.value.below hb, h.far, h.kb, h.vb', h.kl, h.vl⟩
set_option maxHeartbeats 4000000 in
set_option maxRecDepth 100000 in
theorem load_any (d l : Nat) (q : TBk) (T : TblS) (v : Value) (bs : List Int) (more : List (List Int)) (ps : List Pr) (w : World) (h : TblAt w d l q T) (hT : T.ps = [] ∧ T.live = 0) (hv : RecsAt w q.all v (ckRecs bs ++ more)) (hbs : bs = textB ps) (hr : KRising (keysP ps))
    (hg : ∀ p ∈ ps, isBytes p.1 ∧ isBytes p.2 ∧ 0 < p.1.length ∧ p.1.length ≤ 64 ∧ p.2.length ≤ 1024) (hsum : liveN ps ≤ 1000000000) (hm : more.length ≤ 1000000) :
    Calls Tryz.prog 100 #[.pointer (some ⟨q.t, 0, none⟩), v] w fun e w' => e = .returned (.int .i64 (partsN bs.length)) ∧ TPost w d l q { T with ps := ps, live := liveN ps } (keysP ps) w' := by
  have hbl : bs.length = liveN ps := by rw [hbs, textB_length]
  have hkp := partsN_le bs.length
  have hk1 := partsN_pos bs.length
  obtain ⟨a, cap, rfl, hel⟩ := hv
  obtain ⟨K, hK⟩ : ∃ K, partsN bs.length = K := ⟨_, rfl⟩
  rw [hK] at hkp hk1 ⊢
  have hlen : (ckRecs bs ++ more).length = K + more.length := by rw [List.length_append, ckRecs_length, hK]
  obtain ⟨m, hmm⟩ : ∃ m, (ckRecs bs ++ more).length = m := ⟨_, rfl⟩
  rw [hmm] at hlen ⊢
  have hget : ∀ i, i < K → (ckRecs bs ++ more)[i]? = some (partB bs i) := fun i hi => by
    rw [List.getElem?_append_left (by rw [ckRecs_length, hK]; exact hi)]
    exact ckRecs_get (by rw [hK]; exact hi)
  have hrec : ∀ i, i < K → ∃ g o u, a = some ⟨g, o, none⟩ ∧ w.cell? ⟨g, o + i, none⟩ = some u ∧ Src w u (u8s (partB bs i)) ∧ ¬ q.all g ∧ ∀ j, u.ownBlock = some j → j < w.heap.size ∧ ¬ q.all j := fun i hi => hel i _ (hget i hi)
  obtain ⟨g, o, u0, rfl, k0, hs0, hg0, hu0⟩ := hrec 0 (by omega)
  have hp0 := partB_len bs 0 (by omega) (by omega)
  have hpb : partB bs 0 = 2 :: (sdnv 0 ++ sdnv K ++ pieceT bs 0) := by rw [partB_split, hK]; simp [headB]
  rw [Nat.add_zero] at k0
  obtain ⟨g0, o0, c0, rfl, hc0, hcell0⟩ : ∃ g o c, u0 = .slice (some ⟨g, o, none⟩) (partB bs 0).length c ∧ (partB bs 0).length ≤ c ∧ ∀ j u, (u8s (partB bs 0))[j]? = some u → w.cell? ⟨g, o + j, none⟩ = some u := by
    rcases hs0 with ⟨g, o, c, e, h1, h2⟩ | ⟨-, e⟩
    · rw [u8s_length] at e h1
      exact ⟨g, o, c, e, h1, h2⟩
    · exfalso
      have := hp0.1
      rw [← u8s_length, e] at this
      simp at this
  have hb0 : w.cell? ⟨g0, o0, none⟩ = some (.int .u8 2) := by
    have := hcell0 0 (.int .u8 2) (by rw [hpb]; rfl)
    rwa [Nat.add_zero] at this
  obtain ⟨n0, hn0⟩ : ∃ n, (partB bs 0).length = n := ⟨_, rfl⟩
  rw [hn0] at hp0 k0 hc0
  have HREC := Lib.hid hrec
  have HT := Lib.hid h
  have HH := Lib.hid (And.intro hT (And.intro hbs (And.intro hr (And.intro hg (And.intro hbl (And.intro hK hpb))))))
  have HC0 := Lib.hid hcell0
  have hm0 : (0 : Int) < (m : Int) := by omega
  have hbl2 : bs.length ≤ 1000000000 := by omega
  have hn01 : (0 : Int) < (n0 : Int) := by omega
  have hsd : 1 ≤ (sdnv K).length := by obtain ⟨z, h1, -⟩ := sdnv_spec K; omega
  have hn3 : 2 ≤ n0 := by
    rw [← hn0, hpb]
    simp only [List.length_cons, List.length_append]
    omega
  have hc1 : ¬ c0 = 1 := by omega
  have htl : Src w (.slice (some ⟨g0, o0 + 1, none⟩) (n0 - 1) (c0 - 1)) (u8s ((partB bs 0).drop 1)) := by
    refine .inl ⟨g0, o0 + 1, c0 - 1, by rw [u8s_length, List.length_drop, hn0], by rw [u8s_length, List.length_drop, hn0]; omega, fun j u hu => ?_⟩
    rw [show o0 + 1 + j = o0 + (1 + j) by omega]
    refine hcell0 (1 + j) u ?_
    rw [u8s_drop, List.getElem?_drop] at hu
    exact hu
  have hbb : isBytes bs := by rw [hbs]; exact isBytes_text fun p hp => ⟨(hg p hp).1, (hg p hp).2.1, (hg p hp).2.2.2.1, (hg p hp).2.2.2.2⟩
  have hNW := rnew_any _ ((partB bs 0).drop 1) w htl ((isBytes_part hbb 0 (by omega) (by omega)).drop 1) (by rw [List.length_drop, hn0]; omega)
  have hd0 : (partB bs 0).drop 1 = sdnv 0 ++ (sdnv K ++ pieceT bs 0) := by rw [hpb]; simp
  have HNW := Lib.hid hNW
  have HD0 := Lib.hid hd0
  have HBB := Lib.hid hbb
  have hK1 : (0 : Int) < (K : Int) := by omega
  have hKm : K ≤ m := by omega
  have hmb : m ≤ 2000000 := by omega
  clear hNW hd0 htl hsd hbb
  clear h hT hbs hr hg hbl hK hrec hel hget hs0 hcell0 hpb hlen
  go_enter Tryz.func100, Tryz.ntmps100
  go_wp2_with fail
  refine (must_true _).mono ?_
  rintro e w1 ⟨⟨t, rfl⟩, rfl⟩
  go_wp2_with fail
  refine HNW.out.mono ?_
  rintro e w2 ⟨r, u, rfl, hR, hr1, hu1, hB⟩
  have HN0 := Lib.hid (rnumber_ok r u _ 0 0 0 (Nat.le_refl _) (by decide) (by rw [List.drop_zero, HD0.out]; exact List.prefix_append _ _) w2 hR)
  clear HNW hR
  go_wp2_with fail
  refine HN0.out.mono ?_
  rintro e w3 ⟨rfl, hR3, hX3⟩
  have HNK := Lib.hid (rnumber_ok r u _ (0 + (sdnv 0).length) K m hKm (by omega) (by rw [Nat.zero_add, HD0.out, List.drop_left]; exact List.prefix_append _ _) w3 hR3)
  clear HN0 hR3
  go_wp2_with fail
  refine HNK.out.mono ?_
  rintro e w4 ⟨rfl, hR4, hX4⟩
  have HER := Lib.hid (rerr_ok r u _ _ w4 hR4)
  clear HNK hR4
  go_wp2_with fail
  refine HER.out.mono ?_
  rintro e w5 ⟨rfl, rfl⟩
  go_wp2_with fail
  rw [show decide (0 < K) = true from decide_eq_true (by omega)]
  refine (must_true _).mono ?_
  rintro e w5 ⟨⟨t2, rfl⟩, rfl⟩
  have hB4 : Below w.heap.size w w4 := (hB.trans (Ext.to_belowAt hX3 hB.size fun k hk e => by omega)).trans (Ext.to_belowAt hX4 (Nat.le_trans hB.size hX3.size) fun k hk e => by omega)
  clear hB hX3 hX4 HER
  go_wp2_with fail
  go_loopw [7, 54] (fun vb vi wr => ∃ i : Nat, vi = .int .i64 i ∧ i ≤ K ∧ wr.ownsRow w.heap.size 5 1 vb (bs.take (i * 8112)).length (u8s (bs.take (i * 8112))) ∧ Below w.heap.size w wr) (fun _ vi _ => K - (intOf vi).toNat)
  case atStart => exact ⟨0, rfl, Nat.zero_le _, World.ownsRow_nil _ _ _ _, hB4⟩
  case round =>
    obtain ⟨i, rfl, hi, hrow, hBr⟩ := hrel
    by_cases hik : i < K
    · have hik' : (i : Int) < (K : Int) := by omega
      -- [[A
      obtain ⟨g', o', ui, e1, ki, hsi, -, -⟩ := HREC.out i hik
      injection e1 with e1
      injection e1 with e1 e2 _
      subst e1 e2
      have hpi := partB_len bs i (by omega) (by omega)
      have hspl : partB bs i = headB i K ++ pieceT bs i := by rw [partB_split, HH.out.2.2.2.2.2.1]
      have hhl := headB_le i K (by omega) (by omega)
      obtain ⟨gi, oi, ci, rfl, hci, hcelli⟩ : ∃ g o c, ui = .slice (some ⟨g, o, none⟩) (partB bs i).length c ∧ (partB bs i).length ≤ c ∧ ∀ j u, (u8s (partB bs i))[j]? = some u → w.cell? ⟨g, o + j, none⟩ = some u := by
        rcases hsi with ⟨g, o, c, e, h1, h2⟩ | ⟨-, e⟩
        · rw [u8s_length] at e h1
          exact ⟨g, o, c, e, h1, h2⟩
        · exfalso
          have := hpi.1
          rw [← u8s_length, e] at this
          simp at this
      have hnl : (partB bs i).length = (headB i K).length + (pieceT bs i).length := by rw [hspl, List.length_append]
      obtain ⟨ni, hni⟩ : ∃ n, (partB bs i).length = n := ⟨_, rfl⟩
      obtain ⟨hl, hhl2⟩ : ∃ n, (headB i K).length = n := ⟨_, rfl⟩
      rw [hni, hhl2] at hnl
      rw [hni] at ki hci
      have HHD := Lib.hid (head_any i K (by omega) (by omega) wr)
      have ki' := below_cell hBr ki
      have Hrow := Lib.hid hrow
      have HCi := Lib.hid hcelli
      have HS := Lib.hid (And.intro hspl (And.intro hni hhl2))
      have hle : (hl : Int) ≤ (ni : Int) := by omega
      have Hnl := Lib.hid hnl
      clear hnl
      have hbs2 : (bs.take (i * 8112)).length ≤ 1000000000 := by rw [List.length_take]; omega
      have hpl : (pieceT bs i).length ≤ 8112 := by unfold pieceT; rw [List.length_take]; omega
      obtain ⟨tl, htl⟩ : ∃ n, (bs.take (i * 8112)).length = n := ⟨_, rfl⟩
      rw [htl] at hrow hbs2
      have Hrow := Lib.hid hrow
      have HTL := Lib.hid htl
      obtain ⟨wa, wc, rfl, -⟩ := owns_shape hrow
      clear htl
      clear hrow hcelli hspl hsi ki
      go_wp2_with fail
      refine HHD.out.mono ?_
      rintro e w5 ⟨hv, rfl, hownh, hB5⟩
      rw [HS.out.2.2] at hownh
      obtain ⟨ha, hc, rfl, -⟩ := owns_shape hownh
      have ki5 := below_cell hB5 ki'
      have HPF := Lib.hid (show ∀ W, Below w.heap.size w W → Src W (.slice (some ⟨gi, oi, none⟩) hl ci) (u8s (headB i K)) from fun W hW => .inl ⟨gi, oi, ci, by rw [u8s_length, HS.out.2.2], by rw [u8s_length, HS.out.2.2]; omega, fun j u hu => below_cell hW (HCi.out j u (by rw [HS.out.1, u8s_append, List.getElem?_append_left (List.getElem?_eq_some_iff.1 hu).1]; exact hu))⟩)
      have hBw5 := hBr.trans (hB5.mono hBr.size)
      have heq := equal_any _ _ (headB i K) (headB i K) w5 (HPF.out w5 hBw5) (Src.of_owns hownh) (by rw [HS.out.2.2]; omega)
      rw [show decide (headB i K = headB i K) = true from decide_eq_true rfl] at heq
      have HEQ := Lib.hid heq
      clear heq
      have hlci : ¬ ci < hl := by omega
      have hnl2 : hl ≤ ni := by omega
      clear hownh HHD
      go_wp2_with fail
      refine HEQ.out.mono ?_
      rintro e w6 ⟨rfl, hB6⟩
      have ki6 := below_cell hB6 ki5
      have hBw6 := hBw5.trans (hB6.mono hBw5.size)
      have HW6 := Lib.hid (owns_below (owns_below Hrow.out hB5) hB6)
      have hs6 := hBw6.size
      have HBW6 := Lib.hid hBw6
      have HPC := Lib.hid (show ∀ c', (ci = hl → c' = Value.slice (some ⟨gi, oi, none⟩) (ni - hl) 0) → (ci ≠ hl → c' = Value.slice (some ⟨gi, oi + hl, none⟩) (ni - hl) (ci - hl)) → Src w6 c' (u8s (pieceT bs i)) from fun c' h1 h2 => by
        have hnl := Hnl.out
        have hln : (u8s (pieceT bs i)).length = ni - hl := by rw [u8s_length]; omega
        by_cases hch : ci = hl
        · rw [h1 hch]
          refine .inl ⟨gi, oi, 0, by rw [hln], by omega, fun j u hu => ?_⟩
          have := (List.getElem?_eq_some_iff.1 hu).1
          omega
        · rw [h2 hch]
          refine .inl ⟨gi, oi + hl, ci - hl, by rw [hln], by omega, fun j u hu => ?_⟩
          rw [Nat.add_assoc]
          refine below_cell HBW6.out (HCi.out (hl + j) u ?_)
          rw [HS.out.1, u8s_append, List.getElem?_append_right (by rw [u8s_length, HS.out.2.2]; omega), u8s_length, HS.out.2.2, Nat.add_sub_cancel_left]
          exact hu)
      have hpl2 : (u8s (pieceT bs i)).length ≤ 8112 := by rw [u8s_length]; exact hpl
      clear hB6 hB5 hBw6 HEQ hBw5
      go_wp2_with fail
      refine (must_true _).mono ?_
      rintro e w7 ⟨⟨t3, rfl⟩, rfl⟩
      by_cases hch : ci = hl
      · have hsr := HPC.out _ (fun _ => rfl) (fun h => absurd hch h)
        have HSR := Lib.hid hsr
        clear hsr
        go_wp2_with (at_builtin; go_loud (refine own_append_src rfl _ _ rfl w.heap.size _ _ _ _ (u8s (pieceT bs i)) rfl HW6.out rfl HSR.out (u8s_one _) (by omega) hs6 ?_; intro v2 w2 hown2 hg2; have Hg2 := Lib.hid hg2; have Hown2 := Lib.hid hown2; clear hown2 hg2))
        refine ⟨⟨i + 1, by simp, by omega, ?_, HBW6.out.trans Hg2.out⟩, ?_⟩
        · have := Hown2.out
          rw [← u8s_append, pieceT_take, u8s_length, ← HTL.out, ← List.length_append, pieceT_take] at this
          exact this
        · show K - ((i : Int) + 1).toNat < K - (i : Int).toNat
          omega
      · have hsr := HPC.out _ (fun h => absurd h hch) (fun _ => rfl)
        have HSR := Lib.hid hsr
        clear hsr
        go_wp2_with (at_builtin; go_loud (refine own_append_src rfl _ _ rfl w.heap.size _ _ _ _ (u8s (pieceT bs i)) rfl HW6.out rfl HSR.out (u8s_one _) (by omega) hs6 ?_; intro v2 w2 hown2 hg2; have Hg2 := Lib.hid hg2; have Hown2 := Lib.hid hown2; clear hown2 hg2))
        refine ⟨⟨i + 1, by simp, by omega, ?_, HBW6.out.trans Hg2.out⟩, ?_⟩
        · have := Hown2.out
          rw [← u8s_append, pieceT_take, u8s_length, ← HTL.out, ← List.length_append, pieceT_take] at this
          exact this
        · show K - ((i : Int) + 1).toNat < K - (i : Int).toNat
          omega
      -- ]]A
    · obtain rfl : i = K := by omega
      have hik' : ¬ (i : Int) < (i : Int) := by omega
      have hall : bs.take (i * 8112) = bs := by have := take_all bs; rwa [HH.out.2.2.2.2.2.1] at this
      rw [hall] at hrow
      obtain ⟨n, hn⟩ : ∃ n, bs.length = n := ⟨_, rfl⟩
      have HP := Lib.hid fun w' => parts_any n (by omega) w'
      have hpk := HH.out.2.2.2.2.2.1
      rw [hn] at hpk hrow hbl2
      rw [hpk] at HP
      obtain ⟨wa, wc, rfl, -⟩ := owns_shape hrow
      have Hrow := Lib.hid hrow
      have Hn := Lib.hid hn
      clear hrow hall hn hpk
      go_wp2_with fail
      refine (HP.out _).mono ?_
      rintro e w5 ⟨rfl, rfl⟩
      go_wp2_with fail
      refine (must_true _).mono ?_
      rintro e w5 ⟨⟨t3, rfl⟩, rfl⟩
      go_wp2_with fail
      generalize wr = wA at *
      have hsw := hBr.size
      go_loopw [100] (fun vi wr => ∃ z : Nat, vi = .int .i64 z ∧ z ≤ i ∧ Below wA.heap.size wA wr) (fun vi _ => i - (intOf vi).toNat)
      case atStart => exact ⟨0, rfl, Nat.zero_le _, Below.refl _ _⟩
      case round =>
        obtain ⟨z, rfl, hz, hBz⟩ := hrel
        by_cases hzk : z < i
        · have hzk' : (z : Int) < (i : Int) := by omega
          -- [[B
          obtain ⟨g', o', ui, e1, ki, hsi, -, -⟩ := HREC.out z hzk
          injection e1 with e1
          injection e1 with e1 e2 _
          subst e1 e2
          have hBwz := hBr.trans (hBz.mono hsw)
          have ki' := below_cell hBwz ki
          have HSI := Lib.hid (hsi.below hBwz)
          obtain ⟨ua, uc, rfl, -⟩ := hsi.shape
          have hat : z * 8112 ≤ bs.length := parts_at (by rw [HH.out.2.2.2.2.2.1]; exact hzk)
          have hpr := fun W (hW : Below wA.heap.size wA W) => partRecord_any (.slice wa n wc) bs z hat (by have := Hn.out; omega) W ((Src.of_owns Hrow.out).below hW)
          have HPR := Lib.hid hpr
          have hpz := partB_len bs z (by omega) (by have := Hn.out; omega)
          clear hpr hat ki hsi
          go_wp2_with fail
          refine wp_region_rg_tail 7 (fun j => if j = 6 then some (fun v w' => w'.ownsRow wr.heap.size 5 1 v (partB bs z).length (u8s (partB bs z))) else none) fol (by kernel_rfl) (fun W hW hh => ?_)
          clear hh
          simp only [List.take_succ_cons, List.take_zero, List.drop_succ_cons, List.drop_zero]
          have hsz := hW.size
          have r3 := rcell hW ki'
          repeat ((first | refine lex_move _ (by first | exact Or.inl rfl | exact Or.inr rfl) rfl rfl ?_ | (refine lex_float ?_ rfl rfl (fun w1 hb1 hf1 => ?_) ?_; rotate_left; (go_simp; (try simp (disch := omega) only [IntWalk.i64_quo, IntWalk.rem_in, IntWalk.i64_in, IntWalk.u64_in, IntWalk.u32_in, IntWalk.u8_in, IntWalk.toNatUp, IntWalk.iteOmega]); (try go_simp); rfl)) | refine lex_skip rfl ?_); simp only [Act.put, Act.eval, Array.getD_eq_getD_getElem?, List.getElem?_toArray, List.getElem?_cons_zero, List.getElem?_cons_succ, Option.getD_some, List.setIfInBounds_toArray, List.set_cons_succ, List.set_cons_zero])
          refine lex_make _ rfl (by exact fun _ _ _ h hb => owns_below h hb) rfl (fun w1 hb1 hf1 => ?_) ?_
          · have hb1' := hb1
            (unfold makes; go_simp; simp only [makesUpon])
            refine (HPR.out _ (hBz.trans ((hW.mono hBz.size).trans (hb1'.mono (Nat.le_trans hBz.size hsz))))).mono ?_
            rintro e w' ⟨u, rfl, hown, hB⟩
            exact ⟨u, rfl, hB, owns_base hown fun j hj => Nat.le_trans (Nat.le_trans hsz hb1'.size) (hown.lt j hj).1⟩
          rintro v6 W6 hB6 hown6
          simp only [Act.put, Act.eval, Array.getD_eq_getD_getElem?, List.getElem?_toArray, List.getElem?_cons_zero, List.getElem?_cons_succ, Option.getD_some, List.setIfInBounds_toArray, List.set_cons_succ, List.set_cons_zero]
          refine lex_nil ?_
          have hBW := below_trans hW hB6
          have heq := equal_any _ _ (partB bs z) (partB bs z) W6 (HSI.out.below hBW) (Src.of_owns hown6) (by omega)
          rw [show decide (partB bs z = partB bs z) = true from decide_eq_true rfl] at heq
          have HEQ := Lib.hid heq
          obtain ⟨xa, xc, rfl, -⟩ := owns_shape hown6
          clear heq hown6 r3
          go_wp2_with fail
          refine HEQ.out.mono ?_
          rintro e w8 ⟨rfl, hB8⟩
          go_wp2_with fail
          refine (must_true _).mono ?_
          rintro e w9 ⟨⟨t4, rfl⟩, rfl⟩
          go_wp2_with fail
          refine ⟨⟨z + 1, by simp, by omega, below_trans hBz (below_trans hBW hB8)⟩, ?_⟩
          show i - ((z : Int) + 1).toNat < i - (z : Int).toNat
          omega
          -- ]]B
        · obtain rfl : z = i := by omega
          have hzk' : ¬ (z : Int) < (z : Int) := by omega
          have hBz2 := hBr.trans (hBz.mono hsw)
          have hnw := rnew_any (.slice wa n wc) bs wr ((Src.of_owns Hrow.out).below hBz) HBB.out (by have := Hn.out; omega)
          have HNW := Lib.hid hnw
          clear hnw
          go_wp2_with fail
          refine HNW.out.mono ?_
          rintro e w8 ⟨r2, u2, rfl, hR2, hr2, hu2, hB8⟩
          have hB88 := hBz2.trans (hB8.mono hBz2.size)
          have HR2 := Lib.hid hR2
          have HT8 := Lib.hid (HT.out.below hB88)
          clear hR2 HNW
          go_wp2_with fail
          go_loopw [] (fun wy => ∃ (j : Nat) (q' : TBk), j ≤ ps.length ∧ q'.t = q.t ∧ q'.m = q.m ∧ (∀ i, q'.all i → q.all i ∨ w8.heap.size ≤ i) ∧ Ext (fun i => q.all i ∨ i = r2) w8 wy ∧ TblAt wy d l q' { T with ps := ps.take j, live := liveN (ps.take j) } ∧ RdAt wy r2 u2 bs (textB (ps.take j)).length) (fun wy => match wy.cell? ⟨r2, 1, none⟩ with | some (.int _ z) => bs.length - z.toNat | _ => 0)
          case atStart =>
            refine ⟨0, q, Nat.zero_le _, rfl, rfl, fun i hi => .inl hi, Ext.refl _ _, ?_, ?_⟩
            · have h1 := HT8.out
              have e1 : T = { T with ps := ps.take 0, live := liveN (ps.take 0) } := by
                obtain ⟨t1, t2, t3, t4, t5⟩ := T
                have := HH.out.1
                simp only at this
                rw [this.1, this.2]
                rfl
              rw [← e1]
              exact h1
            · exact HR2.out
          case round =>
            obtain ⟨j, q', hj, ht, hm', ha, hX, hTj, hRj⟩ := hrel
            by_cases hjl : j < ps.length
            · obtain ⟨p, hp⟩ : ∃ p, ps[j]? = some p := ⟨_, List.getElem?_eq_getElem hjl⟩
              obtain ⟨hkb, hvb, hk0, hkl, hvl⟩ := HH.out.2.2.2.1 p (List.mem_of_getElem? hp)
              have hdr := textB_drop hp
              rw [← HH.out.2.1] at hdr
              obtain ⟨off, hoff⟩ : ∃ n, (textB (ps.take j)).length = n := ⟨_, rfl⟩
              have hoff2 : (textB (ps.take (j + 1))).length = off + (pairB p).length := by rw [textB_succ hp, List.length_append, hoff]
              rw [hoff] at hRj hdr
              have hk2 : sdnv p.1.length ++ p.1 <+: bs.drop off := by rw [hdr]; unfold pairB lenB; exact ⟨_, by simp only [List.append_assoc]; rfl⟩
              have hk3 : sdnv p.2.length ++ p.2 <+: bs.drop (off + (sdnv p.1.length).length + p.1.length) := by
                have e : bs.drop (off + (sdnv p.1.length).length + p.1.length) = lenB p.2 ++ textB (ps.drop (j + 1)) := by
                  rw [show off + (sdnv p.1.length).length + p.1.length = off + (lenB p.1).length by unfold lenB; rw [List.length_append]; omega, ← List.drop_drop, hdr]
                  unfold pairB
                  rw [List.append_assoc, List.drop_left]
                rw [e]
                exact ⟨_, rfl⟩
              have hpl1 : 1 ≤ (pairB p).length := by rw [pairB_length]; have := pairN_pos p.1 p.2; omega
              have hltb : off < bs.length := by
                have := congrArg List.length hdr
                rw [List.length_drop, List.length_append] at this
                omega
              have hLf := rleft_ok r2 u2 bs off wr hRj
              have hlp : (0 : Int) < ((bs.length - off : Nat) : Int) := by omega
              obtain ⟨lf, hlf⟩ : ∃ n, bs.length - off = n := ⟨_, rfl⟩
              rw [hlf] at hLf hlp
              have HLf := Lib.hid hLf
              have HR := Lib.hid hRj
              have HF := Lib.hid (And.intro ht (And.intro hm' (And.intro ha (And.intro hX hTj))))
              have HK := Lib.hid (And.intro hk2 (And.intro hk3 (And.intro hoff hoff2)))
              clear hLf hlf hk2 hk3 hoff2 hdr ht hm' ha hX hTj hoff hRj
              go_wp2_with fail
              refine HLf.out.mono ?_
              rintro e w9 ⟨rfl, hB9⟩
              have HB1 := Lib.hid (rbytes_ok r2 u2 bs off 64 p.1 hkl (by decide) HK.out.1 w9 (HR.out.below hB9))
              go_wp2_with fail
              refine HB1.out.mono ?_
              rintro e w10 ⟨kv, rfl, hown10, hR10, hX10⟩
              obtain ⟨ka, kc, rfl, -⟩ := owns_shape hown10
              have hb11 := below_box w10 (.cells #[.slice ka p.1.length kc, .slice none 0 0, .bool false] 78)
              have HB2 := Lib.hid (rbytes_ok r2 u2 bs _ 1024 p.2 hvl (by decide) HK.out.2.1 _ (hR10.below hb11))
              clear HB1
              go_wp2_with fail
              refine HB2.out.mono ?_
              rintro e w12 ⟨vv, rfl, hown12, hR12, hX12⟩
              obtain ⟨va, vc, rfl, -⟩ := owns_shape hown12
              have hlt10 := block_lt_of_heap hR10.head
              have hgb := World.alloc_heap_new w10 (.cells #[.slice ka p.1.length kc, .slice none 0 0, .bool false] 78)
              have hgb12 := (hX12.block w10.heap.size (by simp) (by omega)).trans hgb
              have hgb13 := heap_cell (j := 1) hgb12 (.slice va p.2.length vc)
              have fr12 : ∀ j, w12.frozen? ⟨w10.heap.size, j, none⟩ = false := fun j => by simp [World.frozen?, hgb12]
              have ck1 := box11 hgb12 1 _ rfl
              have hXb : Ext (· = w10.heap.size) w12 (w12.setCell ⟨w10.heap.size, 1, none⟩ (.slice va p.2.length vc)) := Ext.setCell (S := (· = w10.heap.size)) (p := ⟨w10.heap.size, 1, none⟩) rfl _
              have HG := Lib.hid (And.intro hgb13 hXb)
              have HO := Lib.hid (And.intro hown10 (And.intro hown12 (And.intro hR10 (And.intro hR12 (And.intro hX10 hX12)))))
              clear hgb hgb12 hgb13 hXb hown10 hown12 hR10 hR12 hX10 hX12 HB2
              go_wp2_with fail
              generalize w12.setCell ⟨w10.heap.size, 1, none⟩ (.slice va p.2.length vc) = w13 at HG ⊢
              clear ck1 fr12
              have hb13 := HG.out.1
              have d0 := box11 hb13 0 _ rfl
              have d1 := box11 hb13 1 _ rfl
              have d2 := box11 hb13 2 _ rfl
              have hs10 : w9.heap.size ≤ w10.heap.size := HO.out.2.2.2.2.1.size
              have hs12 : w10.heap.size + 1 ≤ w12.heap.size := by have := HO.out.2.2.2.2.2.size; simpa using this
              have hs13 : w12.heap.size ≤ w13.heap.size := HG.out.2.size
              have hltr : r2 < w8.heap.size := block_lt_of_heap HR2.out.head
              have hs8r : w8.heap.size ≤ wr.heap.size := HF.out.2.2.2.1.size
              have hs89 : w8.heap.size ≤ w9.heap.size := Nat.le_trans hs8r hB9.size
              have hu2l : ∀ k, u2.ownBlock = some k → k < w8.heap.size := fun k hk => by
                rcases HR2.out.src with ⟨gg, oo, cc, e, -, hce⟩ | ⟨-, e⟩
                · rw [e] at hk
                  injection hk with hk
                  subst hk
                  obtain ⟨y, hy⟩ : ∃ y, (u8s bs)[0]? = some y := ⟨_, List.getElem?_eq_getElem (by rw [u8s_length]; omega)⟩
                  exact block_lt_of_cell (hce 0 y hy)
                · have := congrArg List.length e
                  rw [u8s_length] at this
                  simp at this
                  rw [this] at hltb
                  simp at hltb
              have hR13 := HO.out.2.2.2.1.ext HG.out.2 (fun e => by omega) (fun k hk e => by have := hu2l k hk; omega)
              have hqr : ∀ k, q'.all k → k ≠ r2 := fun k hk e => by
                rcases HF.out.2.2.1 k hk with h | h
                · have := HT.out.lt k h
                  have h2 := hBz2.size
                  omega
                · omega
              have hTw := HF.out.2.2.2.2
              have hql := hTw.lt
              have hT13 := (((hTw.below hB9).ext HO.out.2.2.2.2.1 hqr).below (below_box w10 (.cells #[.slice ka p.1.length kc, .slice none 0 0, .bool false] 78))).ext HO.out.2.2.2.2.2 hqr
              have hT13 := hT13.ext HG.out.2 (fun k hk e => by have := hql k hk; have := hB9.size; omega)
              have hown10 := owns_ext (owns_ext (owns_below HO.out.1 (below_box w10 (.cells #[.slice ka p.1.length kc, .slice none 0 0, .bool false] 78))) HO.out.2.2.2.2.2 (fun k hk e => by have := (HO.out.1.lt k hk).1; omega)) HG.out.2 (fun k hk e => by have := owns_lt HO.out.1 hk; omega)
              have hown12 := owns_ext HO.out.2.1 HG.out.2 (fun k hk e => by have := (HO.out.2.1.lt k hk).1; simp at this; omega)
              have HE := rerr_ok r2 u2 bs _ w13 hR13
              have HERR := Lib.hid fun W (hW : Below w13.heap.size w13 W) => rerr_ok r2 u2 bs _ W (hR13.below hW)
              have HGD := Lib.hid fun W (hW : Below w13.heap.size w13 W) => good_any (.slice ka p.1.length kc) (.slice va p.2.length vc) ⟨p.1, p.2, false⟩ W ((Src.of_owns hown10).below hW) ((Src.of_owns hown12).below hW)
              have hgood : Chg.good ⟨p.1, p.2, false⟩ = true := by simp [Chg.good, hk0, hkl, hvl]
              rw [hgood] at HGD
              have HC13 := Lib.hid (ChgAt.mk (w := w13) (q := q') (c := ⟨p.1, p.2, false⟩) (Src.of_owns hown10) (Src.of_owns hown12) (fun k hk e => by
                have h1 := hql k e
                have h2 := hB9.size
                rcases hk with hk | hk
                · have := (hown10.lt k hk).1; omega
                · have := (hown12.lt k hk).1; simp at this; omega) hkb hvb hkl hvl)
              have HT13 := Lib.hid hT13
              have HU2 := Lib.hid hu2l
              have HR13 := Lib.hid hR13
              have hcs := hT13.cs
              obtain ⟨-, -, -, -, t4, -⟩ := hcs
              rw [show q'.t = q.t from HF.out.1] at t4
              have hcv : ∀ w2, Below w13.heap.size w13 w2 → Sem.run Tryz.prog (convert 52 9 (.slice ka p.1.length kc)) w2 = .ok (.string (strOfNums p.1)) w2 := fun w2 h2 => conv_src ((Src.of_owns hown10).below h2)
              have hkeys := hT13.keys
              have hkl' : (keysP (ps.take j)).length = j := by rw [keysP_length, List.length_take]; omega
              simp only [hkl'] at hkeys
              have Hkeys := Lib.hid hkeys
              have hbx := fun (W : World) (hW : Below w13.heap.size w13 W) => below_box W (.cells #[.slice ka p.1.length kc, .slice va p.2.length vc, .bool false] 78)
              clear HE hT13 hR13 hown10 hown12 hgood hql hqr hu2l hTw hb13 hkeys
              have hoff3 : off + (sdnv p.1.length).length + p.1.length + (sdnv p.2.length).length + p.2.length = (textB (ps.take (j + 1))).length := by
                rw [HK.out.2.2.2]
                unfold pairB lenB
                simp only [List.length_append]
                omega
              have hT2 : ({ T with ps := ps.take j, live := liveN (ps.take j) } : TblS).change ⟨p.1, p.2, false⟩ = { T with ps := ps.take (j + 1), live := liveN (ps.take (j + 1)) } := by
                have h1 : chgP (ps.take j) ⟨p.1, p.2, false⟩ = ps.take (j + 1) := by
                  have h2 : ps.take (j + 1) = ps.take j ++ [p] := by rw [List.take_add_one, hp]; rfl
                  unfold chgP
                  rw [if_neg (by simp), h2]
                  refine put_last ?_
                  rw [← h2]
                  unfold keysP
                  rw [List.map_take]
                  exact HH.out.2.2.1.sublist (List.take_sublist _ _)
                unfold TblS.change
                simp only [h1]
              have HO3 := Lib.hid hoff3
              have HT2 := Lib.hid hT2
              have hls : liveN (ps.take j) ≤ 1073741824 := by
                have h2 : liveN ps = liveN (ps.take j) + liveN (ps.drop j) := by rw [← liveN_append, List.take_append_drop]
                omega
              clear hoff3 hT2
              have HFIN : ∀ W2, Below w13.heap.size w13 W2 → Hid (Calls Tryz.prog 65 #[.pointer (some ⟨q.t, 0, none⟩), .agg #[.slice ka p.1.length kc, .slice va p.2.length vc, .bool false]] W2 fun e w15 => (∃ t, e = .returned t) ∧
                  ∃ q2 : TBk, q2.t = q.t ∧ q2.m = q.m ∧ (∀ i, q2.all i → q.all i ∨ w8.heap.size ≤ i) ∧ Ext (fun i => q.all i ∨ i = r2) w8 w15 ∧ TblAt w15 d l q2 { T with ps := ps.take (j + 1), live := liveN (ps.take (j + 1)) } ∧ RdAt w15 r2 u2 bs (textB (ps.take (j + 1))).length ∧
                    (match w15.cell? ⟨r2, 1, none⟩ with | some (.int _ z) => bs.length - z.toNat | _ => 0) < (match wr.cell? ⟨r2, 1, none⟩ with | some (.int _ z) => bs.length - z.toNat | _ => 0)) := fun W2 hW2 => by
                refine Lib.hid ?_
                have hc := change_any d l q' { T with ps := ps.take j, live := liveN (ps.take j) } ⟨p.1, p.2, false⟩ (.slice ka p.1.length kc) (.slice va p.2.length vc) W2 (HT13.out.below hW2) rfl hls ((HC13.out).below hW2)
                rw [HF.out.1] at hc
                refine hc.mono ?_
                rintro e w15 ⟨ht, q2, e1, e2, e3, e4, e5⟩
                have hq8 : ∀ k, q'.all k → q.all k ∨ w8.heap.size ≤ k := HF.out.2.2.1
                have hR15 : RdAt w15 r2 u2 bs (textB (ps.take (j + 1))).length := by
                  rw [← HO3.out]
                  have hl0 := HT.out.lt
                  have hz2 := hBz2.size
                  refine (HR13.out.below hW2).ext e4 (fun hk => ?_) (fun k hk hk2 => ?_)
                  · rcases hq8 _ hk with h | h
                    · have := hl0 _ h; omega
                    · omega
                  · have h1 := hu2 k hk
                    have h3 := HU2.out k hk
                    rcases hq8 _ hk2 with h | h
                    · have := hl0 _ h; omega
                    · omega
                refine ⟨ht, q2, e1.trans HF.out.1, e2.trans HF.out.2.1, fun i hi => ?_, ?_, ?_, hR15, ?_⟩
                · rcases e3 i hi with h | h
                  · exact hq8 i h
                  · have := hW2.size; exact .inr (by omega)
                · have c1 := (HF.out.2.2.2.1.trans (Ext.of_below (S := fun i => q.all i ∨ i = r2) hB9) fun _ _ h => h).trans HO.out.2.2.2.2.1 fun k _ h => .inr h
                  have c2 := (c1.trans (Ext.of_below (S := fun i => q.all i ∨ i = r2) (below_box w10 (.cells #[.slice ka p.1.length kc, .slice none 0 0, .bool false] 78))) fun _ _ h => h).trans HO.out.2.2.2.2.2 fun k _ h => .inr h
                  have c3 := (c2.trans HG.out.2 fun k hk h => by omega).trans (Ext.of_below (S := fun i => q.all i ∨ i = r2) hW2) fun _ _ h => h
                  exact c3.trans e4 fun k hk h => (hq8 k h).elim .inl fun h => by omega
                · rw [HT2.out] at e5
                  exact e5
                · rw [hR15.cs.2.1, HR.out.cs.2.1]
                  show bs.length - ((textB (ps.take (j + 1))).length : Int).toNat < bs.length - (off : Int).toNat
                  have := HK.out.2.2.2
                  omega
              rcases Nat.eq_zero_or_pos j with rfl | hj0
              · obtain ⟨sa, sc, hqs, -⟩ := owns_shape Hkeys.out
                rw [hqs] at t4
                refine wp_region_rg_tail 33 (fun i => if i = 1 then some (fun v _ => v = .int .i64 0) else if i = 5 then some (fun v _ => v = .bool true) else none) fol (by kernel_rfl) (fun W hW hh => ?_)
                clear hh
                simp only [List.take_succ_cons, List.take_zero, List.drop_succ_cons, List.drop_zero]
                have r0 := rcell hW d0
                have r1 := rcell hW d1
                have r2' := rcell hW d2
                have r4 := rcell hW t4
                have r9' := hj
                have hcvW : ∀ w2, Below W.heap.size W w2 → Sem.run Tryz.prog (convert 52 9 (.slice ka p.1.length kc)) w2 = .ok (.string (strOfNums p.1)) w2 := fun w2 h2 => hcv w2 (below_trans hW h2)
                repeat ((first | refine lex_move _ (by first | exact Or.inl rfl | exact Or.inr rfl) rfl rfl ?_ | (refine lex_float ?_ rfl rfl (fun w1 hb1 hf1 => ?_) ?_; rotate_left; (go_simp; (try simp (disch := omega) only [IntWalk.i64_quo, IntWalk.rem_in, IntWalk.i64_in, IntWalk.u64_in, IntWalk.u32_in, IntWalk.u8_in, IntWalk.toNatUp, IntWalk.iteOmega]); (try go_simp); rfl)) | refine lex_skip rfl ?_); simp only [Act.put, Act.eval, Array.getD_eq_getD_getElem?, List.getElem?_toArray, List.getElem?_cons_zero, List.getElem?_cons_succ, Option.getD_some, List.setIfInBounds_toArray, List.set_cons_succ, List.set_cons_zero])
                refine lex_make _ rfl (by exact fun _ _ _ h _ => h) rfl (fun w1 hb1 hf1 => ?_) ?_
                · have hb1' := hb1
                  (unfold makes; go_simp; simp only [makesUpon])
                  refine (HERR.out _ (below_trans hW hb1')).mono ?_
                  rintro e w' ⟨rfl, rfl⟩
                  exact ⟨_, rfl, Below.refl _ _, rfl⟩
                rintro v1 W1 hB1 rfl
                simp only [Act.put, Act.eval, Array.getD_eq_getD_getElem?, List.getElem?_toArray, List.getElem?_cons_zero, List.getElem?_cons_succ, Option.getD_some, List.setIfInBounds_toArray, List.set_cons_succ, List.set_cons_zero]
                repeat ((first | refine lex_move _ (by first | exact Or.inl rfl | exact Or.inr rfl) rfl rfl ?_ | (refine lex_float ?_ rfl rfl (fun w1 hb1 hf1 => ?_) ?_; rotate_left; (go_simp; (try simp (disch := omega) only [IntWalk.i64_quo, IntWalk.rem_in, IntWalk.i64_in, IntWalk.u64_in, IntWalk.u32_in, IntWalk.u8_in, IntWalk.toNatUp, IntWalk.iteOmega]); (try go_simp); rfl)) | refine lex_skip rfl ?_); simp only [Act.put, Act.eval, Array.getD_eq_getD_getElem?, List.getElem?_toArray, List.getElem?_cons_zero, List.getElem?_cons_succ, Option.getD_some, List.setIfInBounds_toArray, List.set_cons_succ, List.set_cons_zero])
                refine lex_make _ rfl (by exact fun _ _ _ h _ => h) rfl (fun w1 hb1 hf1 => ?_) ?_
                · have hb1' := hb1
                  (unfold makes; go_simp; simp only [makesUpon])
                  refine (HGD.out _ (below_trans hW hb1')).mono ?_
                  rintro e w' ⟨rfl, hB⟩
                  exact ⟨_, rfl, hB, rfl⟩
                rintro v2 W2 hB2 rfl
                simp only [Act.put, Act.eval, Array.getD_eq_getD_getElem?, List.getElem?_toArray, List.getElem?_cons_zero, List.getElem?_cons_succ, Option.getD_some, List.setIfInBounds_toArray, List.set_cons_succ, List.set_cons_zero]
                repeat ((first | refine lex_move _ (by first | exact Or.inl rfl | exact Or.inr rfl) rfl rfl ?_ | (refine lex_float ?_ rfl rfl (fun w1 hb1 hf1 => ?_) ?_; rotate_left; (go_simp; (try simp (disch := omega) only [IntWalk.i64_quo, IntWalk.rem_in, IntWalk.i64_in, IntWalk.u64_in, IntWalk.u32_in, IntWalk.u8_in, IntWalk.toNatUp, IntWalk.iteOmega]); (try go_simp); rfl)) | refine lex_skip rfl ?_); simp only [Act.put, Act.eval, Array.getD_eq_getD_getElem?, List.getElem?_toArray, List.getElem?_cons_zero, List.getElem?_cons_succ, Option.getD_some, List.setIfInBounds_toArray, List.set_cons_succ, List.set_cons_zero])
                refine lex_nil ?_
                have hBW2 : Below w13.heap.size w13 W2 := below_trans hW (below_trans hB1 hB2)
                have HFI := HFIN W2 hBW2
                have d0 := below_cell hBW2 d0
                have d1 := below_cell hBW2 d1
                have d2 := below_cell hBW2 d2
                clear r0 r1 r2' r4 hcvW
                go_wp2_with fail
                refine (must_true _).mono ?_
                rintro e w14 ⟨⟨t9, rfl⟩, rfl⟩
                go_wp2_with fail
                refine HFI.out.mono ?_
                rintro e w15 ⟨⟨t10, rfl⟩, q2, f1, f2, f3, f4, f5, f6, f7⟩
                go_wp2_with fail
                exact ⟨⟨_, q2, hjl, f1, f2, f3, f4, f5, f6⟩, f7⟩
              · obtain ⟨i2, rfl⟩ : ∃ i2, j = i2 + 1 := ⟨j - 1, by omega⟩
                obtain ⟨gs, sc, hqs, -, -, -, -, hkc, -⟩ := owns_parts Hkeys.out hj0
                rw [hqs] at t4
                have hj1 : i2 < ps.length := by omega
                have hkj : (keysP (ps.take (i2 + 1)))[i2]? = some ps[i2].1 := by
                  unfold keysP
                  rw [List.getElem?_map, List.getElem?_take, if_pos (by omega), List.getElem?_eq_getElem hj1]
                  rfl
                have hlast := hkc i2 (by omega)
                rw [strs_get hkj] at hlast
                have hless : Op.bytesLess (strOfNums ps[i2].1).toList (strOfNums p.1).toList = true := by
                  rw [less_strs (HH.out.2.2.2.1 _ (List.getElem_mem hj1)).1 hkb]
                  refine krising_at HH.out.2.2.1 (i := i2) (j := i2 + 1) (by omega) ?_ ?_
                  · unfold keysP; rw [List.getElem?_map, List.getElem?_eq_getElem hj1]; rfl
                  · unfold keysP; rw [List.getElem?_map, hp]; rfl
                generalize ps[i2].1 = kl at hlast hless
                have hje : ((i2 : Int) + 1 == 0) = false := by rw [beq_eq_false_iff_ne]; omega
                have hj4 : (i2 : Int) < (i2 : Int) + 1 := by omega
                have r9 := fun (W : World) (hW : Below w13.heap.size w13 W) => rcell hW hlast
                have hi2 : (i2 : Int) ≤ 1000000000 := by have := len_live ps; omega
                clear hkc hkj
                refine wp_region_rg_tail 33 (fun i => if i = 1 then some (fun v _ => v = .int .i64 0) else if i = 5 then some (fun v _ => v = .bool true) else none) fol (by kernel_rfl) (fun W hW hh => ?_)
                clear hh
                simp only [List.take_succ_cons, List.take_zero, List.drop_succ_cons, List.drop_zero]
                have r0 := rcell hW d0
                have r1 := rcell hW d1
                have r2' := rcell hW d2
                have r4 := rcell hW t4
                have r9' := r9 W hW
                have hcvW : ∀ w2, Below W.heap.size W w2 → Sem.run Tryz.prog (convert 52 9 (.slice ka p.1.length kc)) w2 = .ok (.string (strOfNums p.1)) w2 := fun w2 h2 => hcv w2 (below_trans hW h2)
                repeat ((first | refine lex_move _ (by first | exact Or.inl rfl | exact Or.inr rfl) rfl rfl ?_ | (refine lex_float ?_ rfl rfl (fun w1 hb1 hf1 => ?_) ?_; rotate_left; (go_simp; (try simp (disch := omega) only [IntWalk.i64_quo, IntWalk.rem_in, IntWalk.i64_in, IntWalk.u64_in, IntWalk.u32_in, IntWalk.u8_in, IntWalk.toNatUp, IntWalk.iteOmega]); (try go_simp); rfl)) | refine lex_skip rfl ?_); simp only [Act.put, Act.eval, Array.getD_eq_getD_getElem?, List.getElem?_toArray, List.getElem?_cons_zero, List.getElem?_cons_succ, Option.getD_some, List.setIfInBounds_toArray, List.set_cons_succ, List.set_cons_zero])
                refine lex_make _ rfl (by exact fun _ _ _ h _ => h) rfl (fun w1 hb1 hf1 => ?_) ?_
                · have hb1' := hb1
                  (unfold makes; go_simp; simp only [makesUpon])
                  refine (HERR.out _ (below_trans hW hb1')).mono ?_
                  rintro e w' ⟨rfl, rfl⟩
                  exact ⟨_, rfl, Below.refl _ _, rfl⟩
                rintro v1 W1 hB1 rfl
                simp only [Act.put, Act.eval, Array.getD_eq_getD_getElem?, List.getElem?_toArray, List.getElem?_cons_zero, List.getElem?_cons_succ, Option.getD_some, List.setIfInBounds_toArray, List.set_cons_succ, List.set_cons_zero]
                repeat ((first | refine lex_move _ (by first | exact Or.inl rfl | exact Or.inr rfl) rfl rfl ?_ | (refine lex_float ?_ rfl rfl (fun w1 hb1 hf1 => ?_) ?_; rotate_left; (go_simp; (try simp (disch := omega) only [IntWalk.i64_quo, IntWalk.rem_in, IntWalk.i64_in, IntWalk.u64_in, IntWalk.u32_in, IntWalk.u8_in, IntWalk.toNatUp, IntWalk.iteOmega]); (try go_simp); rfl)) | refine lex_skip rfl ?_); simp only [Act.put, Act.eval, Array.getD_eq_getD_getElem?, List.getElem?_toArray, List.getElem?_cons_zero, List.getElem?_cons_succ, Option.getD_some, List.setIfInBounds_toArray, List.set_cons_succ, List.set_cons_zero])
                refine lex_make _ rfl (by exact fun _ _ _ h _ => h) rfl (fun w1 hb1 hf1 => ?_) ?_
                · have hb1' := hb1
                  (unfold makes; go_simp; simp only [makesUpon])
                  refine (HGD.out _ (below_trans hW hb1')).mono ?_
                  rintro e w' ⟨rfl, hB⟩
                  exact ⟨_, rfl, hB, rfl⟩
                rintro v2 W2 hB2 rfl
                simp only [Act.put, Act.eval, Array.getD_eq_getD_getElem?, List.getElem?_toArray, List.getElem?_cons_zero, List.getElem?_cons_succ, Option.getD_some, List.setIfInBounds_toArray, List.set_cons_succ, List.set_cons_zero]
                repeat ((first | refine lex_move _ (by first | exact Or.inl rfl | exact Or.inr rfl) rfl rfl ?_ | (refine lex_float ?_ rfl rfl (fun w1 hb1 hf1 => ?_) ?_; rotate_left; (go_simp; (try simp (disch := omega) only [IntWalk.i64_quo, IntWalk.rem_in, IntWalk.i64_in, IntWalk.u64_in, IntWalk.u32_in, IntWalk.u8_in, IntWalk.toNatUp, IntWalk.iteOmega]); (try go_simp); rfl)) | refine lex_skip rfl ?_); simp only [Act.put, Act.eval, Array.getD_eq_getD_getElem?, List.getElem?_toArray, List.getElem?_cons_zero, List.getElem?_cons_succ, Option.getD_some, List.setIfInBounds_toArray, List.set_cons_succ, List.set_cons_zero])
                refine lex_nil ?_
                have hBW2 : Below w13.heap.size w13 W2 := below_trans hW (below_trans hB1 hB2)
                have HFI := HFIN W2 hBW2
                have d0 := below_cell hBW2 d0
                have d1 := below_cell hBW2 d1
                have d2 := below_cell hBW2 d2
                clear r0 r1 r2' r4 hcvW
                go_wp2_with fail
                refine (must_true _).mono ?_
                rintro e w14 ⟨⟨t9, rfl⟩, rfl⟩
                go_wp2_with fail
                refine HFI.out.mono ?_
                rintro e w15 ⟨⟨t10, rfl⟩, q2, f1, f2, f3, f4, f5, f6, f7⟩
                go_wp2_with fail
                exact ⟨⟨_, q2, hjl, f1, f2, f3, f4, f5, f6⟩, f7⟩
            · obtain rfl : j = ps.length := by omega
              rw [List.take_length] at hTj hRj
              have hbt : (textB ps).length = bs.length := by rw [HH.out.2.1]
              rw [hbt] at hRj
              have hle := rleft_ok r2 u2 bs bs.length wr hRj
              rw [Nat.sub_self] at hle
              have hle2 := show Calls Tryz.prog 127 #[.pointer (some ⟨r2, 0, none⟩)] wr (fun e w' => e = .returned (.int .i64 0) ∧ Below wr.heap.size wr w') from hle
              have HLE := Lib.hid hle2
              have HF := Lib.hid (And.intro ht (And.intro hm' (And.intro ha (And.intro hX hTj))))
              clear hle hle2 hRj ht hm' ha hX hTj
              go_wp2_with fail
              refine HLE.out.mono ?_
              rintro e w9 ⟨rfl, hB9⟩
              go_wp2_with fail
              go_ret
              refine ⟨rfl, q', HF.out.1, HF.out.2.1, fun i hi => (HF.out.2.2.1 i hi).imp id fun e => Nat.le_trans hB88.size e, ?_, HF.out.2.2.2.2.below hB9⟩
              have hwr2 : w.heap.size ≤ r2 := Nat.le_trans hBz2.size hr2
              exact ((Ext.of_below (S := q.all) hB88).trans HF.out.2.2.2.1 fun k hk e => e.elim id fun e => by omega).trans (Ext.of_below (S := q.all) hB9) fun _ _ h => h
end Go.Proofs.YtbjofbhhnmehgaaGreatDoor.TT
namespace Go.Proofs.YtbjofbhhnmehgaaGreatDoor.TT
open Go.RowKit Go.RG Go.Hp Go.Proofs.YtbjofbhhnmehgaaGreatDoor


theorem chgsP_norm (ps : List Pr) (cs : List Chg) : chgsP ps (cs.map Chg.norm) = chgsP ps cs := by
  unfold chgsP
  rw [List.foldl_map]
  congr 1
  funext p c
  exact chgP_norm p c
set_option maxHeartbeats 2000000 in
set_option maxRecDepth 100000 in
theorem batchK_any (d l : Nat) (q : TBk) (T : TblS) (cs : List Chg) (v : Value) (Bh Bt : Nat) (w : World) (h : TblAt w d l q T) (hlive : T.live = liveN T.ps) (hroom : liveN T.ps ≤ 1000000000) (hv : Src w v (u8s (recB cs))) (h0 : cs ≠ []) (hn : cs.length ≤ 80)
    (hg : ∀ c ∈ cs, c.good = true ∧ isBytes c.key ∧ isBytes c.value ∧ c.value.length ≤ 1024) (hcap : liveN (chgsP T.ps cs) ≤ T.cap) (hcl : T.cap ≤ 1000000000) (hh : w.cell? ⟨Bh, 0, none⟩ = some (.int .i64 0)) (ht : w.cell? ⟨Bt, 0, none⟩ = some (.pointer (some ⟨q.t, 0, none⟩))) (hBt : ¬ q.all Bt) :
    Calls Tryz.prog 94 #[v, .pointer (some ⟨Bh, 0, none⟩), .pointer (some ⟨Bt, 0, none⟩)] w fun e w' => (∃ t, e = .returned t) ∧ TPost w d l q { T with ps := chgsP T.ps cs, live := liveN (chgsP T.ps cs) } (keysP (chgsP T.ps cs)) w' := by
  obtain ⟨ds, hds⟩ : ∃ ds, cs.map Chg.norm = ds := ⟨_, rfl⟩
  have hdl : ds.length = cs.length := by rw [← hds, List.length_map]
  have hdp : chgsP T.ps ds = chgsP T.ps cs := by rw [← hds, chgsP_norm]
  have hdg : ∀ c ∈ ds, isBytes c.key ∧ isBytes c.value ∧ c.key.length ≤ 64 ∧ c.value.length ≤ 1024 := fun c hc => by
    rw [← hds] at hc
    obtain ⟨c0, hc0, rfl⟩ := List.mem_map.1 hc
    obtain ⟨g1, g2, g3, g4⟩ := hg c0 hc0
    have g5 : c0.key.length ≤ 64 := by
      unfold Chg.good at g1
      simp only [Bool.and_eq_true, decide_eq_true_eq] at g1
      exact g1.1.2
    unfold Chg.norm
    split
    · exact ⟨g2, fun n hn => (by cases hn), g5, by simp⟩
    · exact ⟨g2, g3, g5, g4⟩
  have HB := Lib.hid (batch_any v cs w hv h0 hn hg)
  rw [hds] at HB
  rw [← hdp] at hcap ⊢
  obtain ⟨n, hnn⟩ : ∃ n, ds.length = n := ⟨_, rfl⟩
  have hn80 : n ≤ 80 := by omega
  have HT := Lib.hid h
  have HLV := Lib.hid (live_chgs_le (ps := T.ps) (cs := ds) h.rise (fun c hc => ⟨(hdg c hc).2.2.1, (hdg c hc).2.2.2⟩))
  have HN := Lib.hid hnn
  have HL := Lib.hid hlive
  have hlt := h.lt
  have hbt := block_lt_of_cell ht
  clear hv h0 hn hg hds hdp h hdl hnn hlive
  go_enter Tryz.func94, Tryz.ntmps94
  go_wp2_with fail
  refine (must_true _).mono ?_
  rintro e w1 ⟨⟨t, rfl⟩, rfl⟩
  go_wp2_with fail
  refine HB.out.mono ?_
  rintro e w1 ⟨u, rfl, hBa, hB1⟩
  have ht1 := below_cell hB1 ht
  obtain ⟨ua, uc, rfl⟩ := hBa.shape
  rw [HN.out] at hBa ⊢
  have HT1 := Lib.hid (HT.out.below hB1)
  have HBa := Lib.hid (hBa.mono (G := fun j => q.all j) fun j hj => .inl (hlt j hj))
  have HB1 := Lib.hid hB1
  clear hBa HB hh ht
  go_wp2_with fail
  go_loopw [12] (fun vi wr => ∃ (i : Nat) (q7 : TBk), vi = .int .i64 i ∧ i ≤ n ∧ q7.t = q.t ∧ q7.m = q.m ∧ (∀ j, q7.all j → q.all j ∨ w1.heap.size ≤ j) ∧ Ext q.all w1 wr ∧
    TblAt wr d l q7 { T with ps := chgsP T.ps (ds.take i), live := liveN (chgsP T.ps (ds.take i)) } ∧ BatchAt wr q7.all (.slice ua n uc) ds) (fun vi _ => n - (intOf vi).toNat)
  case atStart =>
    refine ⟨0, q, rfl, Nat.zero_le _, rfl, rfl, fun _ h => .inl h, Ext.refl _ _, ?_, HBa.out⟩
    have e1 : T = { T with ps := chgsP T.ps (ds.take 0), live := liveN (chgsP T.ps (ds.take 0)) } := by
      obtain ⟨t1, t2, t3, t4, t5⟩ := T
      have := HL.out
      simp only at this
      rw [this]
      rfl
    rw [← e1]
    exact HT1.out
  case round =>
    obtain ⟨i, q7, rfl, hi, ht7, hm7, ha7, hX7, hT7, hB7⟩ := hrel
    have htr : wr.cell? ⟨Bt, 0, none⟩ = some (.pointer (some ⟨q.t, 0, none⟩)) := hX7.cell_some ht1 hBt
    by_cases hin : i < n
    · have hin' : (i : Int) < (n : Int) := by omega
      obtain ⟨c, hci⟩ : ∃ c, ds[i]? = some c := ⟨_, List.getElem?_eq_getElem (by rw [HN.out]; exact hin)⟩
      have hal7 := HLV.out i
      obtain ⟨a', cap', e1, hel⟩ := hB7
      obtain ⟨g, o, va, vb, e2, k0, k1, k2, hk, hvv, hgg, hfar⟩ := hel i c hci
      injection e1 with e1 e3 e4
      subst e1 e4 e2
      clear e3
      have hB7 : BatchAt wr q7.all (.slice (some ⟨g, o, none⟩) n uc) ds := ⟨_, _, by rw [HN.out], hel⟩
      have hbx := below_box wr (.cells #[va, vb, .bool c.gone] 78)
      have hTx := hT7.below hbx
      have hch := change_any d l q7 _ c va vb _ hTx rfl (by simp only; omega)
        ⟨hk.below hbx, hvv.below hbx, fun j hj e => (hfar j hj).2 e, (hdg c (List.mem_of_getElem? hci)).1, (hdg c (List.mem_of_getElem? hci)).2.1, (hdg c (List.mem_of_getElem? hci)).2.2.1, (hdg c (List.mem_of_getElem? hci)).2.2.2⟩
      obtain ⟨aa, ca, rfl, -⟩ := hk.shape
      obtain ⟨ab, cb, rfl, -⟩ := hvv.shape
      rw [ht7] at hch
      have htr2 := below_cell hbx htr
      have HCH := Lib.hid hch
      have Hci := Lib.hid hci
      have H7 := Lib.hid (And.intro ht7 (And.intro hm7 (And.intro ha7 (And.intro hX7 (And.intro hTx (And.intro (hB7.below hbx) hbx))))))
      clear hk hvv hch hfar hgg hel hci ht7 hm7 ha7 hX7 hT7 hB7 hTx hbx
      go_wp2_with fail
      refine HCH.out.mono ?_
      rintro e w8 ⟨⟨t, rfl⟩, q8, f1, f2, f3, f4, f5⟩
      have HP := Lib.hid (And.intro f1 (And.intro f2 (And.intro f3 (And.intro f4 f5))))
      clear f1 f2 f3 f4 f5 HCH
      go_wp2_with fail
      have hXx : Ext q.all w1 w8 := (H7.out.2.2.2.1.trans (Ext.of_below (S := q.all) H7.out.2.2.2.2.2.2) fun _ _ h => h).trans HP.out.2.2.2.1 fun j hj e => by
        rcases H7.out.2.2.1 j e with e | e
        · exact e
        · omega
      refine ⟨⟨i + 1, q8, by simp, by omega, HP.out.1.trans H7.out.1, HP.out.2.1.trans H7.out.2.1, fun j hj => ?_, hXx, ?_, ?_⟩, ?_⟩
      · rcases HP.out.2.2.1 j hj with e | e
        · exact H7.out.2.2.1 j e
        · exact .inr (Nat.le_trans (Nat.le_trans H7.out.2.2.2.1.size H7.out.2.2.2.2.2.2.size) e)
      · rw [chgsP_succ Hci.out]
        exact HP.out.2.2.2.2
      · exact ((H7.out.2.2.2.2.2.1.mono (G := fun j => q7.all j ∨ q8.all j) fun j hj => hj.elim .inl fun hj => HP.out.2.2.1 j hj).ext HP.out.2.2.2.1 fun _ h => .inl h).mono fun j hj => .inl (.inr hj)
      · show n - ((i : Int) + 1).toNat < n - (i : Int).toNat
        omega
    · obtain rfl : i = n := by omega
      have hin' : ¬ (i : Int) < (i : Int) := by omega
      rw [List.take_of_length_le (by rw [HN.out]; exact Nat.le_refl _)] at hT7
      have c5 := hT7.cs.2.2.2.2.2.1
      have c2 := hT7.cs.2.2.1
      rw [ht7] at c5 c2
      simp only at c5 c2
      have hcap' : ((liveN (chgsP T.ps ds) : Nat) : Int) ≤ (T.cap : Int) := by omega
      obtain ⟨lv, hlv⟩ : ∃ m, liveN (chgsP T.ps ds) = m := ⟨_, rfl⟩
      rw [hlv] at c5 hcap'
      have H7 := Lib.hid (And.intro ht7 (And.intro hm7 (And.intro ha7 (And.intro hX7 hT7))))
      clear ht7 hm7 ha7 hX7 hT7 hB7 hlv
      go_wp2_with fail
      refine wp_region_rg_tail 9 (fun _ => none) fol (by kernel_rfl) (fun W hW hh => ?_)
      clear hh
      simp only [List.take_succ_cons, List.take_zero, List.drop_succ_cons, List.drop_zero]
      have r5 := rcell hW c5
      have r2 := rcell hW c2
      have rt := rcell hW htr
      repeat ((first | refine lex_move _ (by first | exact Or.inl rfl | exact Or.inr rfl) rfl rfl ?_ | (refine lex_float ?_ rfl rfl (fun w1 hb1 hf1 => ?_) ?_; rotate_left; (go_simp; (try simp (disch := omega) only [IntWalk.i64_quo, IntWalk.rem_in, IntWalk.i64_in, IntWalk.u64_in, IntWalk.u32_in, IntWalk.u8_in, IntWalk.toNatUp, IntWalk.iteOmega]); (try go_simp); rfl)) | refine lex_skip rfl ?_); simp only [Act.put, Act.eval, Array.getD_eq_getD_getElem?, List.getElem?_toArray, List.getElem?_cons_zero, List.getElem?_cons_succ, Option.getD_some, List.setIfInBounds_toArray, List.set_cons_succ, List.set_cons_zero])
      refine lex_nil ?_
      clear r5 r2 rt
      go_wp2_with fail
      refine (must_true _).mono ?_
      rintro e w9 ⟨⟨t9, rfl⟩, rfl⟩
      go_wp2_with fail
      go_end0
      refine ⟨⟨_, rfl⟩, TPost.of_below HB1.out ⟨q7, H7.out.1, H7.out.2.1, H7.out.2.2.1, ?_, H7.out.2.2.2.2.below hW⟩⟩
      exact H7.out.2.2.2.1.trans (Ext.of_below (S := q.all) hW) fun _ _ h => h
set_option maxHeartbeats 2000000 in
set_option maxRecDepth 100000 in
theorem partK_any (d l : Nat) (q : TBk) (T : TblS) (i : Nat) (v : Value) (Bt Bh : Nat) (w : World) (h : TblAt w d l q T) (hlive : T.live = liveN T.ps) (hsum : liveN T.ps ≤ 1000000000) (hi : i < partsN (liveN T.ps)) (hv : Src w v (u8s (partB (textB T.ps) i)))
    (hh : w.heap[Bh]? = some (.cells #[.int .i64 i] 3 (0, 0))) (ht : w.cell? ⟨Bt, 0, none⟩ = some (.pointer (some ⟨q.t, 0, none⟩))) :
    Calls Tryz.prog 97 #[v, .pointer (some ⟨Bt, 0, none⟩), .pointer (some ⟨Bh, 0, none⟩)] w fun e w' => (∃ t, e = .returned t) ∧ Ext (· = Bh) w w' ∧ w'.heap[Bh]? = some (.cells #[.int .i64 ((i : Int) + 1)] 3 (0, 0)) := by
  have hbl : (textB T.ps).length = liveN T.ps := textB_length _
  have HT := Lib.hid (text_any d l q T w h hlive (by omega))
  have hat := parts_at (n := (textB T.ps).length) (i := i) (by rw [hbl]; exact hi)
  have hkp := partsN_le (liveN T.ps)
  obtain ⟨bs, hbs⟩ : ∃ b, textB T.ps = b := ⟨_, rfl⟩
  obtain ⟨K, hK⟩ : ∃ K, partsN (liveN T.ps) = K := ⟨_, rfl⟩
  obtain ⟨n, hn⟩ : ∃ n, bs.length = n := ⟨_, rfl⟩
  rw [hbs] at HT hbl hv hat
  rw [hn] at hbl hat HT
  rw [hK] at hi hkp
  rw [← hbl] at hsum hkp hK
  have HN := Lib.hid hn
  have hcb : w.cell? ⟨Bh, 0, none⟩ = some (.int .i64 i) := by simp [World.cell?, hh]
  have hpl := partB_len bs i (by omega) (by omega)
  have hP := Lib.hid fun w' => parts_any n (by omega) w'
  rw [hK] at hP
  have hV := Lib.hid hv
  have HH := Lib.hid hh
  clear hK hbs hn hv hbl h hlive hh
  go_enter Tryz.func97, Tryz.ntmps97
  go_wp2_with fail
  refine HT.out.mono ?_
  rintro e w1 ⟨u, rfl, hown, hB1⟩
  obtain ⟨ua, uc, rfl, -⟩ := owns_shape hown
  have hcb1 := below_cell hB1 hcb
  have hPR := Lib.hid fun W (hW : Below w1.heap.size w1 W) => partRecord_any (.slice ua n uc) bs i (by rw [HN.out]; exact hat) (by rw [HN.out]; omega) W ((Src.of_owns hown).below hW)
  have hV1 := Lib.hid (hV.out.below hB1)
  obtain ⟨va, vc, rfl, -⟩ := hV.out.shape
  have hik : (i : Int) < (K : Int) := by omega
  clear hown HT
  go_wp2_with fail
  refine wp_region_rg_tail 10 (fun j => if j = 3 then some (fun v _ => v = .int .i64 K) else if j = 9 then some (fun v w' => Src w' v (u8s (partB bs i))) else none) fol (by kernel_rfl) (fun W hW hh => ?_)
  clear hh
  simp only [List.take_succ_cons, List.take_zero, List.drop_succ_cons, List.drop_zero]
  have r0 := rcell hW hcb1
  repeat ((first | refine lex_move _ (by first | exact Or.inl rfl | exact Or.inr rfl) rfl rfl ?_ | (refine lex_float ?_ rfl rfl (fun w1 hb1 hf1 => ?_) ?_; rotate_left; (go_simp; (try simp (disch := omega) only [IntWalk.i64_quo, IntWalk.rem_in, IntWalk.i64_in, IntWalk.u64_in, IntWalk.u32_in, IntWalk.u8_in, IntWalk.toNatUp, IntWalk.iteOmega]); (try go_simp); rfl)) | refine lex_skip rfl ?_); simp only [Act.put, Act.eval, Array.getD_eq_getD_getElem?, List.getElem?_toArray, List.getElem?_cons_zero, List.getElem?_cons_succ, Option.getD_some, List.setIfInBounds_toArray, List.set_cons_succ, List.set_cons_zero])
  refine lex_make _ rfl (by exact fun _ _ _ h _ => h) rfl (fun w1 hb1 hf1 => ?_) ?_
  · (unfold makes; go_simp; simp only [makesUpon])
    refine (hP.out _).mono ?_
    rintro e w' ⟨rfl, rfl⟩
    exact ⟨_, rfl, Below.refl _ _, rfl⟩
  rintro v1 W1 hb2 rfl
  simp only [Act.put, Act.eval, Array.getD_eq_getD_getElem?, List.getElem?_toArray, List.getElem?_cons_zero, List.getElem?_cons_succ, Option.getD_some, List.setIfInBounds_toArray, List.set_cons_succ, List.set_cons_zero]
  repeat ((first | refine lex_move _ (by first | exact Or.inl rfl | exact Or.inr rfl) rfl rfl ?_ | (refine lex_float ?_ rfl rfl (fun w1 hb1 hf1 => ?_) ?_; rotate_left; (go_simp; (try simp (disch := omega) only [IntWalk.i64_quo, IntWalk.rem_in, IntWalk.i64_in, IntWalk.u64_in, IntWalk.u32_in, IntWalk.u8_in, IntWalk.toNatUp, IntWalk.iteOmega]); (try go_simp); rfl)) | refine lex_skip rfl ?_); simp only [Act.put, Act.eval, Array.getD_eq_getD_getElem?, List.getElem?_toArray, List.getElem?_cons_zero, List.getElem?_cons_succ, Option.getD_some, List.setIfInBounds_toArray, List.set_cons_succ, List.set_cons_zero])
  refine lex_make _ rfl (by exact fun _ _ _ h hb => h.below hb) rfl (fun w1 hb1 hf1 => ?_) ?_
  · have hb1' := hb1
    (unfold makes; go_simp; simp only [makesUpon])
    refine (hPR.out _ (below_trans hW hb1')).mono ?_
    rintro e w' ⟨u2, rfl, hown2, hB⟩
    obtain ⟨xa, xc, rfl, -⟩ := owns_shape hown2
    exact ⟨_, rfl, hB, Src.of_owns hown2⟩
  rintro v2 W2 hb3 hs2
  obtain ⟨xa, xc, rfl, -⟩ := hs2.shape
  simp only [Act.put, Act.eval, Array.getD_eq_getD_getElem?, List.getElem?_toArray, List.getElem?_cons_zero, List.getElem?_cons_succ, Option.getD_some, List.setIfInBounds_toArray, List.set_cons_succ, List.set_cons_zero]
  repeat ((first | refine lex_move _ (by first | exact Or.inl rfl | exact Or.inr rfl) rfl rfl ?_ | (refine lex_float ?_ rfl rfl (fun w1 hb1 hf1 => ?_) ?_; rotate_left; (go_simp; (try simp (disch := omega) only [IntWalk.i64_quo, IntWalk.rem_in, IntWalk.i64_in, IntWalk.u64_in, IntWalk.u32_in, IntWalk.u8_in, IntWalk.toNatUp, IntWalk.iteOmega]); (try go_simp); rfl)) | refine lex_skip rfl ?_); simp only [Act.put, Act.eval, Array.getD_eq_getD_getElem?, List.getElem?_toArray, List.getElem?_cons_zero, List.getElem?_cons_succ, Option.getD_some, List.setIfInBounds_toArray, List.set_cons_succ, List.set_cons_zero])
  refine lex_nil ?_
  have hBW := below_trans hB1 (below_trans hW (below_trans hb2 hb3))
  have hc2 := below_cell (below_trans hW (below_trans hb2 hb3)) hcb1
  have heq := equal_any _ _ (partB bs i) (partB bs i) W2 (hV1.out.below (below_trans hW (below_trans hb2 hb3))) hs2 (by omega)
  rw [show decide (partB bs i = partB bs i) = true from decide_eq_true rfl] at heq
  have HEQ := Lib.hid heq
  clear heq hs2 r0
  go_wp2_with fail
  refine HEQ.out.mono ?_
  rintro e w8 ⟨rfl, hB8⟩
  go_wp2_with fail
  refine (must_true _).mono ?_
  rintro e w9 ⟨⟨t9, rfl⟩, rfl⟩
  have hBA := below_trans hBW hB8
  have hh8 := below_heap hBA HH.out
  have hc8 : w8.cell? ⟨Bh, 0, none⟩ = some (.int .i64 i) := by simp [World.cell?, hh8]
  have hf8 : w8.frozen? ⟨Bh, 0, none⟩ = false := by simp [World.frozen?, hh8]
  have hset := heap_cell (j := 0) hh8 (.int .i64 ((i : Int) + 1))
  have hX : Ext (· = Bh) w8 (w8.setCell ⟨Bh, 0, none⟩ (.int .i64 ((i : Int) + 1))) := Ext.setCell (S := (· = Bh)) (p := ⟨Bh, 0, none⟩) rfl _
  have HF := Lib.hid (And.intro hset hX)
  clear hset hX hh8
  go_wp2_with fail
  go_end0
  exact ⟨⟨_, rfl⟩, (Ext.of_below (S := (· = Bh)) hBA).trans HF.out.2 fun _ _ h => h, HF.out.1⟩
end Go.Proofs.YtbjofbhhnmehgaaGreatDoor.TT
namespace Go.Proofs.YtbjofbhhnmehgaaGreatDoor.TT
open Go.RowKit Go.RG Go.Hp Go.Proofs.YtbjofbhhnmehgaaGreatDoor


theorem und_fmap : Tryz.prog.underlying 155 = some (.map 5 154) := by kernel_rfl
theorem und_byte : Tryz.prog.underlying 5 = some (.int .u8) := by kernel_rfl
theorem zero_fn (w : World) : (zeroValue 154).run Tryz.prog w = .ok .nilFunc w := by kernel_rfl
structure FMap (w : World) (bm : Nat) (ks : List Int) (V : Int → Value) : Prop where
  some' : ∃ D, w.ownsMap Tryz.prog 5 asIs bm ks.length D ∧ Maps.size D = ks.length ∧ ks.Nodup ∧ (∀ i : Int, (Lit.int .u8 i).wf = true → D.atKey (.int .u8 i) (.held .nilFunc) = .held (V i) ∧ Maps.has D (.int .u8 i) = decide (i ∈ ks))
theorem FMap.keep {w w' : World} {bm : Nat} {ks : List Int} {V : Int → Value} (h : FMap w bm ks V) (hb : w'.heap[bm]? = w.heap[bm]?) : FMap w' bm ks V := by
  obtain ⟨D, ⟨es, clock, h1, h2⟩, h3⟩ := h.some'
  exact ⟨D, ⟨es, clock, hb.trans h1, h2⟩, h3⟩
theorem FMap.lt {w : World} {bm : Nat} {ks : List Int} {V : Int → Value} (h : FMap w bm ks V) : bm < w.heap.size := by
  obtain ⟨D, h1, -⟩ := h.some'
  exact h1.lt
theorem FMap.new {w : World} {g : Nat} (h : w.heap[g]? = some (.map #[] 0)) : FMap w g [] (fun _ => .nilFunc) := by
  obtain ⟨es, clock, hb, F, hs, hD⟩ := World.ownsMap_made w Tryz.prog 5 asIs
  rw [World.alloc_heap_new] at hb
  injection hb with hb
  injection hb with e1 e2
  subst e1 e2
  exact ⟨⟨.map [], ⟨#[], 0, h, F, Nat.le_refl _, rfl⟩, rfl, List.nodup_nil, fun i _ => ⟨rfl, by simp [Maps.has]⟩⟩⟩
theorem FMap.look {w : World} {bm : Nat} {ks : List Int} {V : Int → Value} (h : FMap w bm ks V) (i : Int) (hi : (Lit.int .u8 i).wf = true) :
    Sem.run Tryz.prog (Instr.lookup 155 (.map (some bm)) (.int .u8 i) false) w = .ok (V i) w := by
  obtain ⟨D, h1, -, -, h2⟩ := h.some'
  obtain ⟨v, ps, hr, hv⟩ := h1.lookup (Maps.int_keyed und_byte) und_fmap (zero_fn w) (show asIs .nilFunc = some (.held .nilFunc, []) from rfl) (Maps.keyOf_int_mk und_byte hi)
  rw [(h2 i hi).1] at hv
  rw [asIs_inv hv] at hr
  exact hr
theorem FMap.store {w : World} {bm : Nat} {ks : List Int} {V : Int → Value} (h : FMap w bm ks V) (hn : ks.length ≤ 65536) (i : Int) (hi : (Lit.int .u8 i).wf = true) (v : Value) :
    ∃ w', (Instr.mapUpdate 155 (.map (some bm)) (.int .u8 i) v).run Tryz.prog w = .ok () w' ∧ FMap w' bm (addK ks i) (setV V i v) ∧ Ext (· = bm) w w' := by
  obtain ⟨D, h1, h2, h3, h4⟩ := h.some'
  have K := Maps.int_keyed und_byte
  have hkey := Maps.keyOf_int_mk und_byte hi
  obtain ⟨w', r1, r2, r3⟩ := h1.update K und_fmap (by unfold maxLen; omega) hkey (show asIs v = some (.held v, []) from rfl)
  have ht := h1.tidy K
  have hsz := Maps.size_put ht (k := .int .u8 i) (.held v)
  rw [(h4 i hi).2, h2] at hsz
  have hlen : Maps.size (D.put (.int .u8 i) (.held v)) = (addK ks i).length := by
    rw [hsz]
    unfold addK
    by_cases hm : i ∈ ks
    · simp [hm]
    · simp [hm]
  refine ⟨w', r1, ⟨D.put (.int .u8 i) (.held v), by rw [← hlen]; exact owns_tight r2, hlen, ?_, fun j hj => ?_⟩, ⟨r3.os, r3.tape, r3.output, r3.size, fun j hj hne => r3.block j hj fun e => hne (by injection e)⟩⟩
  · unfold addK
    split
    · exact h3
    · rename_i hm; exact List.nodup_cons.2 ⟨hm, h3⟩
  · have hD := h1.isMap
    have hkl : WideAt.IsKeyLit (.int .u8 i) := by first | trivial | simp [WideAt.IsKeyLit]
    by_cases hji : j = i
    · subst hji
      exact ⟨by rw [Maps.atKey_put_same hD hkl]; simp [setV], by rw [Maps.has_put_same hD hkl]; simp [addK_mem]⟩
    · have hne : (Lit.int .u8 j) ≠ .int .u8 i := fun e => hji (by injection e)
      refine ⟨?_, ?_⟩
      · rw [Maps.atKey_put_other hne, (h4 j hj).1]; simp [setV, hji]
      · rw [Maps.has_put_other hne, (h4 j hj).2]
        simp [addK_mem, hji]
end Go.Proofs.YtbjofbhhnmehgaaGreatDoor.TT
namespace Go.Proofs.YtbjofbhhnmehgaaGreatDoor.TT
open Go.RowKit Go.RG Go.Hp Go.Proofs.YtbjofbhhnmehgaaGreatDoor


theorem catch_idle (a b c : Value) (w : World) : CallsD Tryz.prog 93 #[a, b, c] .returning w fun e u' w' => e = .returned (.tuple #[]) ∧ u' = .returning ∧ w' = w := by
  refine callsD_of_wpS Tryz.func93 rfl fun c₀ cs hu => ?_
  apply wpS_seq
  apply wpS_region
  simp [wpOpsS, go_sem, recoverD, hu, Tryz.ntmps93, Exit.thenS]
  apply wpS_seq
  apply wpS_region
  simp [wpOpsS, go_sem, recoverD, hu, Tryz.ntmps93, Exit.thenS, Act.eval, Array.replicate]
  refine wpS_cond (t := false) (by simp [Act.eval, Array.replicate]) ?_
  simp only [Bool.false_eq_true, if_false]
  refine wpS_of_wp (wp_skip ?_)
  cases c₀
  simp_all [bodyPostS, results, Tryz.results93]
/-- pairs behind batches -/
def allP (ps : List Pr) (css : List (List Chg)) : List Pr := css.foldl chgsP ps
theorem allP_succ {ps : List Pr} {css : List (List Chg)} {i : Nat} {cs : List Chg} (h : css[i]? = some cs) : allP ps (css.take (i + 1)) = chgsP (allP ps (css.take i)) cs := by
  unfold allP
  rw [List.take_add_one, h, List.foldl_append]
  rfl
/-- what a log of a table holds -/
def tblRecs (ps : List Pr) (css : List (List Chg)) (hv : Nat) : List (List Int) := ckRecs (textB ps) ++ (css.map recB ++ (List.range hv).map (partB (textB (allP ps css))))
theorem allocs5 (w : World) (o1 o2 o3 o4 o5 : Obj) : Below w.heap.size w (((((w.alloc o1).alloc o2).alloc o3).alloc o4).alloc o5) ∧ (((((w.alloc o1).alloc o2).alloc o3).alloc o4).alloc o5).heap[w.heap.size]? = some o1 ∧ (((((w.alloc o1).alloc o2).alloc o3).alloc o4).alloc o5).heap[w.heap.size + 1]? = some o2 ∧
    (((((w.alloc o1).alloc o2).alloc o3).alloc o4).alloc o5).heap[w.heap.size + 1 + 1]? = some o3 ∧ (((((w.alloc o1).alloc o2).alloc o3).alloc o4).alloc o5).heap[w.heap.size + 1 + 1 + 1]? = some o4 ∧ (((((w.alloc o1).alloc o2).alloc o3).alloc o4).alloc o5).heap[w.heap.size + 1 + 1 + 1 + 1]? = some o5 ∧
    (((((w.alloc o1).alloc o2).alloc o3).alloc o4).alloc o5).heap.size = w.heap.size + 5 := by
  obtain ⟨h0, h1, h2, h3⟩ := allocs3 w o1 o2 o3
  have hs : (((w.alloc o1).alloc o2).alloc o3).heap.size = w.heap.size + 1 + 1 + 1 := by simp
  generalize ((w.alloc o1).alloc o2).alloc o3 = W at *
  have b4 := below_box W o4
  have b5 := below_box (W.alloc o4) o5
  have s4 : (W.alloc o4).heap.size = w.heap.size + 1 + 1 + 1 + 1 := by simp [hs]
  have g4 := World.alloc_heap_new W o4
  have g5 := World.alloc_heap_new (W.alloc o4) o5
  rw [hs] at g4
  rw [s4] at g5
  have hb := below_trans b4 b5
  refine ⟨h0.trans (hb.mono h0.size), below_heap hb h1, below_heap hb h2, below_heap hb h3, below_heap b5 g4, g5, by simp [hs]⟩
/-- what holds when so many records are done -/
def RepI (w : World) (d l : Nat) (q : TBk) (T : TblS) (ps : List Pr) (css : List (List Chg)) (K : Nat) (V : Int → Value) (ks : List Int) (i : Nat) (wr : World) : Prop :=
  ∃ q7 : TBk, q7.t = q.t ∧ q7.m = q.m ∧ (∀ j, q7.all j → q.all j ∨ w.heap.size + 5 ≤ j) ∧ Ext q.all w wr ∧ TblAt wr d l q7 { T with ps := allP ps (css.take i), live := liveN (allP ps (css.take i)) } ∧ w.heap.size + 5 ≤ wr.heap.size ∧
    wr.heap[w.heap.size]? = some (.cells #[.pointer (some ⟨q.t, 0, none⟩)] 26 (0, 0)) ∧ wr.heap[w.heap.size + 1]? = some (.cells #[.int .i64 ((K + min i css.length : Nat) : Int)] 3 (0, 0)) ∧ wr.heap[w.heap.size + 1 + 1]? = some (.cells #[.int .i64 ((i - css.length : Nat) : Int)] 3 (0, 0)) ∧
    wr.heap[w.heap.size + 1 + 1 + 1]? = some (.cells #[.int .i64 0] 34 (0, 0)) ∧ FMap wr (w.heap.size + 1 + 1 + 1 + 1) ks V
theorem RepI.below {w wr wr' : World} {d l : Nat} {q : TBk} {T : TblS} {ps : List Pr} {css : List (List Chg)} {K : Nat} {V : Int → Value} {ks : List Int} {i : Nat} (h : RepI w d l q T ps css K V ks i wr) (hb : Below wr.heap.size wr wr') : RepI w d l q T ps css K V ks i wr' := by
  obtain ⟨q7, h1, h2, h3, h4, h5, h6, h7, h8, h9, h10, h11⟩ := h
  exact ⟨q7, h1, h2, h3, h4.trans (Ext.of_below (S := q.all) hb) fun _ _ h => h, h5.below hb, Nat.le_trans h6 hb.size, below_heap hb h7, below_heap hb h8, below_heap hb h9, below_heap hb h10, h11.keep (hb.block _ h11.lt)⟩
set_option maxHeartbeats 4000000 in
set_option maxRecDepth 100000 in
theorem replay_any (d l : Nat) (q : TBk) (T : TblS) (v : Value) (ps : List Pr) (css : List (List Chg)) (hv : Nat) (w : World) (h : TblAt w d l q T) (hT : T.ps = [] ∧ T.live = 0) (hcl : T.cap ≤ 1000000000) (hr : KRising (keysP ps))
    (hg : ∀ p ∈ ps, isBytes p.1 ∧ isBytes p.2 ∧ 0 < p.1.length ∧ p.1.length ≤ 64 ∧ p.2.length ≤ 1024)
    (hcs : ∀ cs ∈ css, cs ≠ [] ∧ cs.length ≤ 80 ∧ ∀ c ∈ cs, c.good = true ∧ isBytes c.key ∧ isBytes c.value ∧ c.value.length ≤ 1024)
    (hcap : ∀ i, i ≤ css.length → liveN (allP ps (css.take i)) ≤ T.cap) (hn : css.length + hv ≤ 1000000) (hh : hv ≤ partsN (liveN (allP ps css))) (hrecs : RecsAt w q.all v (tblRecs ps css hv)) (hvc : ∀ a n c, v = .slice a n c → n ≤ c) :
    Calls Tryz.prog 51 #[.pointer (some ⟨q.t, 0, none⟩), v] w fun e w' => e = .returned (.tuple #[.int .i64 ((partsN (liveN ps) + css.length : Nat) : Int), .int .i64 hv, .int .i64 0]) ∧ TPost w d l q { T with ps := allP ps css, live := liveN (allP ps css) } (keysP (allP ps css)) w' := by
  have hmf : ∀ (fn : Fn) (first cap : Array Value) (w : World), (Instr.makeFunc fn first cap).run Tryz.prog w = .ok (.func fn first cap) w := fun _ _ _ _ => rfl
  have hmm := @run_makeMap Tryz.prog
  obtain ⟨a, cap, rfl⟩ := hrecs.shape
  have hmc := hvc _ _ _ rfl
  clear hvc
  have hKp := partsN_pos (liveN ps)
  obtain ⟨ga, oa, rfl⟩ : ∃ g o, a = some ⟨g, o, none⟩ := by
    obtain ⟨a', cap', e, h⟩ := hrecs
    obtain ⟨g, o, u, e2, -⟩ := h 0 (partB (textB ps) 0) (by unfold tblRecs; rw [List.getElem?_append_left (by rw [ckRecs_length, textB_length]; omega)]; exact ckRecs_get (by rw [textB_length]; omega))
    injection e with e
    exact ⟨g, o, e.trans e2⟩
  have hlen : (tblRecs ps css hv).length = partsN (liveN ps) + (css.length + hv) := by
    unfold tblRecs
    simp only [List.length_append, List.length_map, List.length_range, ckRecs_length, textB_length]
  obtain ⟨m, hm⟩ : ∃ m, (tblRecs ps css hv).length = m := ⟨_, rfl⟩
  rw [hm] at hlen hmc ⊢
  obtain ⟨hb5, g0, g1, g2, g3, g4, hs5⟩ := allocs5 w (.cells #[.pointer (some ⟨q.t, 0, none⟩)] 26) (.cells #[.int .i64 0] 3) (.cells #[.int .i64 0] 3) (.cells #[.int .i64 0] 34) (.map #[] 0)
  obtain ⟨w5, hw5⟩ : ∃ w5, (((((w.alloc (.cells #[.pointer (some ⟨q.t, 0, none⟩)] 26)).alloc (.cells #[.int .i64 0] 3)).alloc (.cells #[.int .i64 0] 3)).alloc (.cells #[.int .i64 0] 34)).alloc (.map #[] 0)) = w5 := ⟨_, rfl⟩
  rw [hw5] at hb5 g0 g1 g2 g3 g4 hs5
  obtain ⟨Bt, hBt⟩ : ∃ B, w.heap.size = B := ⟨_, rfl⟩
  obtain ⟨f1, hf1⟩ : ∃ f, Value.func (.func 94) #[] #[.pointer (some ⟨w.heap.size + 1 + 1, 0, none⟩), .pointer (some ⟨w.heap.size, 0, none⟩)] = f := ⟨_, rfl⟩
  obtain ⟨f2, hf2⟩ : ∃ f, Value.func (.func 97) #[] #[.pointer (some ⟨w.heap.size, 0, none⟩), .pointer (some ⟨w.heap.size + 1 + 1, 0, none⟩)] = f := ⟨_, rfl⟩
  obtain ⟨w6, r1, hM6, hX6⟩ := (FMap.new g4).store (by decide) 1 (by decide) f1
  obtain ⟨w7, r2, hM7, hX7⟩ := hM6.store (by decide) 2 (by decide) f2
  have hX57 : Ext (· = w.heap.size + 1 + 1 + 1 + 1) w5 w7 := hX6.trans hX7 fun _ _ h => h
  have g0 := hX57.block _ (block_lt_of_heap g0) (by omega) |>.trans g0
  have g1 := hX57.block _ (block_lt_of_heap g1) (by omega) |>.trans g1
  have g2 := hX57.block _ (block_lt_of_heap g2) (by omega) |>.trans g2
  have g3 := hX57.block _ (block_lt_of_heap g3) (by omega) |>.trans g3
  have hb7 : Below w.heap.size w w7 := hb5.trans (hX57.to_belowAt hb5.size fun k hk e => by omega)
  have hs7 : w.heap.size + 5 ≤ w7.heap.size := by rw [← hs5]; exact hX57.size
  have HW := Lib.hid (And.intro hw5 (And.intro r1 r2))
  have HF := Lib.hid (And.intro hf1 hf2)
  have HG := Lib.hid (And.intro g0 (And.intro g1 (And.intro g2 (And.intro g3 (And.intro hb7 (And.intro hM7 hs7))))))
  have HT := Lib.hid (And.intro h (And.intro hT (And.intro hr (And.intro hg (And.intro hcs (And.intro hcap hh))))))
  clear hw5 r1 r2 hf1 hf2 hM6 hX6 hM7 hX7 hX57 g0 g1 g2 g3 g4 hb5 hb7 hs5 hs7 h hT hr hg hcs hcap hh hBt
  have Hlen := Lib.hid hlen
  clear hlen
  obtain ⟨K, hK⟩ : ∃ K, partsN (liveN ps) = K := ⟨_, rfl⟩
  have c0 : w7.cell? ⟨w.heap.size, 0, none⟩ = some (.pointer (some ⟨q.t, 0, none⟩)) := by simp [World.cell?, HG.out.1]
  have c1 : w7.cell? ⟨w.heap.size + 1, 0, none⟩ = some (.int .i64 0) := by simp [World.cell?, HG.out.2.1]
  have fr1 : ∀ j, w7.frozen? ⟨w.heap.size + 1, j, none⟩ = false := fun j => by simp [World.frozen?, HG.out.2.1]
  have hR7 := hrecs.below HG.out.2.2.2.2.1
  rw [hm] at hrecs
  have hkp := partsN_le (liveN ps)
  have hlv0 : liveN ps ≤ T.cap := HT.out.2.2.2.2.2.1 0 (Nat.zero_le _)
  have HLD := load_any d l q T (.slice (some ⟨ga, oa, none⟩) (tblRecs ps css hv).length cap) (textB ps) (css.map recB ++ (List.range hv).map (partB (textB (allP ps css)))) ps w7 (HT.out.1.below HG.out.2.2.2.2.1) HT.out.2.1 hR7 rfl HT.out.2.2.1 HT.out.2.2.2.1 (by omega) (by simp only [List.length_append, List.length_map, List.length_range]; omega)
  rw [textB_length, hK, hm] at HLD
  rw [hK] at hkp hKp
  have hKb : K ≤ 200000 := by omega
  have HLD := Lib.hid HLD
  have HK := Lib.hid hK
  have Hm := Lib.hid hm
  have HRS := Lib.hid hrecs
  clear hK hm hrecs hR7
  have hql := HT.out.1.lt
  go_enter_defers Tryz.func51, Tryz.ntmps51
  go_wp2_with fail
  rw [HW.out.1, HF.out.1, HW.out.2.1]
  go_wp2_with fail
  rw [HF.out.2, HW.out.2.2]
  go_wp2_with fail
  refine HLD.out.mono ?_
  rintro e w8 ⟨rfl, q1, ht1, hm1, ha1, hX1, hT1⟩
  have hnq : ∀ k, w.heap.size ≤ k → ¬ q.all k := fun k hk e => by have := hql k e; omega
  have hkeep8 : ∀ k o, w.heap.size ≤ k → w7.heap[k]? = some o → w8.heap[k]? = some o := fun k o hk ho => (hX1.block k (block_lt_of_heap ho) (hnq k hk)).trans ho
  have k0 := hkeep8 _ _ (by omega) HG.out.1
  have k1 := hkeep8 _ _ (by omega) HG.out.2.1
  have k2 := hkeep8 _ _ (by omega) HG.out.2.2.1
  have k3 := hkeep8 _ _ (by omega) HG.out.2.2.2.1
  have hM8 : FMap w8 (w.heap.size + 1 + 1 + 1 + 1) _ _ := HG.out.2.2.2.2.2.1.keep (hX1.block _ HG.out.2.2.2.2.2.1.lt (hnq _ (by omega)))
  have fr8 : ∀ j, w8.frozen? ⟨w.heap.size + 1, j, none⟩ = false := fun j => by simp [World.frozen?, k1]
  have cc1 : w8.cell? ⟨w.heap.size + 1, 0, none⟩ = some (.int .i64 0) := by simp [World.cell?, k1]
  have hset := heap_cell (j := 0) k1 (.int .i64 K)
  have hX9 : Ext (· = w.heap.size + 1) w8 (w8.setCell ⟨w.heap.size + 1, 0, none⟩ (.int .i64 K)) := Ext.setCell (S := (· = w.heap.size + 1)) (p := ⟨w.heap.size + 1, 0, none⟩) rfl _
  have H8 := Lib.hid (And.intro hset (And.intro hX9 hM8))
  clear c0 c1 fr1 hset hX9 hM8
  go_wp2_with fail
  generalize w8.setCell ⟨w.heap.size + 1, 0, none⟩ (.int .i64 K) = w9 at H8 ⊢
  clear fr8 cc1
  have hq1 : ∀ k, q1.all k → q.all k ∨ w.heap.size + 5 ≤ k := fun k hk => (ha1 k hk).imp id fun e => Nat.le_trans HG.out.2.2.2.2.2.2 e
  have hs8 : w.heap.size + 5 ≤ w8.heap.size := Nat.le_trans HG.out.2.2.2.2.2.2 hX1.size
  have h90 := (H8.out.2.1.block _ (block_lt_of_heap k0) (by omega)).trans k0
  have h92 := (H8.out.2.1.block _ (block_lt_of_heap k2) (by omega)).trans k2
  have h93 := (H8.out.2.1.block _ (block_lt_of_heap k3) (by omega)).trans k3
  have hT9 := hT1.ext H8.out.2.1 fun k hk e => by
    rcases hq1 k hk with h | h
    · have := hql k h; omega
    · omega
  have hX79 : Ext q.all w w9 := ((Ext.of_below (S := q.all) HG.out.2.2.2.2.1).trans hX1 fun _ _ h => h).trans H8.out.2.1 fun k hk e => by omega
  have hI9 : RepI w d l q T ps css K _ _ 0 w9 := ⟨q1, ht1, hm1, hq1, hX79, hT9, Nat.le_trans hs8 H8.out.2.1.size, h90, by rw [Nat.zero_min]; exact H8.out.1, by rw [Nat.zero_sub]; exact h92, h93, H8.out.2.2.keep (H8.out.2.1.block _ H8.out.2.2.lt (by omega))⟩
  have HI9 := Lib.hid hI9
  have c5 := hT9.cs.2.2.2.2.2.1
  have c2 := hT9.cs.2.2.1
  rw [ht1] at c5 c2
  simp only at c5 c2
  have c0 : w9.cell? ⟨w.heap.size, 0, none⟩ = some (.pointer (some ⟨q.t, 0, none⟩)) := by simp [World.cell?, h90]
  have c1 : w9.cell? ⟨w.heap.size + 1, 0, none⟩ = some (.int .i64 K) := by have := H8.out.1; simp [World.cell?, this]
  have hlc : ((liveN ps : Nat) : Int) ≤ (T.cap : Int) := by omega
  obtain ⟨lv, hlv⟩ : ∃ m, liveN ps = m := ⟨_, rfl⟩
  rw [hlv] at c5 hlc
  clear k0 k1 k2 k3 h90 h92 h93 hT9 hT1 hX1 hX79 hI9 hlv hq1 ha1 HLD H8 hlv0
  refine wp_region_rg_tail 9 (fun _ => none) fol (by kernel_rfl) (fun W hW hh => ?_)
  clear hh
  simp only [List.take_succ_cons, List.take_zero, List.drop_succ_cons, List.drop_zero]
  have r5 := rcell hW c5
  have r2 := rcell hW c2
  have r0 := rcell hW c0
  repeat ((first | refine lex_move _ (by first | exact Or.inl rfl | exact Or.inr rfl) rfl rfl ?_ | (refine lex_float ?_ rfl rfl (fun w1 hb1 hf1 => ?_) ?_; rotate_left; (go_simp; (try simp (disch := omega) only [IntWalk.i64_quo, IntWalk.rem_in, IntWalk.i64_in, IntWalk.u64_in, IntWalk.u32_in, IntWalk.u8_in, IntWalk.toNatUp, IntWalk.iteOmega]); (try go_simp); rfl)) | refine lex_skip rfl ?_); simp only [Act.put, Act.eval, Array.getD_eq_getD_getElem?, List.getElem?_toArray, List.getElem?_cons_zero, List.getElem?_cons_succ, Option.getD_some, List.setIfInBounds_toArray, List.set_cons_succ, List.set_cons_zero])
  refine lex_nil ?_
  clear r5 r2 r0
  go_wp2_with fail
  refine (must_true _).mono ?_
  rintro e w10 ⟨⟨t9, rfl⟩, rfl⟩
  have hI10 := HI9.out.below hW
  have c1 := below_cell hW c1
  have HI10 := Lib.hid hI10
  clear hI10 HI9 c0 c2 c5 hW
  obtain ⟨nb, hnb⟩ : ∃ n, css.length = n := ⟨_, rfl⟩
  obtain ⟨R, hR⟩ : ∃ r, nb + hv = r := ⟨_, rfl⟩
  have hmK : m = K + R := by rw [Hlen.out, HK.out, hnb, hR]
  have Hnb := Lib.hid hnb
  rw [hnb, hR] at hn
  have hRn := Lib.hid hR
  clear hnb hR
  by_cases hcK : cap = K
  · have hR0 : R = 0 := by omega
    subst hR0
    have hKm : (K : Int) ≤ (m : Int) := by omega
    have hKc : ¬ (cap : Int) < (K : Int) := by omega
    clear hmm hmf
    go_wp2_with fail
    go_loopw [32] (fun vi wr => ∃ i : Nat, vi = .int .i64 i ∧ i ≤ 0 ∧ RepI w d l q T ps css K (setV (setV (fun x => .nilFunc) 1 f1) 2 f2) (addK (addK [] 1) 2) i wr) (fun vi _ => 0)
    case atStart => exact ⟨0, rfl, Nat.zero_le _, HI10.out⟩
    case round =>
      obtain ⟨i, rfl, hi, hI⟩ := hrel
      obtain rfl : i = 0 := by omega
      have htk : css.take 0 = css := List.take_of_length_le (by rw [Hnb.out]; have := hRn.out; omega)
      obtain ⟨q7, e1, e2, e3, e4, e5, e6, e7, e8, e9, e10, e11⟩ := hI
      rw [Hnb.out] at e8 e9
      rw [htk] at e5
      have him : min 0 nb = nb := by have := hRn.out; omega
      have hih : 0 - nb = hv := by have := hRn.out; omega
      rw [him] at e8
      rw [hih] at e9
      have x8 : wr.cell? ⟨w.heap.size + 1, 0, none⟩ = some (.int .i64 ((K + nb : Nat) : Int)) := by simp [World.cell?, e8]
      have x9 : wr.cell? ⟨w.heap.size + 1 + 1, 0, none⟩ = some (.int .i64 hv) := by simp [World.cell?, e9]
      have HE := Lib.hid (And.intro e1 (And.intro e2 (And.intro e3 (And.intro e4 (And.intro e5 (And.intro e6 (And.intro e8 (And.intro e9 e10))))))))
      clear e1 e2 e3 e4 e5 e6 e7 e8 e9 e10 e11 him hih htk
      go_wp2_with fail
      refine wp_region_late 3 [1] (fun _ => none) (fun w' => w'.cell? ⟨w.heap.size + 1 + 1, 0, none⟩ = some (.int .i64 hv)) (fun _ w' => w'.heap[w.heap.size + 1]? = some (.cells #[.int .i64 ((K + nb : Nat) : Int)] 3 (0, 0)) ∧ Ext (· = w.heap.size + 1) wr w') fol (by kernel_rfl) (fun b1 _ hb w' h => below_cell (below_trans hb h) x9) (fun W2 hW2 hh => ?_)
      clear hh
      simp only [List.take_succ_cons, List.take_zero, List.drop_succ_cons, List.drop_zero]
      have r8 := rcell hW2 x8
      iterate 2 (first
        | (refine rl_move _ (by first | exact Or.inl rfl | exact Or.inr rfl) (by first | exact Or.inl rfl | exact Or.inr rfl) rfl ?_
           simp only [Act.put, Act.eval, Array.getD_eq_getD_getElem?, List.getElem?_toArray, List.getElem?_cons_zero, List.getElem?_cons_succ, Option.getD_some, List.setIfInBounds_toArray, List.set_cons_succ, List.set_cons_zero]
          )
        | (refine rl_small ?_ rfl rfl (fun w1 hb1 hf1 => ?_) ?_
           rotate_left
           (go_simp; (try simp (disch := omega) only [IntWalk.i64_quo, IntWalk.rem_in, IntWalk.i64_in, IntWalk.u64_in, IntWalk.u32_in, IntWalk.u8_in, IntWalk.toNatUp, IntWalk.iteOmega]); (try go_simp); rfl)
           simp only [Act.put, Act.eval, Array.getD_eq_getD_getElem?, List.getElem?_toArray, List.getElem?_cons_zero, List.getElem?_cons_succ, Option.getD_some, List.setIfInBounds_toArray, List.set_cons_succ, List.set_cons_zero]
          )
        | (refine rl_big ?_ rfl rfl (fun w1 hcb1 => ?_) ?_
           rotate_left
           ((try dsimp only at hcb1); go_simp; (try simp (disch := omega) only [IntWalk.i64_quo, IntWalk.rem_in, IntWalk.i64_in, IntWalk.u64_in, IntWalk.u32_in, IntWalk.u8_in, IntWalk.toNatUp, IntWalk.iteOmega]); (try go_simp); rfl)
           simp only [Act.put, Act.eval, Array.getD_eq_getD_getElem?, List.getElem?_toArray, List.getElem?_cons_zero, List.getElem?_cons_succ, Option.getD_some, List.setIfInBounds_toArray, List.set_cons_succ, List.set_cons_zero]
          ))
      have g8 := below_heap hW2 HE.out.2.2.2.2.2.2.1
      have gf8 : W2.frozen? ⟨w.heap.size + 1, 0, none⟩ = false := by simp [World.frozen?, g8]
      have gc8 : W2.cell? ⟨w.heap.size + 1, 0, none⟩ = some (.int .i64 ((K + nb : Nat) : Int)) := by simp [World.cell?, g8]
      refine rl_late _ rfl rfl ?_ ?_
      · have hset := heap_cell (j := 0) g8 (.int .i64 ((K + nb : Nat) : Int))
        have hXs : Ext (· = w.heap.size + 1) W2 (W2.setCell ⟨w.heap.size + 1, 0, none⟩ (.int .i64 ((K + nb : Nat) : Int))) := Ext.setCell (S := (· = w.heap.size + 1)) (p := ⟨w.heap.size + 1, 0, none⟩) rfl _
        have hc9 := hXs.cell_some (below_cell hW2 x9) (by simp)
        have HS := Lib.hid (And.intro hset (And.intro ((Ext.of_below (S := (· = w.heap.size + 1)) hW2).trans hXs fun _ _ h => h) hc9))
        clear hset hXs hc9
        (unfold makes; go_simp; simp only [makesUpon])
        have hcast : ((K : Int) + (nb : Int)) = ((K + nb : Nat) : Int) := by simp
        rw [hcast]
        exact ⟨HS.out.2.2, HS.out.1, HS.out.2.1⟩
      rintro v9 w9 hcb ⟨h1, h2⟩
      simp only [Act.put, Act.eval, Array.getD_eq_getD_getElem?, List.getElem?_toArray, List.getElem?_cons_zero, List.getElem?_cons_succ, Option.getD_some, List.setIfInBounds_toArray, List.set_cons_succ, List.set_cons_zero]
      refine rl_nil ?_
      have j9 := (h2.block _ (block_lt_of_heap HE.out.2.2.2.2.2.2.2.1) (by omega)).trans HE.out.2.2.2.2.2.2.2.1
      have j10 := (h2.block _ (block_lt_of_heap HE.out.2.2.2.2.2.2.2.2) (by omega)).trans HE.out.2.2.2.2.2.2.2.2
      have m9 : w9.cell? ⟨w.heap.size + 1 + 1, 0, none⟩ = some (.int .i64 hv) := by simp [World.cell?, j9]
      have m10 : w9.cell? ⟨w.heap.size + 1 + 1 + 1, 0, none⟩ = some (.int .i64 0) := by simp [World.cell?, j10]
      have n9 : w9.frozen? ⟨w.heap.size + 1 + 1, 0, none⟩ = false := by simp [World.frozen?, j9]
      have n10 : w9.frozen? ⟨w.heap.size + 1 + 1 + 1, 0, none⟩ = false := by simp [World.frozen?, j10]
      have hX2 : Ext (· = w.heap.size + 1 + 1) w9 (w9.setCell ⟨w.heap.size + 1 + 1, 0, none⟩ (.int .i64 hv)) := Ext.setCell (S := (· = w.heap.size + 1 + 1)) (p := ⟨w.heap.size + 1 + 1, 0, none⟩) rfl _
      have hX3 : Ext (· = w.heap.size + 1 + 1 + 1) (w9.setCell ⟨w.heap.size + 1 + 1, 0, none⟩ (.int .i64 hv)) ((w9.setCell ⟨w.heap.size + 1 + 1, 0, none⟩ (.int .i64 hv)).setCell ⟨w.heap.size + 1 + 1 + 1, 0, none⟩ (.int .i64 0)) := Ext.setCell (S := (· = w.heap.size + 1 + 1 + 1)) (p := ⟨w.heap.size + 1 + 1 + 1, 0, none⟩) rfl _
      have s9 := heap_cell (j := 0) j9 (.int .i64 hv)
      have s10 := heap_cell (j := 0) ((hX2.block _ (block_lt_of_heap j10) (by omega)).trans j10) (.int .i64 0)
      have s9' := (hX3.block _ (block_lt_of_heap s9) (by omega)).trans s9
      have s8' := (hX3.block _ (Nat.lt_of_lt_of_le (block_lt_of_heap h1) hX2.size) (by omega)).trans ((hX2.block _ (block_lt_of_heap h1) (by omega)).trans h1)
      have HS := Lib.hid (And.intro s8' (And.intro s9' (And.intro s10 (And.intro h2 (And.intro hX2 hX3)))))
      clear j9 j10 hX2 hX3 s9 s10 s9' s8' h1 h2 r8 g8 gf8 gc8 x8 x9 hcb
      go_wp2_with fail
      generalize w9.setCell ⟨w.heap.size + 1 + 1, 0, none⟩ (.int .i64 hv) = w10 at HS ⊢
      generalize w10.setCell ⟨w.heap.size + 1 + 1 + 1, 0, none⟩ (.int .i64 0) = w11 at HS ⊢
      clear m9 m10 n9 n10
      have v8 : w11.cell? ⟨w.heap.size + 1, 0, none⟩ = some (.int .i64 ((K + nb : Nat) : Int)) := by have := HS.out.1; simp [World.cell?, this]
      have v9 : w11.cell? ⟨w.heap.size + 1 + 1, 0, none⟩ = some (.int .i64 hv) := by have := HS.out.2.1; simp [World.cell?, this]
      have v10 : w11.cell? ⟨w.heap.size + 1 + 1 + 1, 0, none⟩ = some (.int .i64 0) := by have := HS.out.2.2.1; simp [World.cell?, this]
      have hXe : Ext (fun k => w.heap.size ≤ k ∧ k < w.heap.size + 5) wr w11 := ((HS.out.2.2.2.1.mono (S' := fun k => w.heap.size ≤ k ∧ k < w.heap.size + 5) fun k hk e => by omega).trans HS.out.2.2.2.2.1 fun k hk e => by omega).trans HS.out.2.2.2.2.2 fun k hk e => by omega
      have hXt := HE.out.2.2.2.1.trans hXe fun k hk e => by omega
      have hTt := HE.out.2.2.2.2.1.ext hXe fun k hk e => by
        rcases HE.out.2.2.1 k hk with h | h
        · exact hnq k e.1 h
        · omega
      have HFin := Lib.hid (show TPost w d l q { T with ps := allP ps css, live := liveN (allP ps css) } (keysP (allP ps css)) w11 from ⟨q7, HE.out.1, HE.out.2.1, fun j hj => (HE.out.2.2.1 j hj).imp id fun e => by omega, hXt, hTt⟩)
      clear hXe hXt hTt
      refine leaves_cons (f := 93) (args := #[.pointer (some ⟨w.heap.size + 1, 0, none⟩), .pointer (some ⟨w.heap.size + 1 + 1, 0, none⟩), .pointer (some ⟨w.heap.size + 1 + 1 + 1, 0, none⟩)]) (by simp) (by simp [go_sem]) ?_
      refine (catch_idle _ _ _ _).mono ?_
      rintro e u' w'' ⟨rfl, rfl, rfl⟩
      simp [Leaves, settle, results, Tryz.results51, go_sem, v8, v9, v10]
      exact ⟨by rw [HK.out, Hnb.out], HFin.out⟩
  · have hKm : (K : Int) ≤ (m : Int) := by omega
    have hKc : ¬ (cap : Int) < (K : Int) := by omega
    clear hmm hmf
    go_wp2_with fail
    go_loopw [32] (fun vi wr => ∃ i : Nat, vi = .int .i64 i ∧ i ≤ R ∧ RepI w d l q T ps css K (setV (setV (fun x => .nilFunc) 1 f1) 2 f2) (addK (addK [] 1) 2) i wr) (fun vi _ => R - (intOf vi).toNat)
    case atStart => exact ⟨0, rfl, Nat.zero_le _, HI10.out⟩
    case round =>
      obtain ⟨i, rfl, hi, hI⟩ := hrel
      by_cases hiR : i < R
      · have hiR' : (i : Int) < (R : Int) := by omega
        obtain ⟨q7, e1, e2, e3, e4, e5, e6, e7, e8, e9, e10, e11⟩ := hI
        rw [Hnb.out] at e8 e9
        by_cases hib : i < nb
        · obtain ⟨cs, hci⟩ : ∃ c, css[i]? = some c := ⟨_, List.getElem?_eq_getElem (by rw [Hnb.out]; exact hib)⟩
          have hrec : (tblRecs ps css hv)[K + i]? = some (recB cs) := by
            unfold tblRecs
            rw [List.getElem?_append_right (by rw [ckRecs_length, textB_length, HK.out]; omega), ckRecs_length, textB_length, HK.out, Nat.add_sub_cancel_left, List.getElem?_append_left (by rw [List.length_map, Hnb.out]; exact hib), List.getElem?_map, hci]
            rfl
          obtain ⟨a', cap', ev, hel⟩ := HRS.out
          obtain ⟨g', o', u, ea, ku, hsu, hgu, hbu⟩ := hel (K + i) _ hrec
          injection ev with ev1 _ ev3
          rw [← ev1] at ea
          injection ea with ea
          injection ea with ea1 ea2
          subst ea1 ea2
          have ku : wr.cell? ⟨ga, oa + K + i, none⟩ = some u := by rw [Nat.add_assoc]; exact e4.cell_some ku hgu
          have hsu := src_ext hsu e4 fun j hj => (hbu j hj).2
          obtain ⟨gu, ou, lu, cu, rfl, hlu, hcu⟩ : ∃ g o n c, u = .slice (some ⟨g, o, none⟩) n c ∧ 0 < n ∧ ∀ j y, (u8s (recB cs))[j]? = some y → wr.cell? ⟨g, o + j, none⟩ = some y := by
            rcases hsu with ⟨g, o, c, e, -, h2⟩ | ⟨-, e⟩
            · exact ⟨g, o, _, c, e, by rw [u8s_length]; exact recB_pos cs, h2⟩
            · exfalso
              have := congrArg List.length e
              rw [u8s_length] at this
              have hp : 0 < (recB cs).length := by exact recB_pos cs
              simp only [List.length_nil] at this
              omega
          clear hel ev1 ev3 hbu hgu
          have hcl0 : wr.cell? ⟨gu, ou, none⟩ = some (.int .u8 1) := by
            have := hcu 0 (.int .u8 1) rfl
            rwa [Nat.add_zero] at this
          have hlk : Sem.run Tryz.prog (Instr.lookup 155 (.map (some (w.heap.size + 1 + 1 + 1 + 1))) (.int .u8 1) false) wr = .ok (.func (.func 94) #[] #[.pointer (some ⟨w.heap.size + 1 + 1, 0, none⟩), .pointer (some ⟨w.heap.size, 0, none⟩)]) wr := by
            rw [HF.out.1]
            exact e11.look 1 (by decide)
          have hne : ∀ w', Sem.run Tryz.prog (binOp .neq 154 (.func (.func 94) #[] #[.pointer (some ⟨w.heap.size + 1 + 1, 0, none⟩), .pointer (some ⟨w.heap.size, 0, none⟩)]) .nilFunc) w' = .ok (.bool true) w' := fun _ => rfl
          obtain ⟨q0, q2, q3⟩ := HT.out.2.2.2.2.1 cs (List.mem_of_getElem? hci)
          have hsucc := allP_succ (ps := ps) hci
          have hcap1 := HT.out.2.2.2.2.2.1 i (by rw [Hnb.out]; omega)
          have hcap2 := HT.out.2.2.2.2.2.1 (i + 1) (by rw [Hnb.out]; omega)
          have hfree : ∀ k, w.heap.size ≤ k → k < w.heap.size + 5 → ¬ q7.all k := fun k hk hk2 e => by
            rcases e3 k e with h | h
            · exact hnq k hk h
            · omega
          have hi0 : i - nb = 0 := by omega
          have him : min i nb = i := by omega
          rw [hi0] at e9
          rw [him] at e8
          have cBh : wr.cell? ⟨w.heap.size + 1 + 1, 0, none⟩ = some (.int .i64 0) := by simp [World.cell?, e9]
          have cBt : wr.cell? ⟨w.heap.size, 0, none⟩ = some (.pointer (some ⟨q7.t, 0, none⟩)) := by rw [e1]; simp [World.cell?, e7]
          have HBK := Lib.hid (batchK_any d l q7 _ cs (.slice (some ⟨gu, ou, none⟩) lu cu) (w.heap.size + 1 + 1) w.heap.size wr e5 rfl (show liveN (allP ps (css.take i)) ≤ 1000000000 by omega) hsu q0 q2 q3 (show liveN (chgsP (allP ps (css.take i)) cs) ≤ T.cap by rw [← hsucc]; exact hcap2) hcl cBh cBt (hfree _ (Nat.le_refl _) (by omega)))
          have HE := Lib.hid (And.intro e1 (And.intro e2 (And.intro e3 (And.intro e4 (And.intro e6 (And.intro e7 (And.intro e8 (And.intro e9 (And.intro e10 (And.intro e11 hsucc))))))))))
          have hlu' : (0 : Int) < (lu : Int) := by omega
          have Hci := Lib.hid hci
          have h5' : ∀ j, wr.frozen? ⟨w.heap.size + 1, j, none⟩ = false := fun j => by simp [World.frozen?, e8]
          clear e1 e2 e3 e4 e5 e6 e7 e8 e9 e10 e11 hsucc hsu hcu hci hcap1 hcap2 q0 q2 q3 hrec hi0 him cBt
          go_wp2_with fail
          refine (must_true _).mono ?_
          rintro e w11 ⟨⟨t11, rfl⟩, rfl⟩
          go_wp2_with fail
          refine HBK.out.mono ?_
          rintro e w12 ⟨⟨t12, rfl⟩, q8, p1, p2, p3, p4, p5⟩
          have hk8 : ∀ k o, w.heap.size ≤ k → k < w.heap.size + 5 → wr.heap[k]? = some o → w12.heap[k]? = some o := fun k o h1 h2 ho => (p4.block k (block_lt_of_heap ho) (hfree k h1 h2)).trans ho
          have y7 := hk8 _ _ (by omega) (by omega) HE.out.2.2.2.2.2.1
          have y8 := hk8 _ _ (by omega) (by omega) HE.out.2.2.2.2.2.2.1
          have y9 := hk8 _ _ (by omega) (by omega) HE.out.2.2.2.2.2.2.2.1
          have y10 := hk8 _ _ (by omega) (by omega) HE.out.2.2.2.2.2.2.2.2.1
          have z9 : w12.cell? ⟨w.heap.size + 1 + 1, 0, none⟩ = some (.int .i64 0) := by simp [World.cell?, y9]
          have z8 : w12.cell? ⟨w.heap.size + 1, 0, none⟩ = some (.int .i64 ((K + i : Nat) : Int)) := by simp [World.cell?, y8]
          have zf : w12.frozen? ⟨w.heap.size + 1, 0, none⟩ = false := by simp [World.frozen?, y8]
          have hset := heap_cell (j := 0) y8 (.int .i64 ((K : Int) + (i : Int) + 1))
          have hXs : Ext (· = w.heap.size + 1) w12 (w12.setCell ⟨w.heap.size + 1, 0, none⟩ (.int .i64 ((K : Int) + (i : Int) + 1))) := Ext.setCell (S := (· = w.heap.size + 1)) (p := ⟨w.heap.size + 1, 0, none⟩) rfl _
          have HS := Lib.hid (And.intro hset (And.intro hXs (And.intro y7 (And.intro y9 (And.intro y10 (And.intro p1 (And.intro p2 (And.intro p3 (And.intro p4 p5)))))))))
          clear hset hXs y7 y8 y9 y10 p1 p2 p3 p4 p5
          go_wp2_with fail
          refine ⟨⟨i + 1, by simp, by omega, q8, HS.out.2.2.2.2.2.1.trans HE.out.1, HS.out.2.2.2.2.2.2.1.trans HE.out.2.1, fun j hj => ?_, ?_, ?_, ?_, ?_, ?_, ?_, ?_, ?_⟩, ?_⟩
          · rcases HS.out.2.2.2.2.2.2.2.1 j hj with h | h
            · exact HE.out.2.2.1 j h
            · have := HE.out.2.2.2.2.1; exact .inr (by omega)
          · exact (HE.out.2.2.2.1.trans HS.out.2.2.2.2.2.2.2.2.1 fun k hk h => (HE.out.2.2.1 k h).elim id fun h => by omega).trans HS.out.2.1 fun k hk h => by omega
          · have h5 := HS.out.2.2.2.2.2.2.2.2.2.ext HS.out.2.1 fun k hk h => by
              rcases HS.out.2.2.2.2.2.2.2.1 k hk with h1 | h1
              · exact hfree k (by omega) (by omega) h1
              · have := HE.out.2.2.2.2.1; omega
            rw [HE.out.2.2.2.2.2.2.2.2.2.2]
            exact h5
          · have h1 := HE.out.2.2.2.2.1
            have h2 := HS.out.2.2.2.2.2.2.2.2.1.size
            have h3 := HS.out.2.1.size
            omega
          · exact (HS.out.2.1.block _ (block_lt_of_heap HS.out.2.2.1) (by omega)).trans HS.out.2.2.1
          · rw [HS.out.1, show min (i + 1) css.length = i + 1 by rw [Hnb.out]; omega]
            simp
            omega
          · rw [show i + 1 - css.length = 0 by rw [Hnb.out]; omega]
            exact (HS.out.2.1.block _ (block_lt_of_heap HS.out.2.2.2.1) (by omega)).trans HS.out.2.2.2.1
          · exact (HS.out.2.1.block _ (block_lt_of_heap HS.out.2.2.2.2.1) (by omega)).trans HS.out.2.2.2.2.1
          · have hm1 := HE.out.2.2.2.2.2.2.2.2.2.1
            have hl1 := hm1.lt
            have hm2 := hm1.keep (HS.out.2.2.2.2.2.2.2.2.1.block _ hl1 (hfree _ (by omega) (by omega)))
            exact hm2.keep (HS.out.2.1.block _ hm2.lt (by omega))
          · show R - ((i : Int) + 1).toNat < R - (i : Int).toNat
            omega
        · obtain ⟨hq, hqd⟩ : ∃ h, i - nb = h := ⟨_, rfl⟩
          have hqv : hq < hv := by have := hRn.out; omega
          have htk : css.take i = css := List.take_of_length_le (by rw [Hnb.out]; omega)
          have hrec : (tblRecs ps css hv)[K + i]? = some (partB (textB (allP ps css)) hq) := by
            unfold tblRecs
            rw [List.getElem?_append_right (by rw [ckRecs_length, textB_length, HK.out]; omega), ckRecs_length, textB_length, HK.out, Nat.add_sub_cancel_left, List.getElem?_append_right (by rw [List.length_map, Hnb.out]; omega), List.length_map, Hnb.out, hqd, List.getElem?_map]
            simp [hqv]
          rw [htk] at e5
          have hcapA := HT.out.2.2.2.2.2.1 css.length (Nat.le_refl _)
          rw [List.take_length] at hcapA
          have hhp := HT.out.2.2.2.2.2.2
          have hplp := partB_len (textB (allP ps css)) hq (by have := partsN_le (liveN (allP ps css)); omega) (by rw [textB_length]; omega)
          obtain ⟨a', cap', ev, hel⟩ := HRS.out
          obtain ⟨g', o', u, ea, ku, hsu, hgu, hbu⟩ := hel (K + i) _ hrec
          injection ev with ev1 _ ev3
          rw [← ev1] at ea
          injection ea with ea
          injection ea with ea1 ea2
          subst ea1 ea2
          have ku : wr.cell? ⟨ga, oa + K + i, none⟩ = some u := by rw [Nat.add_assoc]; exact e4.cell_some ku hgu
          have hsu := src_ext hsu e4 fun j hj => (hbu j hj).2
          obtain ⟨gu, ou, lu, cu, rfl, hlu, hcu⟩ : ∃ g o n c, u = .slice (some ⟨g, o, none⟩) n c ∧ 0 < n ∧ ∀ j y, (u8s (partB (textB (allP ps css)) hq))[j]? = some y → wr.cell? ⟨g, o + j, none⟩ = some y := by
            rcases hsu with ⟨g, o, c, e, -, h2⟩ | ⟨-, e⟩
            · exact ⟨g, o, _, c, e, by rw [u8s_length]; omega, h2⟩
            · exfalso
              have := congrArg List.length e
              rw [u8s_length] at this
              have hp : 0 < (partB (textB (allP ps css)) hq).length := by omega
              simp only [List.length_nil] at this
              omega
          clear hel ev1 ev3 hbu hgu
          have hpb0 : ∃ l, partB (textB (allP ps css)) hq = 2 :: l := ⟨_, by rw [partB_split]; simp only [headB, List.cons_append]; rfl⟩
          have hcl0 : wr.cell? ⟨gu, ou, none⟩ = some (.int .u8 2) := by
            obtain ⟨l, hl⟩ := hpb0
            have := hcu 0 (.int .u8 2) (by rw [hl]; rfl)
            rwa [Nat.add_zero] at this
          have hlk : Sem.run Tryz.prog (Instr.lookup 155 (.map (some (w.heap.size + 1 + 1 + 1 + 1))) (.int .u8 2) false) wr = .ok (.func (.func 97) #[] #[.pointer (some ⟨w.heap.size, 0, none⟩), .pointer (some ⟨w.heap.size + 1 + 1, 0, none⟩)]) wr := by
            rw [HF.out.2]
            exact e11.look 2 (by decide)
          have hne : ∀ w', Sem.run Tryz.prog (binOp .neq 154 (.func (.func 97) #[] #[.pointer (some ⟨w.heap.size, 0, none⟩), .pointer (some ⟨w.heap.size + 1 + 1, 0, none⟩)]) .nilFunc) w' = .ok (.bool true) w' := fun _ => rfl
          have hfree : ∀ k, w.heap.size ≤ k → k < w.heap.size + 5 → ¬ q7.all k := fun k hk hk2 e => by
            rcases e3 k e with h | h
            · exact hnq k hk h
            · omega
          have him : min i nb = nb := by omega
          rw [him] at e8
          rw [hqd] at e9
          have cBt : wr.cell? ⟨w.heap.size, 0, none⟩ = some (.pointer (some ⟨q7.t, 0, none⟩)) := by rw [e1]; simp [World.cell?, e7]
          have HBK := Lib.hid (partK_any d l q7 _ hq (.slice (some ⟨gu, ou, none⟩) lu cu) w.heap.size (w.heap.size + 1 + 1) wr e5 rfl (show liveN (allP ps css) ≤ 1000000000 by omega) (show hq < partsN (liveN (allP ps css)) by omega) hsu e9 cBt)
          have HE := Lib.hid (And.intro e1 (And.intro e2 (And.intro e3 (And.intro e4 (And.intro e6 (And.intro e7 (And.intro e8 (And.intro e5 (And.intro e10 e11)))))))))
          have hlu' : (0 : Int) < (lu : Int) := by omega
          clear e1 e2 e3 e4 e5 e6 e7 e8 e9 e10 e11 hsu hcu hcapA hhp hrec him cBt htk hplp hpb0
          go_wp2_with fail
          refine (must_true _).mono ?_
          rintro e w11 ⟨⟨t11, rfl⟩, rfl⟩
          go_wp2_with fail
          refine HBK.out.mono ?_
          rintro e w12 ⟨⟨t12, rfl⟩, p4, p5⟩
          have z9 : w12.cell? ⟨w.heap.size + 1 + 1, 0, none⟩ = some (.int .i64 ((hq : Int) + 1)) := by simp [World.cell?, p5]
          have hqz : ((hq : Int) + 1 == 0) = false := by rw [beq_eq_false_iff_ne]; omega
          have HP := Lib.hid (And.intro p4 p5)
          clear p4 p5
          go_wp2_with fail
          have hk8 : ∀ k o, k ≠ w.heap.size + 1 + 1 → wr.heap[k]? = some o → w12.heap[k]? = some o := fun k o h1 ho => (HP.out.1.block k (block_lt_of_heap ho) h1).trans ho
          have htk2 : css.take (i + 1) = css := List.take_of_length_le (by rw [Hnb.out]; omega)
          refine ⟨⟨i + 1, by simp, by omega, q7, HE.out.1, HE.out.2.1, HE.out.2.2.1, ?_, ?_, ?_, ?_, ?_, ?_, ?_, ?_⟩, ?_⟩
          · exact HE.out.2.2.2.1.trans HP.out.1 fun k hk h => by omega
          · rw [htk2]
            exact HE.out.2.2.2.2.2.2.2.1.ext HP.out.1 fun k hk h => hfree k (by omega) (by omega) hk
          · exact Nat.le_trans HE.out.2.2.2.2.1 HP.out.1.size
          · exact hk8 _ _ (by omega) HE.out.2.2.2.2.2.1
          · rw [show min (i + 1) css.length = nb by rw [Hnb.out]; omega]
            exact hk8 _ _ (by omega) HE.out.2.2.2.2.2.2.1
          · rw [show i + 1 - css.length = hq + 1 by rw [Hnb.out]; omega]
            exact HP.out.2
          · exact hk8 _ _ (by omega) HE.out.2.2.2.2.2.2.2.2.1
          · exact HE.out.2.2.2.2.2.2.2.2.2.keep (HP.out.1.block _ HE.out.2.2.2.2.2.2.2.2.2.lt (by omega))
          · show R - ((i : Int) + 1).toNat < R - (i : Int).toNat
            omega
      · obtain rfl : i = R := by omega
        have hiR' : ¬ (i : Int) < (i : Int) := by omega
        have htk : css.take i = css := List.take_of_length_le (by rw [Hnb.out]; have := hRn.out; omega)
        obtain ⟨q7, e1, e2, e3, e4, e5, e6, e7, e8, e9, e10, e11⟩ := hI
        rw [Hnb.out] at e8 e9
        rw [htk] at e5
        have him : min i nb = nb := by have := hRn.out; omega
        have hih : i - nb = hv := by have := hRn.out; omega
        rw [him] at e8
        rw [hih] at e9
        have x8 : wr.cell? ⟨w.heap.size + 1, 0, none⟩ = some (.int .i64 ((K + nb : Nat) : Int)) := by simp [World.cell?, e8]
        have x9 : wr.cell? ⟨w.heap.size + 1 + 1, 0, none⟩ = some (.int .i64 hv) := by simp [World.cell?, e9]
        have HE := Lib.hid (And.intro e1 (And.intro e2 (And.intro e3 (And.intro e4 (And.intro e5 (And.intro e6 (And.intro e8 (And.intro e9 e10))))))))
        clear e1 e2 e3 e4 e5 e6 e7 e8 e9 e10 e11 him hih htk
        go_wp2_with fail
        refine wp_region_late 3 [1] (fun _ => none) (fun w' => w'.cell? ⟨w.heap.size + 1 + 1, 0, none⟩ = some (.int .i64 hv)) (fun _ w' => w'.heap[w.heap.size + 1]? = some (.cells #[.int .i64 ((K + nb : Nat) : Int)] 3 (0, 0)) ∧ Ext (· = w.heap.size + 1) wr w') fol (by kernel_rfl) (fun b1 _ hb w' h => below_cell (below_trans hb h) x9) (fun W2 hW2 hh => ?_)
        clear hh
        simp only [List.take_succ_cons, List.take_zero, List.drop_succ_cons, List.drop_zero]
        have r8 := rcell hW2 x8
        iterate 2 (first
          | (refine rl_move _ (by first | exact Or.inl rfl | exact Or.inr rfl) (by first | exact Or.inl rfl | exact Or.inr rfl) rfl ?_
             simp only [Act.put, Act.eval, Array.getD_eq_getD_getElem?, List.getElem?_toArray, List.getElem?_cons_zero, List.getElem?_cons_succ, Option.getD_some, List.setIfInBounds_toArray, List.set_cons_succ, List.set_cons_zero]
            )
          | (refine rl_small ?_ rfl rfl (fun w1 hb1 hf1 => ?_) ?_
             rotate_left
             (go_simp; (try simp (disch := omega) only [IntWalk.i64_quo, IntWalk.rem_in, IntWalk.i64_in, IntWalk.u64_in, IntWalk.u32_in, IntWalk.u8_in, IntWalk.toNatUp, IntWalk.iteOmega]); (try go_simp); rfl)
             simp only [Act.put, Act.eval, Array.getD_eq_getD_getElem?, List.getElem?_toArray, List.getElem?_cons_zero, List.getElem?_cons_succ, Option.getD_some, List.setIfInBounds_toArray, List.set_cons_succ, List.set_cons_zero]
            )
          | (refine rl_big ?_ rfl rfl (fun w1 hcb1 => ?_) ?_
             rotate_left
             ((try dsimp only at hcb1); go_simp; (try simp (disch := omega) only [IntWalk.i64_quo, IntWalk.rem_in, IntWalk.i64_in, IntWalk.u64_in, IntWalk.u32_in, IntWalk.u8_in, IntWalk.toNatUp, IntWalk.iteOmega]); (try go_simp); rfl)
             simp only [Act.put, Act.eval, Array.getD_eq_getD_getElem?, List.getElem?_toArray, List.getElem?_cons_zero, List.getElem?_cons_succ, Option.getD_some, List.setIfInBounds_toArray, List.set_cons_succ, List.set_cons_zero]
            ))
        have g8 := below_heap hW2 HE.out.2.2.2.2.2.2.1
        have gf8 : W2.frozen? ⟨w.heap.size + 1, 0, none⟩ = false := by simp [World.frozen?, g8]
        have gc8 : W2.cell? ⟨w.heap.size + 1, 0, none⟩ = some (.int .i64 ((K + nb : Nat) : Int)) := by simp [World.cell?, g8]
        refine rl_late _ rfl rfl ?_ ?_
        · have hset := heap_cell (j := 0) g8 (.int .i64 ((K + nb : Nat) : Int))
          have hXs : Ext (· = w.heap.size + 1) W2 (W2.setCell ⟨w.heap.size + 1, 0, none⟩ (.int .i64 ((K + nb : Nat) : Int))) := Ext.setCell (S := (· = w.heap.size + 1)) (p := ⟨w.heap.size + 1, 0, none⟩) rfl _
          have hc9 := hXs.cell_some (below_cell hW2 x9) (by simp)
          have HS := Lib.hid (And.intro hset (And.intro ((Ext.of_below (S := (· = w.heap.size + 1)) hW2).trans hXs fun _ _ h => h) hc9))
          clear hset hXs hc9
          (unfold makes; go_simp; simp only [makesUpon])
          have hcast : ((K : Int) + (nb : Int)) = ((K + nb : Nat) : Int) := by simp
          rw [hcast]
          exact ⟨HS.out.2.2, HS.out.1, HS.out.2.1⟩
        rintro v9 w9 hcb ⟨h1, h2⟩
        simp only [Act.put, Act.eval, Array.getD_eq_getD_getElem?, List.getElem?_toArray, List.getElem?_cons_zero, List.getElem?_cons_succ, Option.getD_some, List.setIfInBounds_toArray, List.set_cons_succ, List.set_cons_zero]
        refine rl_nil ?_
        have j9 := (h2.block _ (block_lt_of_heap HE.out.2.2.2.2.2.2.2.1) (by omega)).trans HE.out.2.2.2.2.2.2.2.1
        have j10 := (h2.block _ (block_lt_of_heap HE.out.2.2.2.2.2.2.2.2) (by omega)).trans HE.out.2.2.2.2.2.2.2.2
        have m9 : w9.cell? ⟨w.heap.size + 1 + 1, 0, none⟩ = some (.int .i64 hv) := by simp [World.cell?, j9]
        have m10 : w9.cell? ⟨w.heap.size + 1 + 1 + 1, 0, none⟩ = some (.int .i64 0) := by simp [World.cell?, j10]
        have n9 : w9.frozen? ⟨w.heap.size + 1 + 1, 0, none⟩ = false := by simp [World.frozen?, j9]
        have n10 : w9.frozen? ⟨w.heap.size + 1 + 1 + 1, 0, none⟩ = false := by simp [World.frozen?, j10]
        have hX2 : Ext (· = w.heap.size + 1 + 1) w9 (w9.setCell ⟨w.heap.size + 1 + 1, 0, none⟩ (.int .i64 hv)) := Ext.setCell (S := (· = w.heap.size + 1 + 1)) (p := ⟨w.heap.size + 1 + 1, 0, none⟩) rfl _
        have hX3 : Ext (· = w.heap.size + 1 + 1 + 1) (w9.setCell ⟨w.heap.size + 1 + 1, 0, none⟩ (.int .i64 hv)) ((w9.setCell ⟨w.heap.size + 1 + 1, 0, none⟩ (.int .i64 hv)).setCell ⟨w.heap.size + 1 + 1 + 1, 0, none⟩ (.int .i64 0)) := Ext.setCell (S := (· = w.heap.size + 1 + 1 + 1)) (p := ⟨w.heap.size + 1 + 1 + 1, 0, none⟩) rfl _
        have s9 := heap_cell (j := 0) j9 (.int .i64 hv)
        have s10 := heap_cell (j := 0) ((hX2.block _ (block_lt_of_heap j10) (by omega)).trans j10) (.int .i64 0)
        have s9' := (hX3.block _ (block_lt_of_heap s9) (by omega)).trans s9
        have s8' := (hX3.block _ (Nat.lt_of_lt_of_le (block_lt_of_heap h1) hX2.size) (by omega)).trans ((hX2.block _ (block_lt_of_heap h1) (by omega)).trans h1)
        have HS := Lib.hid (And.intro s8' (And.intro s9' (And.intro s10 (And.intro h2 (And.intro hX2 hX3)))))
        clear j9 j10 hX2 hX3 s9 s10 s9' s8' h1 h2 r8 g8 gf8 gc8 x8 x9 hcb
        go_wp2_with fail
        generalize w9.setCell ⟨w.heap.size + 1 + 1, 0, none⟩ (.int .i64 hv) = w10 at HS ⊢
        generalize w10.setCell ⟨w.heap.size + 1 + 1 + 1, 0, none⟩ (.int .i64 0) = w11 at HS ⊢
        clear m9 m10 n9 n10
        have v8 : w11.cell? ⟨w.heap.size + 1, 0, none⟩ = some (.int .i64 ((K + nb : Nat) : Int)) := by have := HS.out.1; simp [World.cell?, this]
        have v9 : w11.cell? ⟨w.heap.size + 1 + 1, 0, none⟩ = some (.int .i64 hv) := by have := HS.out.2.1; simp [World.cell?, this]
        have v10 : w11.cell? ⟨w.heap.size + 1 + 1 + 1, 0, none⟩ = some (.int .i64 0) := by have := HS.out.2.2.1; simp [World.cell?, this]
        have hXe : Ext (fun k => w.heap.size ≤ k ∧ k < w.heap.size + 5) wr w11 := ((HS.out.2.2.2.1.mono (S' := fun k => w.heap.size ≤ k ∧ k < w.heap.size + 5) fun k hk e => by omega).trans HS.out.2.2.2.2.1 fun k hk e => by omega).trans HS.out.2.2.2.2.2 fun k hk e => by omega
        have hXt := HE.out.2.2.2.1.trans hXe fun k hk e => by omega
        have hTt := HE.out.2.2.2.2.1.ext hXe fun k hk e => by
          rcases HE.out.2.2.1 k hk with h | h
          · exact hnq k e.1 h
          · omega
        have HFin := Lib.hid (show TPost w d l q { T with ps := allP ps css, live := liveN (allP ps css) } (keysP (allP ps css)) w11 from ⟨q7, HE.out.1, HE.out.2.1, fun j hj => (HE.out.2.2.1 j hj).imp id fun e => by omega, hXt, hTt⟩)
        clear hXe hXt hTt
        refine leaves_cons (f := 93) (args := #[.pointer (some ⟨w.heap.size + 1, 0, none⟩), .pointer (some ⟨w.heap.size + 1 + 1, 0, none⟩), .pointer (some ⟨w.heap.size + 1 + 1 + 1, 0, none⟩)]) (by simp) (by simp [go_sem]) ?_
        refine (catch_idle _ _ _ _).mono ?_
        rintro e u' w'' ⟨rfl, rfl, rfl⟩
        simp [Leaves, settle, results, Tryz.results51, go_sem, v8, v9, v10]
        exact ⟨by rw [HK.out, Hnb.out], HFin.out⟩
end Go.Proofs.YtbjofbhhnmehgaaGreatDoor.TT
