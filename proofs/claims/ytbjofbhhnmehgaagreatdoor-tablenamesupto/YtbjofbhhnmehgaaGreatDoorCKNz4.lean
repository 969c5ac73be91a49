/-
  seglog.Log: Trim.
-/
import Derived.Test.YtbjofbhhnmehgaaGreatDoorCKNz3
import Derived.Test.YtbjofbhhnmehgaaGreatDoorCKNz0
set_option linter.unusedSimpArgs false
set_option linter.unusedVariables false
namespace Go.Proofs.YtbjofbhhnmehgaaGreatDoor.TT
open Go.RowKit Go.RG Go.Hp Go.Proofs.YtbjofbhhnmehgaaGreatDoor


/-- a slice from an element on -/
def tailV (at' : Nat) : Value → Value
  | .slice a n c => sliced a at' n c 1
  | v => v
theorem tailV_src {w : World} {v : Value} {xs : List Value} (h : Src w v xs) (at' : Nat) (hat : at' ≤ xs.length) : Src w (tailV at' v) (xs.drop at') := by
  rcases h with ⟨g, o, c, rfl, hc, hr⟩ | ⟨rfl, rfl⟩
  · unfold tailV sliced
    have hl : (xs.drop at').length = xs.length - at' := List.length_drop
    by_cases h0 : c = at'
    · subst h0
      have : xs.length = c := by omega
      left
      refine ⟨g, o, 0, ?_, by rw [hl]; omega, fun j u hu => ?_⟩
      · rw [hl]; simp
      · have := (List.getElem?_eq_some_iff.1 hu).1
        omega
    · left
      refine ⟨g, o + at', c - at', ?_, by rw [hl]; omega, fun j u hu => ?_⟩
      · rw [hl]; simp [h0, Addr.add_lit]
      · rw [List.getElem?_drop] at hu
        rw [Nat.add_assoc]
        exact hr _ u hu
  · right
    have : at' = 0 := by simpa using hat
    subst this
    exact ⟨rfl, rfl⟩
theorem tail_run (ts te : TypeId) (ht : Tryz.prog.underlying ts = some (.slice (Tryz.prog.elem ts))) (hs : ∀ w, (sizeOf (Tryz.prog.elem ts)).run Tryz.prog w = .ok 1 w) {a : Option Addr} {n c : Nat} (at' : Nat) (hat : at' ≤ n) (w : World) :
    (Instr.sliceAt ts (.slice a n c) (some (.int .i64 at')) none none).run Tryz.prog w = .ok (tailV at' (.slice a n c)) w := by
  rw [run_sliceAt_slice _ _ _ _ _ _ ht, run_slice_l _ _ _ _ _ ht _ _ (by omega) (by omega), hs]
  rfl
theorem und_u64s' : Tryz.prog.underlying 101 = some (.slice (Tryz.prog.elem 101)) := by kernel_rfl
theorem size_u64s (w : World) : (sizeOf (Tryz.prog.elem 101)).run Tryz.prog w = .ok 1 w := by kernel_rfl
/-- one more slice of numbers is appended -/
theorem own_append_nums {w : World} {ops : Array Oper} {rest : List Oper} {o : Oper} {a : Act} {Q : Exit → Act → World → Prop} (hgd : o.guard = none) (s x : Operand)
    (ho : o.op = .call { callee := .builtin .append, args := #[s, x], argTypes := #[101, 101] })
    (base n : Nat) (v u : Value) (xs ys : List Value) (hs : a.eval s = v) (hown : w.ownsRow base 28 1 v n xs) (hx : a.eval x = u) (hy : Src w u ys) (h1 : ∀ u ∈ ys, u.oneCell' = true)
    (hb : n + ys.length ≤ 1073741824) (hbase : base ≤ w.heap.size)
    (h : ∀ v' w', w'.ownsRow base 28 1 v' (n + ys.length) (xs ++ ys) → Below base w w' → wpList Tryz.prog ops Q rest (a.put o.dst v') w') : wpList Tryz.prog ops Q (o :: rest) a w := by
  obtain ⟨i0, hi, hz0, hz1, hz2⟩ := info_parts info_u64
  have c1 : n + ys.length ≤ maxLen := by unfold maxLen; omega
  have c2 : (n + ys.length) * 8 ≤ 140737488355328 := by omega
  rcases hy with ⟨g, o, c, rfl, -, hy⟩ | ⟨rfl, rfl⟩
  · exact wpList_append_own w hgd s x 101 ho base 28 i0 (.int .u64 0) 1 8 und_u64s hi hz0 hz1 hz2 rfl (by decide) v n xs hs hown ⟨g, o, none⟩ ys.length c ys hx (by simp) (fun j u hu => by rw [Addr.add_lit]; exact hy j u hu) h1 c1 c2 hbase fun v' w' h2 h3 _ =>
      h v' w' h2 ((Below.refl _ w).mono hbase |>.grown h3 hbase (fun k hk => (hown.lt k hk).1))
  · exact wpList_append_own_none hgd s x 101 ho base 28 i0 1 und_u64s hi v n xs hs hown hx (h v w (by simpa using hown) ((Below.refl _ w).mono hbase))
set_option maxRecDepth 100000 in
theorem cloneN_any (v : Value) (xs : List Value) (w : World) (hx : Src w v xs) (h1 : ∀ u ∈ xs, u.oneCell' = true) (hn : xs.length ≤ 1073741824) :
    Calls Tryz.prog 128 #[v] w fun e w' => ∃ u, e = .returned u ∧ w'.ownsRow w.heap.size 28 1 u xs.length xs ∧ Below w.heap.size w w' := by
  rcases hx with ⟨g, o, c, rfl, hc, hr⟩ | ⟨rfl, rfl⟩
  · have he := fun w => Lib.run_eql_slice_nil (P := Tryz.prog) w 101 28 (some ⟨g, o, none⟩) xs.length c 0 0 und_u64s
    have hB0 := below_box w (.cells #[] 28)
    have Hx := Lib.hid (show Src w (.slice (some ⟨g, o, none⟩) xs.length c) xs from .inl ⟨g, o, c, rfl, hc, hr⟩)
    have H1 := Lib.hid h1
    have hs : w.heap.size ≤ (w.alloc (.cells #[] 28)).heap.size := by simp
    clear hr h1
    go_enter Tryz.func128, Tryz.ntmps128
    go_wp2_with (at_builtin; go_loud (refine own_append_nums rfl _ _ rfl w.heap.size 0 _ _ [] xs rfl (World.ownsRow_made w #[] 0 (Nat.le_refl _) (Nat.zero_le _) rfl) rfl (Hx.out.below hB0) H1.out (by omega) hs ?_; intro v2 w2 hown2 hg2; have Hg2 := Lib.hid hg2; have Hown2 := Lib.hid hown2; clear hown2 hg2))
    go_ret
    exact ⟨_, rfl, by simpa using Hown2.out, hB0.trans Hg2.out⟩
  · have he := fun w => Lib.run_eql_slice_nil (P := Tryz.prog) w 101 28 none 0 0 0 0 und_u64s
    go_enter Tryz.func128, Tryz.ntmps128
    go_wp2_with fail
    go_ret
    exact ⟨_, rfl, World.ownsRow_nil _ _ _ _, Below.refl _ _⟩
def trimH (L : LogS) (n : Nat) : Head := ⟨L.head.gen + 1, L.head.epoch, n, 0⟩
/-- what Trim leaves and tells -/
def trimR (x : Dsk) (first size : Nat) (L : LogS) (n : Nat) : Dsk × LogS × Int :=
  if L.fallen || x.off then (x, L.fall x.off, 5) else
  if n ≤ L.head.first then (x, L.fall x.off, 0) else
  if n ∉ L.starts ∧ n ≠ L.next then (x, L.fall x.off, 4) else
  if L.head.gen = 281474976710655 ∨ 281474976710655 < n then (x, L.fall x.off, 6) else
  if turnE x first size (L.fall x.off) (trimH L n) = 0 then
    (turnX x first size (L.fall x.off) (trimH L n), ⟨turnH (L.fall x.off) (trimH L n), L.next, L.starts.drop (posU L.starts n), L.epochs.drop (posU L.starts n), L.fallen || x.off⟩, 0)
  else (turnX x first size (L.fall x.off) (trimH L n), (L.fall x.off).fall true, 5)
theorem turnE_two (x : Dsk) (first size : Nat) (L : LogS) (h : Head) : turnE x first size L h = 0 ∨ turnE x first size L h = 5 := layE_two _ _ _
theorem turnN_le (x : Dsk) (first size : Nat) (L : LogS) (h : Head) (N : Nat) : turnN x first size L h N ≤ N + 1 := by
  unfold turnN layN; split <;> omega
theorem posU_le (l : List Nat) (x : Nat) : posU l x ≤ l.length := List.countP_le_length
theorem exec_sliceL {o : Oper} {a : Act} {w w' : World} (x l : Operand) (t : TypeId) (ho : o.op = .slice t x (some l) none none) {v : Value} (hr : (Instr.sliceAt t (a.eval x) (some (a.eval l)) none none).run Tryz.prog w = .ok v w') : (execOp a.eval o).run Tryz.prog w = .ok (.value v) w' := by
  simp only [execOp, ho, Option.map_some, Option.map_none, Sem.run_bind, hr, Result.andThen_ok, Sem.run_pure]
theorem SetsR.toBelow {w w' : World} (h : SetsR (fun _ _ _ => False) w w') : Below w.heap.size w w' := ⟨h.os, h.tape, h.output, h.size, fun k hk => (h.block k hk).elim id fun h => h.1.elim fun _ h => h.elim fun _ h => h.elim⟩
/-- the rows are others -/
theorem LSys.rows {wr w19 w20 : World} {b : Bks} {x : Dsk} {N first size : Nat} {k : LBk} {LL L' : LogS} {v8 v19 : Value} {m1 m2 : Nat} {l1 l2 : List Value} (h : LSys wr b x N first size k LL) (hr : Below wr.heap.size wr w19) (hX : Ext (· = k.l) w19 w20)
    (hS : w19.ownsRow wr.heap.size 28 1 v8 m1 l1) (hE : w19.ownsRow wr.heap.size 28 1 v19 m2 l2) (hne : ∀ j, v8.ownBlock = some j → v19.ownBlock ≠ some j)
    (hc : w20.heap[k.l]? = some (.cells (logCells b.d first size ⟨k.l, v8, v19⟩ L') 134 (0, 0))) (hs1 : L'.starts.length = m1) (he1 : L'.epochs.length = m2) (hs : nums L'.starts = l1) (he : nums L'.epochs = l2) : LPost wr b k x N first size L' w20 := by
  have hlt := h.log.lt
  have hbl := h.sys.dsk.lt
  have hkl := hlt k.l (.inl rfl)
  subst hs he hs1 he1
  have hXa : Ext k.all wr w20 := (Ext.of_below hr).trans hX fun j _ e => by subst e; exact .inl rfl
  have h8 : ∀ j, v8.ownBlock = some j → wr.heap.size ≤ j := fun j e => (hS.lt j e).1
  have h19 : ∀ j, v19.ownBlock = some j → wr.heap.size ≤ j := fun j e => (hE.lt j e).1
  have h8l : v8.ownBlock ≠ some k.l := fun e => by have := h8 _ e; omega
  have h19l : v19.ownBlock ≠ some k.l := fun e => by have := h19 _ e; omega
  have hall : ∀ j, (⟨k.l, v8, v19⟩ : LBk).all j → k.all j ∨ wr.heap.size ≤ j := by
    rintro j (rfl | e | e)
    · exact .inl (.inl rfl)
    · exact .inr (h8 j e)
    · exact .inr (h19 j e)
  refine ⟨b, ⟨k.l, v8, v19⟩, rfl, rfl, fun j hj => ?_, hXa.mono fun j _ e => .inr e, ?_, ?_, fun j hj hb => ?_, h.big, h.fit⟩
  · rcases hj with hj | hj
    · exact .inl (.inl hj)
    · exact (hall j hj).imp .inr id
  · exact h.sys.ext hXa fun j hj => ⟨h.log.far j hj, h.apart j hj⟩
  · refine ⟨hc, ?_, ?_, h8l, h19l, hne, fun j hj => ?_⟩
    · exact owns_base (owns_ext hS hX fun j e e2 => h8l (by rw [← e2]; exact e)) fun _ _ => Nat.zero_le _
    · exact owns_base (owns_ext hE hX fun j e e2 => h19l (by rw [← e2]; exact e)) fun _ _ => Nat.zero_le _
    · rcases hall j hj with h1 | h1
      · exact h.log.far j h1
      · exact Nat.le_trans h.sys.pkg.lt h1
  · rcases hall j hj with h1 | h1
    · exact h.apart j h1 hb
    · have := hbl j hb; omega
set_option maxHeartbeats 4000000 in
set_option maxRecDepth 100000 in
theorem trim_any (b : Bks) (x : Dsk) (N first size : Nat) (k : LBk) (L : LogS) (n : Nat) (hn : n ≤ 9223372036854775807) (w : World) (h : LSys w b x N first size k L) (hN : N ≤ 1099511627775) (ho : L.ok size) :
    Calls Tryz.prog 101 #[.pointer (some ⟨k.l, 0, none⟩), .int .u64 n] w fun e w' => e = .returned (.int .i64 (trimR x first size L n).2.2) ∧ LPost w b k (trimR x first size L n).1 (N + 1) first size (trimR x first size L n).2.1 w' := by
  have HR := Lib.hid (lready_any b x N first size k L w h)
  clear h
  go_enter Tryz.func101, Tryz.ntmps101
  go_wp2_with fail
  refine HR.out.mono ?_
  rintro e w1 ⟨rfl, b1, k1, hd1, hl1, ha1, hX1, hS1⟩
  cases hf : (L.fallen || x.off)
  · have hcs := hS1.log.cs
    rw [hl1, hd1] at hcs
    obtain ⟨y0, y1, y2, y3, y4, y5, y6, y7, y8, y9, -, -⟩ := hcs
    obtain ⟨LL, hLL⟩ : ∃ LL, L.fall x.off = LL := ⟨_, rfl⟩
    have hLp : LL.head = L.head ∧ LL.next = L.next ∧ LL.starts = L.starts ∧ LL.epochs = L.epochs := by rw [← hLL]; exact ⟨rfl, rfl, rfl, rfl⟩
    have hrr : trimR x first size L n = if n ≤ L.head.first then (x, LL, 0) else
      if n ∉ L.starts ∧ n ≠ L.next then (x, LL, 4) else
      if L.head.gen = 281474976710655 ∨ 281474976710655 < n then (x, LL, 6) else
      if turnE x first size LL (trimH L n) = 0 then
        (turnX x first size LL (trimH L n), ⟨turnH LL (trimH L n), L.next, L.starts.drop (posU L.starts n), L.epochs.drop (posU L.starts n), L.fallen || x.off⟩, 0)
      else (turnX x first size LL (trimH L n), LL.fall true, 5) := by unfold trimR; rw [if_neg (by rw [hf]; decide), hLL]
    rw [hLL] at hS1 y3 y4 y5 y6 y7
    rw [hLp.1] at y3 y4 y5 y6
    rw [hLp.2.1] at y7
    have HL := Lib.hid hLp
    have Hrr := Lib.hid hrr
    have HS1 := Lib.hid (And.intro hS1 (And.intro ha1 hX1))
    have HLL := Lib.hid hLL
    have Hf := Lib.hid hf
    clear hf hS1 ha1 hX1 hrr hLp hLL HR
    by_cases c1 : n ≤ L.head.first
    · have Hr2 := Lib.hid (Hrr.out.trans (if_pos c1))
      have c1' : (n : Int) ≤ (L.head.first : Int) := by omega
      clear c1 y0 y1 y2 y3 y4 y6 y7 y8 y9
      go_wp2_with fail
      go_ret
      rw [Hr2.out]
      exact ⟨rfl, b1, k1, hd1, hl1, HS1.out.2.1, HS1.out.2.2, HS1.out.1.mono (by omega)⟩
    · have Hr2 := Lib.hid (Hrr.out.trans (if_neg c1))
      have c1' : ¬ (n : Int) ≤ (L.head.first : Int) := by omega
      obtain ⟨sa, sc, hks, -⟩ := owns_shape HS1.out.1.log.starts
      obtain ⟨ea, ec, hke, -⟩ := owns_shape HS1.out.1.log.epochs
      rw [hks] at y8
      rw [hke] at y9
      have HBS := Lib.hid (search_any k1.s LL.starts (by rw [HL.out.2.2.1]; exact ho.rise) n w1 (Src.of_owns HS1.out.1.log.starts) (by rw [HL.out.2.2.1]; have := ho.short; omega))
      rw [hks] at HBS
      have Hks := Lib.hid (And.intro hks hke)
      clear c1 hks hke Hrr
      go_wp2_with fail
      refine HBS.out.mono ?_
      rintro e w2 ⟨rfl, hB2⟩
      have HS2 := Lib.hid (HS1.out.1.below hB2)
      have HB2 := Lib.hid hB2
      replace y0 := below_cell hB2 y0
      replace y1 := below_cell hB2 y1
      replace y2 := below_cell hB2 y2
      replace y3 := below_cell hB2 y3
      replace y4 := below_cell hB2 y4
      replace y5 := below_cell hB2 y5
      replace y7 := below_cell hB2 y7
      replace y8 := below_cell hB2 y8
      replace y9 := below_cell hB2 y9
      clear hB2 HBS
      rw [HL.out.2.2.1]
      by_cases hin : n ∈ L.starts
      · have Hr3 := Lib.hid (Hr2.out.trans (if_neg fun h => h.1 hin))
        rw [decide_eq_true hin]
        clear hin Hr2
        by_cases c3 : L.head.gen = 281474976710655
        · have Hr4 := Lib.hid (Hr3.out.trans (if_pos (.inl c3)))
          have c3' : ((L.head.gen : Int) == 281474976710655) = true := by rw [c3]; rfl
          clear c3 y0 y1 y2 y4 y5 y8 y9
          go_wp2_with fail
          go_ret
          rw [Hr4.out]
          exact ⟨rfl, .mono (.trans hd1 hl1 HS1.out.2.1 HS1.out.2.2 (.same HS1.out.1 HB2.out)) (by omega)⟩
        · have c3' : ((L.head.gen : Int) == 281474976710655) = false := by rw [beq_eq_false_iff_ne]; omega
          by_cases c4 : 281474976710655 < n
          · have Hr4 := Lib.hid (Hr3.out.trans (if_pos (.inr c4)))
            have c4' : (281474976710655 : Int) < (n : Int) := by omega
            clear c3 c4 y0 y1 y2 y4 y5 y8 y9
            go_wp2_with fail
            go_ret
            rw [Hr4.out]
            exact ⟨rfl, .mono (.trans hd1 hl1 HS1.out.2.1 HS1.out.2.2 (.same HS1.out.1 HB2.out)) (by omega)⟩
          · have Hr4 := Lib.hid (Hr3.out.trans (if_neg fun h => h.elim c3 c4))
            have c4' : ¬ (281474976710655 : Int) < (n : Int) := by omega
            have hgl := ho.gen
            have hel := ho.epoch
            have eg := IntWalk.u64_in ((L.head.gen : Int) + 1) (by omega)
            go_wp2_with fail
            refine wp_region_rg_tail 14 (fun _ => none) fol (by kernel_rfl) (fun W hW hh => ?_)
            clear hh
            have q3 := rcell hW y3
            have q4 := rcell hW y4
            simp only [List.take_succ_cons, List.take_zero, List.drop_succ_cons, List.drop_zero]
            repeat ((first | refine lex_move _ (by first | exact Or.inl rfl | exact Or.inr rfl) rfl rfl ?_ | (refine lex_float ?_ rfl rfl (fun w1 hb1 hf1 => ?_) ?_; rotate_left; (go_simp; (try simp (disch := omega) only [IntWalk.i64_quo, IntWalk.rem_in, IntWalk.i64_in, IntWalk.u64_in, IntWalk.u32_in, IntWalk.u8_in, IntWalk.toNatUp, IntWalk.iteOmega]); (try go_simp); rfl)) | refine lex_skip rfl ?_); simp only [Act.put, Act.eval, Array.getD_eq_getD_getElem?, List.getElem?_toArray, List.getElem?_cons_zero, List.getElem?_cons_succ, Option.getD_some, List.setIfInBounds_toArray, List.set_cons_succ, List.set_cons_zero])
            refine lex_nil ?_
            clear q3 q4 y0 y1 y2 y3 y4 y5 y7 y8 y9
            have HT := Lib.hid (turn_any b1 x N first size k1 LL (trimH L n) W (HS2.out.below hW) hN (by show L.head.gen + 1 < _; omega) hel (by show n ≤ _; omega) (by rw [HL.out.2.2.1]; exact ho.rise) (by rw [HL.out.2.2.1, HL.out.2.2.2]; exact ho.len) (by rw [HL.out.2.2.1]; exact ho.short) (by rw [HL.out.2.2.2]; exact fun m hm => Nat.lt_of_le_of_lt (ho.ep m hm) hel))
            unfold headV at HT
            simp only [trimH] at HT
            rw [hl1, show ((L.head.gen + 1 : Nat) : Int) = (L.head.gen : Int) + 1 by omega] at HT
            have HBW := Lib.hid (below_trans HB2.out hW)
            go_wp2_with fail
            refine HT.out.mono ?_
            rintro e w3 ⟨rfl, hP⟩
            obtain ⟨b3, k3, hd3, hl3, ha3, hX3, hS3⟩ := LPost.trans hd1 hl1 HS1.out.2.1 HS1.out.2.2 (.of_below HBW.out (hP.mono (turnN_le _ _ _ _ _ _)))
            have HS3 := Lib.hid (And.intro hS3 (And.intro ha3 hX3))
            rcases turnE_two x first size LL ⟨L.head.gen + 1, L.head.epoch, n, 0⟩ with hE | hE
            · rw [hE]
              have hr5 := Hr4.out.trans (if_pos (show turnE x first size LL (trimH L n) = 0 from hE))
              have htl : turnL x first size LL ⟨L.head.gen + 1, L.head.epoch, n, 0⟩ = { LL with head := turnH LL ⟨L.head.gen + 1, L.head.epoch, n, 0⟩ } := by unfold turnL; rw [if_pos hE]
              have Hr5 := Lib.hid hr5
              rw [htl] at hS3 HS3
              have hcs := hS3.log.cs
              rw [hl3] at hcs
              obtain ⟨y0, -, -, -, -, -, -, -, y8, y9, -, -⟩ := hcs
              obtain ⟨za, zc, hzs, -⟩ := owns_shape hS3.log.starts
              obtain ⟨ya, yc, hze, -⟩ := owns_shape hS3.log.epochs
              have hls : ({ LL with head := turnH LL ⟨L.head.gen + 1, L.head.epoch, n, 0⟩ } : LogS).starts = L.starts := HL.out.2.2.1
              have hle : ({ LL with head := turnH LL ⟨L.head.gen + 1, L.head.epoch, n, 0⟩ } : LogS).epochs = L.epochs := HL.out.2.2.2
              rw [hls] at hzs
              rw [hle] at hze
              rw [hzs] at y8
              rw [hze] at y9
              have hpl := posU_le L.starts n
              have hpe : posU L.starts n ≤ L.epochs.length := by rw [ho.len]; exact hpl
              have hshort := ho.short
              have hlen : L.epochs.length ≤ 65536 := by rw [ho.len]; exact hshort
              have Hz := Lib.hid (And.intro hzs hze)
              obtain ⟨p, hp⟩ : ∃ p, posU L.starts n = p := ⟨_, rfl⟩
              have hsS := Src.of_owns hS3.log.starts
              have hsE := Src.of_owns hS3.log.epochs
              rw [hls, hzs] at hsS
              rw [hle, hze] at hsE
              rw [hp] at hpl hpe Hr5 ⊢
              have HCS := Lib.hid fun w' (hw : Below w3.heap.size w3 w') => cloneN_any (tailV p (.slice za L.starts.length zc)) ((nums L.starts).drop p) w' (tailV_src (hsS.below hw) p (by rw [nums_length]; exact hpl)) (fun u hu => nums_one _ u (List.mem_of_mem_drop hu)) (by rw [List.length_drop, nums_length]; omega)
              have HCE := Lib.hid fun w' (hw : Below w3.heap.size w3 w') => cloneN_any (tailV p (.slice ya L.epochs.length yc)) ((nums L.epochs).drop p) w' (tailV_src (hsE.below hw) p (by rw [nums_length]; exact hpe)) (fun u hu => nums_one _ u (List.mem_of_mem_drop hu)) (by rw [List.length_drop, nums_length]; omega)
              have Hp := Lib.hid (And.intro hp (And.intro hls hle))
              clear hS3 ha3 hX3 hP hr5 hE htl hzs hze hls hle hsS hsE hp
              go_wp2_with fail
              refine wp_region_latex (growS fun _ _ _ => False) 19 [1] (fun i => if i = 8 then some (fun _ v w' => w'.ownsRow w3.heap.size 28 1 v (L.starts.length - p) ((nums L.starts).drop p)) else if i = 15 then some (fun sn v w' => w'.ownsRow w3.heap.size 28 1 v (L.epochs.length - p) ((nums L.epochs).drop p) ∧ ∀ j, (sn 78).ownBlock = some j → v.ownBlock ≠ some j) else none) (fun _ => True) (fun _ _ => True) fol (by kernel_rfl) (fun _ _ _ _ _ => trivial) (fun W hW hh => ?_)
              clear hh
              have q8 := gcell (S := fun _ _ _ => False) (below_cell hW y8) (fun _ _ h => h)
              have q9 := gcell (S := fun _ _ _ => False) (below_cell hW y9) (fun _ _ h => h)
              have hsz3 := hW.size
              simp only [List.take_succ_cons, List.take_zero, List.drop_succ_cons, List.drop_zero]
              iterate 7 (first
                | (refine rx_move _ (by first | exact Or.inl rfl | exact Or.inr rfl) (by first | exact Or.inl rfl | exact Or.inr rfl) rfl ?_
                   simp only [Act.put, Act.eval, Array.getD_eq_getD_getElem?, List.getElem?_toArray, List.getElem?_cons_zero, List.getElem?_cons_succ, Option.getD_some, List.setIfInBounds_toArray, List.set_cons_succ, List.set_cons_zero]
                  )
                | (refine rx_small ?_ rfl rfl (fun w1 hb1 hf1 => ?_) ?_
                   rotate_left
                   (go_simp; rfl)
                   simp only [Act.put, Act.eval, Array.getD_eq_getD_getElem?, List.getElem?_toArray, List.getElem?_cons_zero, List.getElem?_cons_succ, Option.getD_some, List.setIfInBounds_toArray, List.set_cons_succ, List.set_cons_zero]
                  ))
              refine rx_small (tailV p (.slice za L.starts.length zc)) rfl rfl (fun w1 hb1 hf1 => exec_sliceL (.tmp 75) (.tmp 76) 101 rfl (tail_run 101 28 und_u64s' size_u64s p hpl w1)) ?_
              simp only [Act.put, Act.eval, Array.getD_eq_getD_getElem?, List.getElem?_toArray, List.getElem?_cons_zero, List.getElem?_cons_succ, Option.getD_some, List.setIfInBounds_toArray, List.set_cons_succ, List.set_cons_zero]
              refine rx_make _ rfl (fun v w1 w2 h hr => owns_below h (SetsR.toBelow hr)) rfl (fun w1 hr1 hf1 => ?_) (fun v8 w8 hr8 hS8 => ?_)
              · have hB1 := SetsR.toBelow hr1
                clear q8 q9
                (unfold makes; go_simp; simp only [makesUpon])
                have hsz1 := Nat.le_trans hsz3 hB1.size
                refine (HCS.out w1 (below_trans hW hB1)).mono ?_
                rintro e w' ⟨u, rfl, hown, hbb⟩
                rw [List.length_drop, nums_length] at hown
                exact ⟨u, rfl, SetsR.of_below hbb, owns_base hown fun j hj => Nat.le_trans hsz1 (hown.lt j hj).1⟩
              simp only [Act.put, Act.eval, Array.getD_eq_getD_getElem?, List.getElem?_toArray, List.getElem?_cons_zero, List.getElem?_cons_succ, Option.getD_some, List.setIfInBounds_toArray, List.set_cons_succ, List.set_cons_zero]
              iterate 5 (first
                | (refine rx_move _ (by first | exact Or.inl rfl | exact Or.inr rfl) (by first | exact Or.inl rfl | exact Or.inr rfl) rfl ?_
                   simp only [Act.put, Act.eval, Array.getD_eq_getD_getElem?, List.getElem?_toArray, List.getElem?_cons_zero, List.getElem?_cons_succ, Option.getD_some, List.setIfInBounds_toArray, List.set_cons_succ, List.set_cons_zero]
                  )
                | (refine rx_small ?_ rfl rfl (fun w1 hb1 hf1 => ?_) ?_
                   rotate_left
                   (go_simp; rfl)
                   simp only [Act.put, Act.eval, Array.getD_eq_getD_getElem?, List.getElem?_toArray, List.getElem?_cons_zero, List.getElem?_cons_succ, Option.getD_some, List.setIfInBounds_toArray, List.set_cons_succ, List.set_cons_zero]
                  ))
              refine rx_small (tailV p (.slice ya L.epochs.length yc)) rfl rfl (fun w1 hb1 hf1 => exec_sliceL (.tmp 82) (.tmp 83) 101 rfl (tail_run 101 28 und_u64s' size_u64s p hpe w1)) ?_
              simp only [Act.put, Act.eval, Array.getD_eq_getD_getElem?, List.getElem?_toArray, List.getElem?_cons_zero, List.getElem?_cons_succ, Option.getD_some, List.setIfInBounds_toArray, List.set_cons_succ, List.set_cons_zero]
              refine rx_make _ rfl (fun v w1 w2 h hr => ⟨owns_below h.1 (SetsR.toBelow hr), h.2⟩) rfl (fun w1 hr1 hf1 => ?_) (fun v15 w15 hr15 hS15 => ?_)
              · have hB1 := SetsR.toBelow hr1
                have h8 : w1.ownsRow w3.heap.size 28 1 v8 (L.starts.length - p) ((nums L.starts).drop p) := hf1 78 (.inr (by decide)) (by simp)
                rw [seen_of (t := 78) (v := v8) ?s1 ?s2]
                case s1 => exact .inr (by decide)
                case s2 => rfl
                clear q8 q9
                (unfold makes; go_simp; simp only [makesUpon])
                have hsz1 := Nat.le_trans hsz3 hB1.size
                refine (HCE.out w1 (below_trans hW hB1)).mono ?_
                rintro e w' ⟨u, rfl, hown, hbb⟩
                rw [List.length_drop, nums_length] at hown
                exact ⟨u, rfl, SetsR.of_below hbb, owns_base hown fun j hj => Nat.le_trans hsz1 (hown.lt j hj).1, fun j hj hj2 => by have h1 := owns_lt h8 hj; have h2 := (hown.lt j hj2).1; omega⟩
              rw [seen_of (t := 78) (v := v8) ?s1 ?s2] at hS15
              case s1 => exact .inr (by decide)
              case s2 => rfl
              have hB8 := SetsR.toBelow hr8
              have hB15 := SetsR.toBelow hr15
              have hB0 : Below w3.heap.size w3 w15 := below_trans hW (below_trans hB8 hB15)
              have HS8 := Lib.hid (owns_below hS8 hB15)
              have HS15 := Lib.hid hS15
              have hc15 : w15.heap[k.l]? = some (.cells (logCells b3.d first size k3 { LL with head := turnH LL ⟨L.head.gen + 1, L.head.epoch, n, 0⟩ }) 134 (0, 0)) := by
                have := below_heap hB0 HS3.out.1.log.cells
                rwa [hl3] at this
              have fr15 : ∀ j, w15.frozen? ⟨k.l, j, none⟩ = false := fun j => by simp [World.frozen?, hc15]
              have d8 := box11 hc15 8 _ rfl
              have d9 := box11 hc15 9 _ rfl
              obtain ⟨a8, c8, rfl, -⟩ := owns_shape hS8
              obtain ⟨a15, c15, rfl, -⟩ := owns_shape hS15.1
              simp only [Act.put, Act.eval, Array.getD_eq_getD_getElem?, List.getElem?_toArray, List.getElem?_cons_zero, List.getElem?_cons_succ, Option.getD_some, List.setIfInBounds_toArray, List.set_cons_succ, List.set_cons_zero]
              iterate 2 (first
                | (refine rx_small ?_ rfl rfl (fun w1 hb1 hf1 => ?_) ?_
                   rotate_left
                   (go_simp; rfl)
                   simp only [Act.put, Act.eval, Array.getD_eq_getD_getElem?, List.getElem?_toArray, List.getElem?_cons_zero, List.getElem?_cons_succ, Option.getD_some, List.setIfInBounds_toArray, List.set_cons_succ, List.set_cons_zero]
                  ))
              refine rx_late (fun _ w' => w' = w15.setCell ⟨k.l, 8, none⟩ (.slice a8 (L.starts.length - p) c8)) _ rfl rfl ?_ ?_
              · clear hr8 hr15 hS8 hS15 q8 q9
                (unfold makes; go_simp; simp only [makesUpon])
              rintro v22 w22 - rfl
              simp only [Act.put, Act.eval, Array.getD_eq_getD_getElem?, List.getElem?_toArray, List.getElem?_cons_zero, List.getElem?_cons_succ, Option.getD_some, List.setIfInBounds_toArray, List.set_cons_succ, List.set_cons_zero]
              refine rx_nil ?_
              have hc20 := heap_cell (j := 9) (heap_cell (j := 8) hc15 (.slice a8 (L.starts.length - p) c8)) (.slice a15 (L.epochs.length - p) c15)
              have hX20 : Ext (· = k.l) w15 ((w15.setCell ⟨k.l, 8, none⟩ (.slice a8 (L.starts.length - p) c8)).setCell ⟨k.l, 9, none⟩ (.slice a15 (L.epochs.length - p) c15)) :=
                (Ext.setCell (S := (· = k.l)) (p := ⟨k.l, 8, none⟩) rfl _).trans (Ext.setCell (S := (· = k.l)) (p := ⟨k.l, 9, none⟩) rfl _) (fun _ _ h => h)
              have H20 := Lib.hid (And.intro hc20 (And.intro hX20 hB0))
              clear q8 q9 hc20 hX20 hB0 hB8 hB15 hS8 hS15 hr8 hr15 hc15
              go_wp2_with fail
              go_ret
              rw [Hr5.out]
              refine ⟨rfl, .trans hd3 hl3 HS3.out.2.1 HS3.out.2.2 ?_⟩
              refine HS3.out.1.rows H20.out.2.2 (H20.out.2.1.mono fun j _ e => e.trans hl3.symm) HS8.out HS15.out.1 HS15.out.2 ?_ (by show (L.starts.drop p).length = _; rw [List.length_drop]) (by show (L.epochs.drop p).length = _; rw [List.length_drop]) (by simp [nums, List.map_drop]) (by simp [nums, List.map_drop])
              rw [hl3]
              refine H20.out.1.trans ?_
              unfold logCells
              simp only [Hf.out, HL.out.2.1, ← HLL.out, LogS.fall]
              rfl
            · rw [hE]
              have hr5 := Hr4.out.trans (if_neg (show ¬ turnE x first size LL (trimH L n) = 0 by show ¬ turnE x first size LL ⟨L.head.gen + 1, L.head.epoch, n, 0⟩ = 0; rw [hE]; decide))
              have htl : turnL x first size LL ⟨L.head.gen + 1, L.head.epoch, n, 0⟩ = LL.fall true := by unfold turnL; rw [if_neg (by rw [hE]; decide)]
              have Hr5 := Lib.hid hr5
              have Htl := Lib.hid htl
              clear hS3 ha3 hX3 hP hr5 hE htl
              go_wp2_with fail
              go_ret
              rw [Hr5.out]
              have h3 := HS3.out.1
              rw [Htl.out] at h3
              exact ⟨rfl, b3, k3, hd3, hl3, HS3.out.2.1, HS3.out.2.2, h3⟩
      · rw [decide_eq_false hin]
        by_cases hnx : n = L.next
        · have Hr3 := Lib.hid (Hr2.out.trans (if_neg fun h => h.2 hnx))
          have hnx' : ((n : Int) != (L.next : Int)) = false := by rw [hnx]; simp
          clear hin hnx Hr2
          by_cases c3 : L.head.gen = 281474976710655
          · have Hr4 := Lib.hid (Hr3.out.trans (if_pos (.inl c3)))
            have c3' : ((L.head.gen : Int) == 281474976710655) = true := by rw [c3]; rfl
            clear c3 y0 y1 y2 y4 y5 y8 y9
            go_wp2_with fail
            go_ret
            rw [Hr4.out]
            exact ⟨rfl, .mono (.trans hd1 hl1 HS1.out.2.1 HS1.out.2.2 (.same HS1.out.1 HB2.out)) (by omega)⟩
          · have c3' : ((L.head.gen : Int) == 281474976710655) = false := by rw [beq_eq_false_iff_ne]; omega
            by_cases c4 : 281474976710655 < n
            · have Hr4 := Lib.hid (Hr3.out.trans (if_pos (.inr c4)))
              have c4' : (281474976710655 : Int) < (n : Int) := by omega
              clear c3 c4 y0 y1 y2 y4 y5 y8 y9
              go_wp2_with fail
              go_ret
              rw [Hr4.out]
              exact ⟨rfl, .mono (.trans hd1 hl1 HS1.out.2.1 HS1.out.2.2 (.same HS1.out.1 HB2.out)) (by omega)⟩
            · have Hr4 := Lib.hid (Hr3.out.trans (if_neg fun h => h.elim c3 c4))
              have c4' : ¬ (281474976710655 : Int) < (n : Int) := by omega
              have hgl := ho.gen
              have hel := ho.epoch
              have eg := IntWalk.u64_in ((L.head.gen : Int) + 1) (by omega)
              go_wp2_with fail
              refine wp_region_rg_tail 14 (fun _ => none) fol (by kernel_rfl) (fun W hW hh => ?_)
              clear hh
              have q3 := rcell hW y3
              have q4 := rcell hW y4
              simp only [List.take_succ_cons, List.take_zero, List.drop_succ_cons, List.drop_zero]
              repeat ((first | refine lex_move _ (by first | exact Or.inl rfl | exact Or.inr rfl) rfl rfl ?_ | (refine lex_float ?_ rfl rfl (fun w1 hb1 hf1 => ?_) ?_; rotate_left; (go_simp; (try simp (disch := omega) only [IntWalk.i64_quo, IntWalk.rem_in, IntWalk.i64_in, IntWalk.u64_in, IntWalk.u32_in, IntWalk.u8_in, IntWalk.toNatUp, IntWalk.iteOmega]); (try go_simp); rfl)) | refine lex_skip rfl ?_); simp only [Act.put, Act.eval, Array.getD_eq_getD_getElem?, List.getElem?_toArray, List.getElem?_cons_zero, List.getElem?_cons_succ, Option.getD_some, List.setIfInBounds_toArray, List.set_cons_succ, List.set_cons_zero])
              refine lex_nil ?_
              clear q3 q4 y0 y1 y2 y3 y4 y5 y7 y8 y9
              have HT := Lib.hid (turn_any b1 x N first size k1 LL (trimH L n) W (HS2.out.below hW) hN (by show L.head.gen + 1 < _; omega) hel (by show n ≤ _; omega) (by rw [HL.out.2.2.1]; exact ho.rise) (by rw [HL.out.2.2.1, HL.out.2.2.2]; exact ho.len) (by rw [HL.out.2.2.1]; exact ho.short) (by rw [HL.out.2.2.2]; exact fun m hm => Nat.lt_of_le_of_lt (ho.ep m hm) hel))
              unfold headV at HT
              simp only [trimH] at HT
              rw [hl1, show ((L.head.gen + 1 : Nat) : Int) = (L.head.gen : Int) + 1 by omega] at HT
              have HBW := Lib.hid (below_trans HB2.out hW)
              go_wp2_with fail
              refine HT.out.mono ?_
              rintro e w3 ⟨rfl, hP⟩
              obtain ⟨b3, k3, hd3, hl3, ha3, hX3, hS3⟩ := LPost.trans hd1 hl1 HS1.out.2.1 HS1.out.2.2 (.of_below HBW.out (hP.mono (turnN_le _ _ _ _ _ _)))
              have HS3 := Lib.hid (And.intro hS3 (And.intro ha3 hX3))
              rcases turnE_two x first size LL ⟨L.head.gen + 1, L.head.epoch, n, 0⟩ with hE | hE
              · rw [hE]
                have hr5 := Hr4.out.trans (if_pos (show turnE x first size LL (trimH L n) = 0 from hE))
                have htl : turnL x first size LL ⟨L.head.gen + 1, L.head.epoch, n, 0⟩ = { LL with head := turnH LL ⟨L.head.gen + 1, L.head.epoch, n, 0⟩ } := by unfold turnL; rw [if_pos hE]
                have Hr5 := Lib.hid hr5
                rw [htl] at hS3 HS3
                have hcs := hS3.log.cs
                rw [hl3] at hcs
                obtain ⟨y0, -, -, -, -, -, -, -, y8, y9, -, -⟩ := hcs
                obtain ⟨za, zc, hzs, -⟩ := owns_shape hS3.log.starts
                obtain ⟨ya, yc, hze, -⟩ := owns_shape hS3.log.epochs
                have hls : ({ LL with head := turnH LL ⟨L.head.gen + 1, L.head.epoch, n, 0⟩ } : LogS).starts = L.starts := HL.out.2.2.1
                have hle : ({ LL with head := turnH LL ⟨L.head.gen + 1, L.head.epoch, n, 0⟩ } : LogS).epochs = L.epochs := HL.out.2.2.2
                rw [hls] at hzs
                rw [hle] at hze
                rw [hzs] at y8
                rw [hze] at y9
                have hpl := posU_le L.starts n
                have hpe : posU L.starts n ≤ L.epochs.length := by rw [ho.len]; exact hpl
                have hshort := ho.short
                have hlen : L.epochs.length ≤ 65536 := by rw [ho.len]; exact hshort
                have Hz := Lib.hid (And.intro hzs hze)
                obtain ⟨p, hp⟩ : ∃ p, posU L.starts n = p := ⟨_, rfl⟩
                have hsS := Src.of_owns hS3.log.starts
                have hsE := Src.of_owns hS3.log.epochs
                rw [hls, hzs] at hsS
                rw [hle, hze] at hsE
                rw [hp] at hpl hpe Hr5 ⊢
                have HCS := Lib.hid fun w' (hw : Below w3.heap.size w3 w') => cloneN_any (tailV p (.slice za L.starts.length zc)) ((nums L.starts).drop p) w' (tailV_src (hsS.below hw) p (by rw [nums_length]; exact hpl)) (fun u hu => nums_one _ u (List.mem_of_mem_drop hu)) (by rw [List.length_drop, nums_length]; omega)
                have HCE := Lib.hid fun w' (hw : Below w3.heap.size w3 w') => cloneN_any (tailV p (.slice ya L.epochs.length yc)) ((nums L.epochs).drop p) w' (tailV_src (hsE.below hw) p (by rw [nums_length]; exact hpe)) (fun u hu => nums_one _ u (List.mem_of_mem_drop hu)) (by rw [List.length_drop, nums_length]; omega)
                have Hp := Lib.hid (And.intro hp (And.intro hls hle))
                clear hS3 ha3 hX3 hP hr5 hE htl hzs hze hls hle hsS hsE hp
                go_wp2_with fail
                refine wp_region_latex (growS fun _ _ _ => False) 19 [1] (fun i => if i = 8 then some (fun _ v w' => w'.ownsRow w3.heap.size 28 1 v (L.starts.length - p) ((nums L.starts).drop p)) else if i = 15 then some (fun sn v w' => w'.ownsRow w3.heap.size 28 1 v (L.epochs.length - p) ((nums L.epochs).drop p) ∧ ∀ j, (sn 78).ownBlock = some j → v.ownBlock ≠ some j) else none) (fun _ => True) (fun _ _ => True) fol (by kernel_rfl) (fun _ _ _ _ _ => trivial) (fun W hW hh => ?_)
                clear hh
                have q8 := gcell (S := fun _ _ _ => False) (below_cell hW y8) (fun _ _ h => h)
                have q9 := gcell (S := fun _ _ _ => False) (below_cell hW y9) (fun _ _ h => h)
                have hsz3 := hW.size
                simp only [List.take_succ_cons, List.take_zero, List.drop_succ_cons, List.drop_zero]
                iterate 7 (first
                  | (refine rx_move _ (by first | exact Or.inl rfl | exact Or.inr rfl) (by first | exact Or.inl rfl | exact Or.inr rfl) rfl ?_
                     simp only [Act.put, Act.eval, Array.getD_eq_getD_getElem?, List.getElem?_toArray, List.getElem?_cons_zero, List.getElem?_cons_succ, Option.getD_some, List.setIfInBounds_toArray, List.set_cons_succ, List.set_cons_zero]
                    )
                  | (refine rx_small ?_ rfl rfl (fun w1 hb1 hf1 => ?_) ?_
                     rotate_left
                     (go_simp; rfl)
                     simp only [Act.put, Act.eval, Array.getD_eq_getD_getElem?, List.getElem?_toArray, List.getElem?_cons_zero, List.getElem?_cons_succ, Option.getD_some, List.setIfInBounds_toArray, List.set_cons_succ, List.set_cons_zero]
                    ))
                refine rx_small (tailV p (.slice za L.starts.length zc)) rfl rfl (fun w1 hb1 hf1 => exec_sliceL (.tmp 75) (.tmp 76) 101 rfl (tail_run 101 28 und_u64s' size_u64s p hpl w1)) ?_
                simp only [Act.put, Act.eval, Array.getD_eq_getD_getElem?, List.getElem?_toArray, List.getElem?_cons_zero, List.getElem?_cons_succ, Option.getD_some, List.setIfInBounds_toArray, List.set_cons_succ, List.set_cons_zero]
                refine rx_make _ rfl (fun v w1 w2 h hr => owns_below h (SetsR.toBelow hr)) rfl (fun w1 hr1 hf1 => ?_) (fun v8 w8 hr8 hS8 => ?_)
                · have hB1 := SetsR.toBelow hr1
                  clear q8 q9
                  (unfold makes; go_simp; simp only [makesUpon])
                  have hsz1 := Nat.le_trans hsz3 hB1.size
                  refine (HCS.out w1 (below_trans hW hB1)).mono ?_
                  rintro e w' ⟨u, rfl, hown, hbb⟩
                  rw [List.length_drop, nums_length] at hown
                  exact ⟨u, rfl, SetsR.of_below hbb, owns_base hown fun j hj => Nat.le_trans hsz1 (hown.lt j hj).1⟩
                simp only [Act.put, Act.eval, Array.getD_eq_getD_getElem?, List.getElem?_toArray, List.getElem?_cons_zero, List.getElem?_cons_succ, Option.getD_some, List.setIfInBounds_toArray, List.set_cons_succ, List.set_cons_zero]
                iterate 5 (first
                  | (refine rx_move _ (by first | exact Or.inl rfl | exact Or.inr rfl) (by first | exact Or.inl rfl | exact Or.inr rfl) rfl ?_
                     simp only [Act.put, Act.eval, Array.getD_eq_getD_getElem?, List.getElem?_toArray, List.getElem?_cons_zero, List.getElem?_cons_succ, Option.getD_some, List.setIfInBounds_toArray, List.set_cons_succ, List.set_cons_zero]
                    )
                  | (refine rx_small ?_ rfl rfl (fun w1 hb1 hf1 => ?_) ?_
                     rotate_left
                     (go_simp; rfl)
                     simp only [Act.put, Act.eval, Array.getD_eq_getD_getElem?, List.getElem?_toArray, List.getElem?_cons_zero, List.getElem?_cons_succ, Option.getD_some, List.setIfInBounds_toArray, List.set_cons_succ, List.set_cons_zero]
                    ))
                refine rx_small (tailV p (.slice ya L.epochs.length yc)) rfl rfl (fun w1 hb1 hf1 => exec_sliceL (.tmp 82) (.tmp 83) 101 rfl (tail_run 101 28 und_u64s' size_u64s p hpe w1)) ?_
                simp only [Act.put, Act.eval, Array.getD_eq_getD_getElem?, List.getElem?_toArray, List.getElem?_cons_zero, List.getElem?_cons_succ, Option.getD_some, List.setIfInBounds_toArray, List.set_cons_succ, List.set_cons_zero]
                refine rx_make _ rfl (fun v w1 w2 h hr => ⟨owns_below h.1 (SetsR.toBelow hr), h.2⟩) rfl (fun w1 hr1 hf1 => ?_) (fun v15 w15 hr15 hS15 => ?_)
                · have hB1 := SetsR.toBelow hr1
                  have h8 : w1.ownsRow w3.heap.size 28 1 v8 (L.starts.length - p) ((nums L.starts).drop p) := hf1 78 (.inr (by decide)) (by simp)
                  rw [seen_of (t := 78) (v := v8) ?s1 ?s2]
                  case s1 => exact .inr (by decide)
                  case s2 => rfl
                  clear q8 q9
                  (unfold makes; go_simp; simp only [makesUpon])
                  have hsz1 := Nat.le_trans hsz3 hB1.size
                  refine (HCE.out w1 (below_trans hW hB1)).mono ?_
                  rintro e w' ⟨u, rfl, hown, hbb⟩
                  rw [List.length_drop, nums_length] at hown
                  exact ⟨u, rfl, SetsR.of_below hbb, owns_base hown fun j hj => Nat.le_trans hsz1 (hown.lt j hj).1, fun j hj hj2 => by have h1 := owns_lt h8 hj; have h2 := (hown.lt j hj2).1; omega⟩
                rw [seen_of (t := 78) (v := v8) ?s1 ?s2] at hS15
                case s1 => exact .inr (by decide)
                case s2 => rfl
                have hB8 := SetsR.toBelow hr8
                have hB15 := SetsR.toBelow hr15
                have hB0 : Below w3.heap.size w3 w15 := below_trans hW (below_trans hB8 hB15)
                have HS8 := Lib.hid (owns_below hS8 hB15)
                have HS15 := Lib.hid hS15
                have hc15 : w15.heap[k.l]? = some (.cells (logCells b3.d first size k3 { LL with head := turnH LL ⟨L.head.gen + 1, L.head.epoch, n, 0⟩ }) 134 (0, 0)) := by
                  have := below_heap hB0 HS3.out.1.log.cells
                  rwa [hl3] at this
                have fr15 : ∀ j, w15.frozen? ⟨k.l, j, none⟩ = false := fun j => by simp [World.frozen?, hc15]
                have d8 := box11 hc15 8 _ rfl
                have d9 := box11 hc15 9 _ rfl
                obtain ⟨a8, c8, rfl, -⟩ := owns_shape hS8
                obtain ⟨a15, c15, rfl, -⟩ := owns_shape hS15.1
                simp only [Act.put, Act.eval, Array.getD_eq_getD_getElem?, List.getElem?_toArray, List.getElem?_cons_zero, List.getElem?_cons_succ, Option.getD_some, List.setIfInBounds_toArray, List.set_cons_succ, List.set_cons_zero]
                iterate 2 (first
                  | (refine rx_small ?_ rfl rfl (fun w1 hb1 hf1 => ?_) ?_
                     rotate_left
                     (go_simp; rfl)
                     simp only [Act.put, Act.eval, Array.getD_eq_getD_getElem?, List.getElem?_toArray, List.getElem?_cons_zero, List.getElem?_cons_succ, Option.getD_some, List.setIfInBounds_toArray, List.set_cons_succ, List.set_cons_zero]
                    ))
                refine rx_late (fun _ w' => w' = w15.setCell ⟨k.l, 8, none⟩ (.slice a8 (L.starts.length - p) c8)) _ rfl rfl ?_ ?_
                · clear hr8 hr15 hS8 hS15 q8 q9
                  (unfold makes; go_simp; simp only [makesUpon])
                rintro v22 w22 - rfl
                simp only [Act.put, Act.eval, Array.getD_eq_getD_getElem?, List.getElem?_toArray, List.getElem?_cons_zero, List.getElem?_cons_succ, Option.getD_some, List.setIfInBounds_toArray, List.set_cons_succ, List.set_cons_zero]
                refine rx_nil ?_
                have hc20 := heap_cell (j := 9) (heap_cell (j := 8) hc15 (.slice a8 (L.starts.length - p) c8)) (.slice a15 (L.epochs.length - p) c15)
                have hX20 : Ext (· = k.l) w15 ((w15.setCell ⟨k.l, 8, none⟩ (.slice a8 (L.starts.length - p) c8)).setCell ⟨k.l, 9, none⟩ (.slice a15 (L.epochs.length - p) c15)) :=
                  (Ext.setCell (S := (· = k.l)) (p := ⟨k.l, 8, none⟩) rfl _).trans (Ext.setCell (S := (· = k.l)) (p := ⟨k.l, 9, none⟩) rfl _) (fun _ _ h => h)
                have H20 := Lib.hid (And.intro hc20 (And.intro hX20 hB0))
                clear q8 q9 hc20 hX20 hB0 hB8 hB15 hS8 hS15 hr8 hr15 hc15
                go_wp2_with fail
                go_ret
                rw [Hr5.out]
                refine ⟨rfl, .trans hd3 hl3 HS3.out.2.1 HS3.out.2.2 ?_⟩
                refine HS3.out.1.rows H20.out.2.2 (H20.out.2.1.mono fun j _ e => e.trans hl3.symm) HS8.out HS15.out.1 HS15.out.2 ?_ (by show (L.starts.drop p).length = _; rw [List.length_drop]) (by show (L.epochs.drop p).length = _; rw [List.length_drop]) (by simp [nums, List.map_drop]) (by simp [nums, List.map_drop])
                rw [hl3]
                refine H20.out.1.trans ?_
                unfold logCells
                simp only [Hf.out, HL.out.2.1, ← HLL.out, LogS.fall]
                rfl
              · rw [hE]
                have hr5 := Hr4.out.trans (if_neg (show ¬ turnE x first size LL (trimH L n) = 0 by show ¬ turnE x first size LL ⟨L.head.gen + 1, L.head.epoch, n, 0⟩ = 0; rw [hE]; decide))
                have htl : turnL x first size LL ⟨L.head.gen + 1, L.head.epoch, n, 0⟩ = LL.fall true := by unfold turnL; rw [if_neg (by rw [hE]; decide)]
                have Hr5 := Lib.hid hr5
                have Htl := Lib.hid htl
                clear hS3 ha3 hX3 hP hr5 hE htl
                go_wp2_with fail
                go_ret
                rw [Hr5.out]
                have h3 := HS3.out.1
                rw [Htl.out] at h3
                exact ⟨rfl, b3, k3, hd3, hl3, HS3.out.2.1, HS3.out.2.2, h3⟩
        · have Hr3 := Lib.hid (Hr2.out.trans (if_pos ⟨hin, hnx⟩))
          have hnx' : ((n : Int) != (L.next : Int)) = true := by rw [bne_iff_ne]; omega
          clear hin hnx Hr2 y0 y1 y2 y3 y4 y5 y8 y9
          go_wp2_with fail
          go_ret
          rw [Hr3.out]
          exact ⟨rfl, .mono (.trans hd1 hl1 HS1.out.2.1 HS1.out.2.2 (.same HS1.out.1 HB2.out)) (by omega)⟩
  · have HRR := Lib.hid (show trimR x first size L n = (x, L.fall x.off, 5) by unfold trimR; rw [if_pos hf])
    have HS1 := Lib.hid (And.intro hS1 (And.intro ha1 hX1))
    clear hf hS1 ha1 hX1
    go_wp2_with fail
    go_ret
    rw [HRR.out]
    exact ⟨rfl, b1, k1, hd1, hl1, HS1.out.2.1, HS1.out.2.2, HS1.out.1.mono (by omega)⟩
end Go.Proofs.YtbjofbhhnmehgaaGreatDoor.TT
namespace Go.Proofs.YtbjofbhhnmehgaaGreatDoor.TT
open Go.RowKit Go.RG Go.Hp Go.Proofs.YtbjofbhhnmehgaaGreatDoor


/-- a reader that has read up to a place without a fault -/
structure RdAt (w : World) (r : Nat) (v : Value) (bs : List Int) (at' : Nat) : Prop where
  head : w.heap[r]? = some (.cells #[v, .int .i64 at', .bool true, .int .i64 0] 195 (0, 0))
  src : Src w v (u8s bs)
  ne : v.ownBlock ≠ some r
  bytes : isBytes bs
  le : at' ≤ bs.length
  lim : bs.length ≤ 1073741824
theorem Src.ext {w w' : World} {v : Value} {xs : List Value} {S : Nat → Prop} (h : Src w v xs) (hX : Ext S w w') (hn : ∀ k, v.ownBlock = some k → ¬ S k) : Src w' v xs := by
  rcases h with ⟨g, o, c, rfl, hc, hr⟩ | h
  · exact .inl ⟨g, o, c, rfl, hc, fun j u hu => hX.cell_some (hr j u hu) (hn g rfl)⟩
  · exact .inr h
theorem RdAt.below {w w' : World} {r : Nat} {v : Value} {bs : List Int} {at' : Nat} (h : RdAt w r v bs at') (hb : Below w.heap.size w w') : RdAt w' r v bs at' :=
  ⟨below_heap hb h.head, h.src.below hb, h.ne, h.bytes, h.le, h.lim⟩
theorem RdAt.cs {w : World} {r : Nat} {v : Value} {bs : List Int} {at' : Nat} (h : RdAt w r v bs at') : w.cell? ⟨r, 0, none⟩ = some v ∧ w.cell? ⟨r, 1, none⟩ = some (.int .i64 at') ∧ w.cell? ⟨r, 2, none⟩ = some (.bool true) ∧ w.cell? ⟨r, 3, none⟩ = some (.int .i64 0) ∧ ∀ j, w.frozen? ⟨r, j, none⟩ = false :=
  ⟨box11 h.head 0 _ rfl, box11 h.head 1 _ rfl, box11 h.head 2 _ rfl, box11 h.head 3 _ rfl, fun j => by simp [World.frozen?, h.head]⟩
/-- the reader's own block is written: it is further on -/
theorem RdAt.on {w w' : World} {r : Nat} {v : Value} {bs : List Int} {at' n : Nat} (h : RdAt w r v bs at') (hX : Ext (· = r) w w') (hc : w'.heap[r]? = some (.cells #[v, .int .i64 n, .bool true, .int .i64 0] 195 (0, 0))) (hn : n ≤ bs.length) : RdAt w' r v bs n :=
  ⟨hc, h.src.ext hX fun k e e2 => h.ne (by rw [← e2]; exact e), h.ne, h.bytes, hn, h.lim⟩
theorem rnew_any (v : Value) (bs : List Int) (w : World) (hv : Src w v (u8s bs)) (hb : isBytes bs) (hl : bs.length ≤ 1073741824) :
    Calls Tryz.prog 121 #[v] w fun e w' => ∃ r u, e = .returned (.pointer (some ⟨r, 0, none⟩)) ∧ RdAt w' r u bs 0 ∧ w.heap.size ≤ r ∧ (∀ j, u.ownBlock = some j → w.heap.size ≤ j) ∧ Below w.heap.size w w' := by
  have HC := Lib.hid (clone_any v (u8s bs) w hv (u8s_one _) (by rw [u8s_length]; omega))
  clear hv
  go_enter Tryz.func121, Tryz.ntmps121
  go_wp2_with fail
  refine HC.out.mono ?_
  rintro e w1 ⟨u, rfl, hown, hB⟩
  obtain ⟨ua, uc, rfl, -⟩ := owns_shape hown
  have Hown := Lib.hid hown
  clear hown HC
  go_wp2_with fail
  go_ret
  have hb2 := below_box w1 (.cells #[.slice ua (u8s bs).length uc, .int .i64 0, .bool true, .int .i64 0] 195)
  refine ⟨w1.heap.size, _, rfl, ⟨World.alloc_heap_new w1 _, (Src.of_owns Hown.out).below hb2, fun e => ?_, hb, Nat.zero_le _, hl⟩, hB.size, fun j hj => (Hown.out.lt j hj).1, below_trans hB hb2⟩
  have := owns_lt Hown.out e
  omega
set_option maxRecDepth 100000 in
theorem rbad_ok (r : Nat) (v : Value) (bs : List Int) (at' : Nat) (w : World) (h : RdAt w r v bs at') : Calls Tryz.prog 140 #[.pointer (some ⟨r, 0, none⟩)] w fun e w' => e = .returned (.bool false) ∧ w = w' := by
  obtain ⟨-, -, c2, c3, -⟩ := h.cs
  clear h
  go_enter Tryz.func140, Tryz.ntmps140
  go_wp2_with fail
  go_ret
  exact ⟨rfl, rfl⟩
set_option maxRecDepth 100000 in
theorem rerr_ok (r : Nat) (v : Value) (bs : List Int) (at' : Nat) (w : World) (h : RdAt w r v bs at') : Calls Tryz.prog 124 #[.pointer (some ⟨r, 0, none⟩)] w fun e w' => e = .returned (.int .i64 0) ∧ w = w' := by
  obtain ⟨-, -, c2, c3, -⟩ := h.cs
  clear h
  go_enter Tryz.func124, Tryz.ntmps124
  go_wp2_with fail
  go_ret
  exact ⟨rfl, rfl⟩
set_option maxRecDepth 100000 in
theorem rleft_ok (r : Nat) (v : Value) (bs : List Int) (at' : Nat) (w : World) (h : RdAt w r v bs at') : Calls Tryz.prog 127 #[.pointer (some ⟨r, 0, none⟩)] w fun e w' => e = .returned (.int .i64 ((bs.length - at' : Nat) : Int)) ∧ Below w.heap.size w w' := by
  obtain ⟨c0, c1, c2, c3, -⟩ := h.cs
  obtain ⟨va, vc, rfl, -⟩ := h.src.shape
  rw [u8s_length] at c0
  have hle := h.le
  have hlim := h.lim
  have e1 := IntWalk.i64_in ((bs.length : Int) - (at' : Int)) (by omega)
  have hsub : ((bs.length : Int) - (at' : Int)) = ((bs.length - at' : Nat) : Int) := by omega
  have Hs := Lib.hid hsub
  clear h hsub
  go_enter Tryz.func127, Tryz.ntmps127
  go_wp2_with fail
  refine wp_region_rg (fun _ => none) fol (by kernel_rfl) (fun W hW hh => ?_)
  clear hh
  have q0 := rcell hW c0
  have q1 := rcell hW c1
  clear c0 c1 c2 c3
  repeat ((first | refine lex_move _ (by first | exact Or.inl rfl | exact Or.inr rfl) rfl rfl ?_ | (refine lex_float ?_ rfl rfl (fun w1 hb1 hf1 => ?_) ?_; rotate_left; (go_simp; (try simp (disch := omega) only [IntWalk.i64_quo, IntWalk.rem_in, IntWalk.i64_in, IntWalk.u64_in, IntWalk.u32_in, IntWalk.u8_in, IntWalk.toNatUp, IntWalk.iteOmega]); (try go_simp); rfl)) | refine lex_skip rfl ?_); simp only [Act.put, Act.eval, Array.getD_eq_getD_getElem?, List.getElem?_toArray, List.getElem?_cons_zero, List.getElem?_cons_succ, Option.getD_some, List.setIfInBounds_toArray, List.set_cons_succ, List.set_cons_zero])
  refine lex_nil ?_
  clear q0 q1
  go_wp2_with fail
  go_ret
  rw [Hs.out]
  exact ⟨rfl, hW⟩
theorem und_bytes' : Tryz.prog.underlying 52 = some (.slice (Tryz.prog.elem 52)) := by kernel_rfl
theorem size_bytes (w : World) : (sizeOf (Tryz.prog.elem 52)).run Tryz.prog w = .ok 1 w := by kernel_rfl
set_option maxHeartbeats 1000000 in
set_option maxRecDepth 100000 in
theorem rnumber_ok (r : Nat) (v : Value) (bs : List Int) (at' n most : Nat) (hn : n ≤ most) (hm : most < 18446744073709551616) (hp : sdnv n <+: bs.drop at') (w : World) (h : RdAt w r v bs at') :
    Calls Tryz.prog 123 #[.pointer (some ⟨r, 0, none⟩), .int .u64 most] w fun e w' => e = .returned (.int .u64 n) ∧ RdAt w' r v bs (at' + (sdnv n).length) ∧ Ext (· = r) w w' := by
  obtain ⟨c0, c1, c2, c3, fr⟩ := h.cs
  obtain ⟨va, vc, rfl, -⟩ := h.src.shape
  rw [u8s_length] at c0 h ⊢
  have hle := h.le
  have hlim := h.lim
  have HB := Lib.hid (rbad_ok r _ bs at' w h)
  have hsd := sdnv_length n (by omega)
  have hpl := hp.length_le
  rw [List.length_drop] at hpl
  have HN := Lib.hid fun W (hW : Below w.heap.size w W) => number_any (tailV at' (.slice va bs.length vc)) n (by omega) (bs.drop at') hp W (by rw [u8s_drop]; exact tailV_src (h.below hW).src at' (by rw [u8s_length]; exact hle)) (by rw [List.length_drop]; omega)
  have H := Lib.hid h
  obtain ⟨m, hm'⟩ : ∃ m, (sdnv n).length = m := ⟨_, rfl⟩
  rw [hm'] at HN hpl hsd ⊢
  have e1 := IntWalk.i64_in ((at' : Int) + (m : Int)) (by omega)
  have hnm : ¬ (most : Int) < (n : Int) := by omega
  clear h hp hm'
  go_enter Tryz.func123, Tryz.ntmps123
  go_wp2_with fail
  refine HB.out.mono ?_
  rintro e w' ⟨rfl, rfl⟩
  go_wp2_with fail
  refine wp_region_rg (fun i => if i = 9 then some (fun v _ => v = .tuple #[.int .u64 n, .int .i64 m, .int .i64 0]) else none) fol (by kernel_rfl) (fun W hW hh => ?_)
  clear hh
  have q0 := rcell hW c0
  have q1 := rcell hW c1
  iterate 8 (first
    | (refine lex_move _ (by first | exact Or.inl rfl | exact Or.inr rfl) rfl rfl ?_
       simp only [Act.put, Act.eval, Array.getD_eq_getD_getElem?, List.getElem?_toArray, List.getElem?_cons_zero, List.getElem?_cons_succ, Option.getD_some, List.setIfInBounds_toArray, List.set_cons_succ, List.set_cons_zero]
      )
    | (refine lex_float ?_ rfl rfl (fun w1 hb1 hf1 => ?_) ?_
       rotate_left
       (go_simp; rfl)
       simp only [Act.put, Act.eval, Array.getD_eq_getD_getElem?, List.getElem?_toArray, List.getElem?_cons_zero, List.getElem?_cons_succ, Option.getD_some, List.setIfInBounds_toArray, List.set_cons_succ, List.set_cons_zero]
      ))
  refine lex_float (tailV at' (.slice va bs.length vc)) rfl rfl (fun w1 hb1 hf1 => exec_sliceL (.tmp 14) (.tmp 18) 52 rfl (tail_run 52 5 und_bytes' size_bytes at' hle w1)) ?_
  simp only [Act.put, Act.eval, Array.getD_eq_getD_getElem?, List.getElem?_toArray, List.getElem?_cons_zero, List.getElem?_cons_succ, Option.getD_some, List.setIfInBounds_toArray, List.set_cons_succ, List.set_cons_zero]
  refine lex_make _ rfl (by exact fun _ _ _ h _ => h) rfl (fun w1 hb1 hf1 => ?_) ?_
  · have hb1' := hb1
    (unfold makes; go_simp; simp only [makesUpon])
    refine (HN.out _ (below_trans hW hb1')).mono ?_
    rintro e w' ⟨rfl, hB⟩
    exact ⟨_, rfl, hB, rfl⟩
  rintro v9 W9 hB9 rfl
  simp only [Act.put, Act.eval, Array.getD_eq_getD_getElem?, List.getElem?_toArray, List.getElem?_cons_zero, List.getElem?_cons_succ, Option.getD_some, List.setIfInBounds_toArray, List.set_cons_succ, List.set_cons_zero]
  repeat ((first | refine lex_move _ (by first | exact Or.inl rfl | exact Or.inr rfl) rfl rfl ?_ | (refine lex_float ?_ rfl rfl (fun w1 hb1 hf1 => ?_) ?_; rotate_left; (go_simp; (try simp (disch := omega) only [IntWalk.i64_quo, IntWalk.rem_in, IntWalk.i64_in, IntWalk.u64_in, IntWalk.u32_in, IntWalk.u8_in, IntWalk.toNatUp, IntWalk.iteOmega]); (try go_simp); rfl)) | refine lex_skip rfl ?_); simp only [Act.put, Act.eval, Array.getD_eq_getD_getElem?, List.getElem?_toArray, List.getElem?_cons_zero, List.getElem?_cons_succ, Option.getD_some, List.setIfInBounds_toArray, List.set_cons_succ, List.set_cons_zero])
  refine lex_nil ?_
  clear q0 q1
  have hB := below_trans hW hB9
  have h9 := H.out.below hB
  obtain ⟨c0, c1, c2, c3, fr⟩ := h9.cs
  have hX := (Ext.setCell (S := (· = r)) (w := W9) (p := ⟨r, 3, none⟩) rfl (.int .i64 0)).trans (Ext.setCell (S := (· = r)) (p := ⟨r, 1, none⟩) rfl (.int .i64 ((at' : Int) + (m : Int)))) (fun _ _ h => h)
  have hc := heap_cell (j := 1) (heap_cell (j := 3) h9.head (.int .i64 0)) (.int .i64 ((at' : Int) + (m : Int)))
  have HF := Lib.hid (show RdAt _ r (.slice va bs.length vc) bs (at' + m) ∧ Ext (· = r) w _ from ⟨h9.on hX (n := at' + m) (by refine hc.trans ?_; rfl) (by omega), (Ext.of_below (S := (· = r)) hB).trans hX fun _ _ h => h⟩)
  clear h9 hX hc
  go_wp2_with fail
  go_ret
  exact ⟨rfl, HF.out.1, HF.out.2⟩
/-- a part of a slice -/
def partV (lo hi : Nat) : Value → Value
  | .slice a _ c => sliced a lo hi c 1
  | v => v
theorem partV_src {w : World} {v : Value} {xs : List Value} (h : Src w v xs) (lo hi : Nat) (hlo : lo ≤ hi) (hhi : hi ≤ xs.length) : Src w (partV lo hi v) ((xs.take hi).drop lo) := by
  have hl : ((xs.take hi).drop lo).length = hi - lo := by rw [List.length_drop, List.length_take]; omega
  rcases h with ⟨g, o, c, rfl, hc, hr⟩ | ⟨rfl, rfl⟩
  · unfold partV sliced
    by_cases h0 : c = lo
    · subst h0
      left
      refine ⟨g, o, 0, ?_, by rw [hl]; omega, fun j u hu => ?_⟩
      · rw [hl]; simp
      · have := (List.getElem?_eq_some_iff.1 hu).1
        omega
    · left
      refine ⟨g, o + lo, c - lo, ?_, by rw [hl]; omega, fun j u hu => ?_⟩
      · rw [hl]; simp [h0, Addr.add_lit]
      · rw [List.getElem?_drop] at hu
        rw [Nat.add_assoc]
        have hj : lo + j < hi := by
          have := (List.getElem?_eq_some_iff.1 hu).1
          rw [List.length_take] at this
          omega
        rw [List.getElem?_take_of_lt hj] at hu
        exact hr _ u hu
  · right
    have h1 : hi = 0 := by simpa using hhi
    subst h1
    have h2 : lo = 0 := by omega
    subst h2
    exact ⟨rfl, rfl⟩
theorem part_run (ts : TypeId) (ht : Tryz.prog.underlying ts = some (.slice (Tryz.prog.elem ts))) (hs : ∀ w, (sizeOf (Tryz.prog.elem ts)).run Tryz.prog w = .ok 1 w) {a : Option Addr} {n c : Nat} (lo hi : Nat) (hlo : lo ≤ hi) (hhi : hi ≤ c) (w : World) :
    (Instr.sliceAt ts (.slice a n c) (some (.int .i64 lo)) (some (.int .i64 hi)) none).run Tryz.prog w = .ok (partV lo hi (.slice a n c)) w := by
  rw [run_sliceAt_slice _ _ _ _ _ _ ht, run_slice_lh _ _ _ _ _ ht _ _ _ _ (by omega) (by omega) (by omega), hs]
  rfl
theorem exec_sliceLH {o : Oper} {a : Act} {w w' : World} (x l h : Operand) (t : TypeId) (ho : o.op = .slice t x (some l) (some h) none) {v : Value} (hr : (Instr.sliceAt t (a.eval x) (some (a.eval l)) (some (a.eval h)) none).run Tryz.prog w = .ok v w') : (execOp a.eval o).run Tryz.prog w = .ok (.value v) w' := by
  simp only [execOp, ho, Option.map_some, Option.map_none, Sem.run_bind, hr, Result.andThen_ok, Sem.run_pure]
set_option maxHeartbeats 1000000 in
set_option maxRecDepth 100000 in
theorem rtake_ok (r : Nat) (v : Value) (bs : List Int) (at' k : Nat) (hk : at' + k ≤ bs.length) (w : World) (h : RdAt w r v bs at') :
    Calls Tryz.prog 122 #[.pointer (some ⟨r, 0, none⟩), .int .i64 k] w fun e w' => ∃ u, e = .returned u ∧ w'.ownsRow w.heap.size 5 1 u k (u8s ((bs.drop at').take k)) ∧ RdAt w' r v bs (at' + k) ∧ Ext (· = r) w w' := by
  obtain ⟨c0, c1, c2, c3, fr⟩ := h.cs
  obtain ⟨va, vc, rfl, hvc⟩ := h.src.shape
  rw [u8s_length] at c0 h hvc ⊢
  have hle := h.le
  have hlim := h.lim
  have HB := Lib.hid (rbad_ok r _ bs at' w h)
  have H := Lib.hid h
  have e1 := IntWalk.i64_in ((at' : Int) + (k : Int)) (by omega)
  have e2 := IntWalk.i64_in ((bs.length : Int) - (at' : Int)) (by omega)
  have e3 := IntWalk.i64_in (at' : Int) (by omega)
  have hk0 : ¬ (k : Int) < 0 := by omega
  have hk1 : ¬ (bs.length : Int) - (at' : Int) < (k : Int) := by omega
  clear h
  go_enter Tryz.func122, Tryz.ntmps122
  go_wp2_with fail
  refine HB.out.mono ?_
  rintro e w' ⟨rfl, rfl⟩
  go_wp2_with fail
  refine wp_region_rg (fun _ => none) fol (by kernel_rfl) (fun W hW hh => ?_)
  clear hh
  have q0 := rcell hW c0
  have q1 := rcell hW c1
  repeat ((first | refine lex_move _ (by first | exact Or.inl rfl | exact Or.inr rfl) rfl rfl ?_ | (refine lex_float ?_ rfl rfl (fun w1 hb1 hf1 => ?_) ?_; rotate_left; (go_simp; (try simp (disch := omega) only [IntWalk.i64_quo, IntWalk.rem_in, IntWalk.i64_in, IntWalk.u64_in, IntWalk.u32_in, IntWalk.u8_in, IntWalk.toNatUp, IntWalk.iteOmega]); (try go_simp); rfl)) | refine lex_skip rfl ?_); simp only [Act.put, Act.eval, Array.getD_eq_getD_getElem?, List.getElem?_toArray, List.getElem?_cons_zero, List.getElem?_cons_succ, Option.getD_some, List.setIfInBounds_toArray, List.set_cons_succ, List.set_cons_zero])
  refine lex_nil ?_
  clear q0 q1 c0 c1 c2 c3 fr HB
  have h1 := H.out.below hW
  obtain ⟨c0, c1, c2, c3, fr⟩ := h1.cs
  have hX := Ext.setCell (S := (· = r)) (w := W) (p := ⟨r, 1, none⟩) rfl (.int .i64 ((at' : Int) + (k : Int)))
  have hc := heap_cell (j := 1) h1.head (.int .i64 ((at' : Int) + (k : Int)))
  have HF := Lib.hid (show RdAt _ r (.slice va bs.length vc) bs (at' + k) ∧ Ext (· = r) w _ from ⟨h1.on hX (n := at' + k) (by refine hc.trans ?_; rfl) (by omega), (Ext.of_below (S := (· = r)) hW).trans hX fun _ _ h => h⟩)
  clear h1 hX hc
  go_wp2_with fail
  generalize World.setCell W _ _ = W1 at HF ⊢
  have h2 := HF.out.1
  clear c0 c1 c2 c3 fr
  obtain ⟨c0, c1, c2, c3, fr⟩ := h2.cs
  have HC := Lib.hid fun V (hV : Below W1.heap.size W1 V) => clone_any (partV at' (at' + k) (.slice va bs.length vc)) (((u8s bs).take (at' + k)).drop at') V (partV_src (h2.below hV).src at' (at' + k) (by omega) (by rw [u8s_length]; exact hk)) (fun u hu => u8s_one _ u (List.mem_of_mem_take (List.mem_of_mem_drop hu))) (by rw [List.length_drop, List.length_take, u8s_length]; omega)
  have hcl : (((u8s bs).take (at' + k)).drop at').length = k := by rw [List.length_drop, List.length_take, u8s_length]; omega
  have hce : ((u8s bs).take (at' + k)).drop at' = u8s ((bs.drop at').take k) := by rw [List.drop_take, Nat.add_sub_cancel_left, u8s_take, u8s_drop]
  rw [hcl, hce] at HC
  have c1' : W1.cell? ⟨r, 1, none⟩ = some (.int .i64 ((at' : Int) + (k : Int))) := by rw [c1]; congr 2
  clear c1 hcl hce h2
  refine wp_region_rg (fun i => if i = 15 then some (fun v w' => w'.ownsRow W1.heap.size 5 1 v k (u8s ((bs.drop at').take k))) else none) fol (by kernel_rfl) (fun V hV hh => ?_)
  clear hh
  have q0 := rcell hV c0
  have q1 := rcell hV c1'
  iterate 14 (first
    | (refine lex_move _ (by first | exact Or.inl rfl | exact Or.inr rfl) rfl rfl ?_
       simp only [Act.put, Act.eval, Array.getD_eq_getD_getElem?, List.getElem?_toArray, List.getElem?_cons_zero, List.getElem?_cons_succ, Option.getD_some, List.setIfInBounds_toArray, List.set_cons_succ, List.set_cons_zero]
      )
    | (refine lex_float ?_ rfl rfl (fun w1 hb1 hf1 => ?_) ?_
       rotate_left
       (go_simp; rfl)
       simp only [Act.put, Act.eval, Array.getD_eq_getD_getElem?, List.getElem?_toArray, List.getElem?_cons_zero, List.getElem?_cons_succ, Option.getD_some, List.setIfInBounds_toArray, List.set_cons_succ, List.set_cons_zero]
      ))
  refine lex_float (partV at' (at' + k) (.slice va bs.length vc)) rfl rfl (fun w1 hb1 hf1 => exec_sliceLH (.tmp 41) (.tmp 47) (.tmp 51) 52 rfl (part_run 52 und_bytes' size_bytes at' (at' + k) (by omega) (by omega) w1)) ?_
  simp only [Act.put, Act.eval, Array.getD_eq_getD_getElem?, List.getElem?_toArray, List.getElem?_cons_zero, List.getElem?_cons_succ, Option.getD_some, List.setIfInBounds_toArray, List.set_cons_succ, List.set_cons_zero]
  refine lex_make _ rfl (by exact fun _ _ _ h hb => owns_below h hb) rfl (fun w1 hb1 hf1 => ?_) ?_
  · have hb1' := hb1
    have hsz := (below_trans hV hb1').size
    (unfold makes; go_simp; simp only [makesUpon])
    refine (HC.out _ (below_trans hV hb1')).mono ?_
    rintro e w' ⟨u, rfl, hown, hB⟩
    exact ⟨u, rfl, hB, owns_base hown fun j hj => Nat.le_trans hsz (hown.lt j hj).1⟩
  rintro v15 W15 hB15 hown
  simp only [Act.put, Act.eval, Array.getD_eq_getD_getElem?, List.getElem?_toArray, List.getElem?_cons_zero, List.getElem?_cons_succ, Option.getD_some, List.setIfInBounds_toArray, List.set_cons_succ, List.set_cons_zero]
  repeat ((first | refine lex_move _ (by first | exact Or.inl rfl | exact Or.inr rfl) rfl rfl ?_ | (refine lex_float ?_ rfl rfl (fun w1 hb1 hf1 => ?_) ?_; rotate_left; (go_simp; (try simp (disch := omega) only [IntWalk.i64_quo, IntWalk.rem_in, IntWalk.i64_in, IntWalk.u64_in, IntWalk.u32_in, IntWalk.u8_in, IntWalk.toNatUp, IntWalk.iteOmega]); (try go_simp); rfl)) | refine lex_skip rfl ?_); simp only [Act.put, Act.eval, Array.getD_eq_getD_getElem?, List.getElem?_toArray, List.getElem?_cons_zero, List.getElem?_cons_succ, Option.getD_some, List.setIfInBounds_toArray, List.set_cons_succ, List.set_cons_zero])
  refine lex_nil ?_
  clear q0 q1 c0 c1' c2 c3 fr HC
  have hB := below_trans hV hB15
  have Hown := Lib.hid hown
  clear hown
  have hsw : w.heap.size ≤ W1.heap.size := HF.out.2.size
  go_wp2_with fail
  go_ret
  exact ⟨_, rfl, owns_base Hown.out (fun j hj => Nat.le_trans hsw (Hown.out.lt j hj).1), HF.out.1.below hB, HF.out.2.trans (Ext.of_below (S := (· = r)) hB) fun _ _ h => h⟩
set_option maxHeartbeats 1000000 in
set_option maxRecDepth 100000 in
theorem rbytes_ok (r : Nat) (v : Value) (bs : List Int) (at' most : Nat) (xs : List Int) (hn : xs.length ≤ most) (hm : most ≤ 1073741824) (hp : sdnv xs.length ++ xs <+: bs.drop at') (w : World) (h : RdAt w r v bs at') :
    Calls Tryz.prog 125 #[.pointer (some ⟨r, 0, none⟩), .int .i64 most] w fun e w' => ∃ u, e = .returned u ∧ w'.ownsRow w.heap.size 5 1 u xs.length (u8s xs) ∧ RdAt w' r v bs (at' + (sdnv xs.length).length + xs.length) ∧ Ext (· = r) w w' := by
  obtain ⟨c0, c1, c2, c3, fr⟩ := h.cs
  have HB := Lib.hid (rbad_ok r v bs at' w h)
  have hp1 : sdnv xs.length <+: bs.drop at' := (List.prefix_append _ _).trans hp
  have HN := Lib.hid (rnumber_ok r v bs at' xs.length most hn (by omega) hp1 w h)
  have hm0 : ¬ (most : Int) < 0 := by omega
  have hle := hp.length_le
  rw [List.length_append, List.length_drop] at hle
  have hxl : (xs.length : Int) ≤ 1073741824 := by omega
  have e1 := IntWalk.u64_in (most : Int) (by omega)
  have e2 := IntWalk.i64_in (xs.length : Int) (by omega)
  have hpart : (bs.drop (at' + (sdnv xs.length).length)).take xs.length = xs := by
    obtain ⟨t, ht⟩ := hp
    rw [← List.drop_drop, ← ht, List.append_assoc, List.drop_left, List.take_left]
  have Hpart := Lib.hid hpart
  have Hlen := Lib.hid (And.intro hle h.le)
  clear h hp hp1 hle hpart
  go_enter Tryz.func125, Tryz.ntmps125
  go_wp2_with fail
  refine HB.out.mono ?_
  rintro e w' ⟨rfl, rfl⟩
  go_wp2_with fail
  refine HN.out.mono ?_
  rintro e w2 ⟨rfl, hR2, hX2⟩
  have HT := Lib.hid (rtake_ok r v bs (at' + (sdnv xs.length).length) xs.length (by have := Hlen.out; omega) w2 hR2)
  clear c0 c1 c2 c3 fr hR2
  go_wp2_with fail
  refine HT.out.mono ?_
  rintro e w3 ⟨u, rfl, hown, hR3, hX3⟩
  rw [Hpart.out] at hown
  obtain ⟨c0, c1, c2, c3, fr⟩ := hR3.cs
  have HF := Lib.hid (And.intro hown (And.intro hR3 (hX2.trans hX3 fun _ _ h => h)))
  have hs2 := hX2.size
  clear hown hR3 hX3 c0 c1
  go_wp2_with fail
  go_ret
  exact ⟨_, rfl, owns_base HF.out.1 (fun j hj => Nat.le_trans hs2 (HF.out.1.lt j hj).1), HF.out.2.1, HF.out.2.2⟩
set_option maxRecDepth 100000 in
theorem rend_ok (r : Nat) (v : Value) (bs : List Int) (w : World) (h : RdAt w r v bs bs.length) : Calls Tryz.prog 126 #[.pointer (some ⟨r, 0, none⟩)] w fun e w' => e = .returned (.int .i64 0) ∧ Below w.heap.size w w' := by
  have HB := Lib.hid (rbad_ok r v bs _ w h)
  have HL := Lib.hid (rleft_ok r v bs _ w h)
  have HE := Lib.hid fun W (hW : Below w.heap.size w W) => rerr_ok r v bs _ W (h.below hW)
  rw [Nat.sub_self] at HL
  clear h
  go_enter Tryz.func126, Tryz.ntmps126
  go_wp2_with fail
  refine HB.out.mono ?_
  rintro e w' ⟨rfl, rfl⟩
  go_wp2_with fail
  refine HL.out.mono ?_
  rintro e w2 ⟨rfl, hB⟩
  go_wp2_with fail
  refine (HE.out _ hB).mono ?_
  rintro e w3 ⟨rfl, rfl⟩
  go_wp2_with fail
  go_ret
  exact ⟨rfl, hB⟩
end Go.Proofs.YtbjofbhhnmehgaaGreatDoor.TT
namespace Go.Proofs.YtbjofbhhnmehgaaGreatDoor.TT
open Go.RowKit Go.RG Go.Hp Go.Proofs.YtbjofbhhnmehgaaGreatDoor


def partsN (n : Nat) : Nat := max 1 ((n + 8111) / 8112)
theorem parts_any (n : Nat) (hn : n ≤ 1099511627776) (w : World) : Calls Tryz.prog 89 #[.int .i64 n] w fun e w' => e = .returned (.int .i64 (partsN n)) ∧ w = w' := by
  have hr : (if ((n : Int) + 8112 - 1) / 8112 ≤ 1 then (1 : Int) else ((n : Int) + 8112 - 1) / 8112) = (partsN n : Int) := by unfold partsN; split <;> omega
  have hr2 : (if (1 : Int) < ((n : Int) + 8112 - 1) / 8112 then ((n : Int) + 8112 - 1) / 8112 else 1) = (partsN n : Int) := by unfold partsN; split <;> omega
  go_enter Tryz.func89, Tryz.ntmps89
  go_wp2_with fail
  go_ret
  exact ⟨rfl, rfl⟩
def headB (i k : Nat) : List Int := 2 :: (sdnv i ++ sdnv k)
theorem head_any (i k : Nat) (hi : i ≤ 1099511627776) (hk : k ≤ 1099511627776) (w : World) : Calls Tryz.prog 88 #[.int .i64 i, .int .i64 k] w fun e w' => ∃ u, e = .returned u ∧ w'.ownsRow w.heap.size 5 1 u (headB i k).length (u8s (headB i k)) ∧ Below w.heap.size w w' := by
  have hb0 := below_box w (.cells #[.int .u8 2] 5)
  have g0 := World.alloc_heap_new w (.cells #[.int .u8 2] 5)
  go_enter Tryz.func88, Tryz.ntmps88
  go_wp2_with fail
  have hs : Src (w.alloc (.cells #[.int .u8 2] 5)) (.slice (some ⟨w.heap.size, 0, none⟩) 1 1) [.int .u8 2] := src_heap (cs := [.int .u8 2]) g0 (Nat.le_refl _)
  have hsz : (w.alloc (.cells #[.int .u8 2] 5)).heap.size = w.heap.size + 1 := by simp
  refine (appendNumber_any _ _ i (by omega) _ hs (fun u hu => by rw [List.mem_singleton.1 hu]; rfl) (by decide)).mono ?_
  rintro e w2 ⟨u, rfl, hown, hB⟩
  have hs2 := Src.of_owns hown
  have hl1 := sdnv_length i (by omega)
  have HN := Lib.hid (appendNumber_any u _ k (by omega) w2 hs2 (by
    intro v hv
    rcases List.mem_append.1 hv with hv | hv
    · simp at hv; subst hv; rfl
    · exact u8s_one _ v hv) (by simp [u8s_length]; omega))
  have hB2 := hb0.trans (hB.mono hb0.size)
  clear hown hs hs2 g0 hb0
  go_wp2_with fail
  refine HN.out.mono ?_
  rintro e w3 ⟨u3, rfl, hown3, hB3⟩
  have Hown := Lib.hid hown3
  clear hown3 HN
  go_wp2_with fail
  go_ret
  have e1 : [Value.int .u8 2] ++ u8s (sdnv i) ++ u8s (sdnv k) = u8s (headB i k) := by simp [headB, u8s]
  have e2 : ([Value.int .u8 2] ++ u8s (sdnv i)).length + (sdnv k).length = (headB i k).length := by simp [headB, u8s]; omega
  have hown := Hown.out
  rw [e1, e2] at hown
  exact ⟨_, rfl, owns_base hown (fun j hj => Nat.le_trans hB2.size (hown.lt j hj).1), hB2.trans (hB3.mono hB2.size)⟩
theorem headB_length (i k : Nat) : (headB i k).length = 1 + (sdnv i).length + (sdnv k).length := by simp [headB]; omega
theorem headB_le (i k : Nat) (hi : i < 18446744073709551616) (hk : k < 18446744073709551616) : (headB i k).length ≤ 21 := by
  rw [headB_length]
  have := sdnv_length i hi
  have := sdnv_length k hk
  omega
/-- so many parts of a text of n bytes cost -/
def costUp (n : Nat) : Nat → Nat
  | 0 => 0
  | i + 1 => costUp n i + need ((headB i (partsN n)).length + min 8112 (n - i * 8112))
def costN (n : Nat) : Nat := costUp n (partsN n)
theorem need_le (n : Nat) : need n ≤ 79 := by
  unfold need
  split <;> omega
theorem costUp_le (n i : Nat) : costUp n i ≤ 79 * i := by
  induction i with
  | zero => simp [costUp]
  | succ i ih => unfold costUp; have := need_le ((headB i (partsN n)).length + min 8112 (n - i * 8112)); omega
theorem partsN_le (n : Nat) : partsN n ≤ n / 8112 + 2 := by unfold partsN; omega
theorem parts_at {n i : Nat} (h : i < partsN n) : i * 8112 ≤ n := by unfold partsN at h; omega
set_option maxHeartbeats 1000000 in
set_option maxRecDepth 100000 in
theorem cost_any (n : Nat) (hn : n ≤ 1073741824) (w : World) : Calls Tryz.prog 62 #[.int .i64 n] w fun e w' => e = .returned (.int .i64 (costN n)) ∧ Below w.heap.size w w' := by
  have HP := Lib.hid (parts_any n (by omega) w)
  have hpl := partsN_le n
  have Hcu := Lib.hid (costUp_le n)
  obtain ⟨k, hk⟩ : ∃ k, partsN n = k := ⟨_, rfl⟩
  have hat : ∀ i, i < k → i * 8112 ≤ n := fun i hi => parts_at (by rw [hk]; exact hi)
  have Hat := Lib.hid hat
  have hst : ∀ i, costUp n (i + 1) = costUp n i + need ((headB i k).length + min 8112 (n - i * 8112)) := fun i => by rw [← hk]; rfl
  have Hst := Lib.hid hst
  have Hfin := Lib.hid (show costN n = costUp n k by rw [← hk]; rfl)
  rw [hk] at HP hpl
  clear hk hat hst
  have hk6 : k ≤ 200000 := by omega
  clear hpl
  go_enter Tryz.func62, Tryz.ntmps62
  go_wp2_with fail
  refine HP.out.mono ?_
  rintro e w' ⟨rfl, rfl⟩
  go_wp2_with fail
  go_loopw [4, 9] (fun vn vi wr => ∃ i : Nat, vi = .int .i64 i ∧ i ≤ k ∧ vn = .int .i64 (costUp n i) ∧ Below w.heap.size w wr) (fun _ vi _ => k - (intOf vi).toNat)
  case atStart => exact ⟨0, rfl, Nat.zero_le _, rfl, Below.refl _ _⟩
  case round =>
    obtain ⟨i, rfl, hi, rfl, hB⟩ := hrel
    by_cases hik : i < k
    · have hik' : (i : Int) < (k : Int) := by omega
      have h1 := Hat.out i hik
      have h2 := Hcu.out i
      have hh := headB_le i k (by omega) (by omega)
      have HH := Lib.hid (head_any i k (by omega) (by omega) wr)
      have hs := Hst.out i
      obtain ⟨c, hc⟩ : ∃ c, costUp n i = c := ⟨_, rfl⟩
      obtain ⟨hl, hhl⟩ : ∃ hl, (headB i k).length = hl := ⟨_, rfl⟩
      rw [hc, hhl] at hs
      rw [hc] at h2 ⊢
      rw [hhl] at HH hh
      obtain ⟨d, hd⟩ : ∃ d, min 8112 (n - i * 8112) = d := ⟨_, rfl⟩
      rw [hd] at hs
      have hdI : (if (n : Int) - (i : Int) * 8112 < 8112 then (n : Int) - (i : Int) * 8112 else 8112) = (d : Int) := by rw [← hd]; split <;> omega
      have hd1 : d ≤ 8112 := by omega
      have HNd := Lib.hid fun w' => need_any (hl + d) (by omega) w'
      have hnl := need_le (hl + d)
      have Hs := Lib.hid hs
      clear hs hd hc hhl
      go_wp2_with fail
      refine HH.out.mono ?_
      rintro e w2 ⟨u, rfl, hown, hB2⟩
      obtain ⟨ua, uc, rfl, -⟩ := owns_shape hown
      clear hown HH
      go_wp2_with fail
      rw [show (hl : Int) + (d : Int) = ((hl + d : Nat) : Int) by omega]
      refine (HNd.out w2).mono ?_
      rintro e w3 ⟨rfl, rfl⟩
      clear HNd
      go_wp2_with fail
      refine ⟨⟨i + 1, by simp, by omega, by rw [Hs.out]; simp, below_trans hB hB2⟩, ?_⟩
      show k - ((i : Int) + 1).toNat < k - (i : Int).toNat
      omega
    · obtain rfl : i = k := by omega
      have hik' : ¬ (i : Int) < (i : Int) := by omega
      go_wp2_with fail
      go_ret
      rw [Hfin.out]
      exact ⟨rfl, hB⟩
theorem sdnv_mono {a b : Nat} (h : a ≤ b) : (sdnv a).length ≤ (sdnv b).length := by
  obtain ⟨m, h1, h2, h3, -⟩ := sdnv_spec a
  obtain ⟨m', k1, k2, k3, -⟩ := sdnv_spec b
  rw [h1, k1]
  rcases Nat.lt_or_ge m' m with hm | hm
  · exfalso
    have h4 : 128 ^ (m' + 1) ≤ 128 ^ m := Nat.pow_le_pow_right (by decide) hm
    rcases h3 with rfl | h3
    · omega
    · omega
  · omega
theorem need_mono {a b : Nat} (h : a ≤ b) (hb : b ≤ 8192) : need a ≤ need b := by
  unfold need
  rw [if_pos (by omega), if_pos hb]
  omega
theorem partsN_mono {a b : Nat} (h : a ≤ b) : partsN a ≤ partsN b := by unfold partsN; omega
theorem costUp_mono {a b : Nat} (h : a ≤ b) (hb : b ≤ 1073741824) : ∀ i, i ≤ 1000000 → costUp a i ≤ costUp b i
  | 0, _ => Nat.le_refl _
  | i + 1, hi => by
    have h1 := costUp_mono h hb i (by omega)
    have h2 : (headB i (partsN a)).length ≤ (headB i (partsN b)).length := by
      rw [headB_length, headB_length]
      have := sdnv_mono (partsN_mono h)
      omega
    have h3 := headB_le i (partsN b) (by omega) (by have := partsN_le b; omega)
    have h4 := need_mono (a := (headB i (partsN a)).length + min 8112 (a - i * 8112)) (b := (headB i (partsN b)).length + min 8112 (b - i * 8112)) (by omega) (by omega)
    unfold costUp
    omega
theorem costUp_up (n : Nat) {i j : Nat} (h : i ≤ j) : costUp n i ≤ costUp n j := by
  induction j with
  | zero => rw [Nat.le_zero.1 h]; exact Nat.le_refl _
  | succ j ih =>
    rcases Nat.eq_or_lt_of_le h with rfl | h
    · exact Nat.le_refl _
    · have := ih (Nat.lt_succ_iff.1 h)
      show _ ≤ costUp n j + _
      omega
theorem costN_mono {a b : Nat} (h : a ≤ b) (hb : b ≤ 1073741824) : costN a ≤ costN b :=
  Nat.le_trans (costUp_mono h hb _ (by have := partsN_le a; omega)) (costUp_up b (partsN_mono h))
/-- a text costs at least its bytes -/
theorem costUp_ge (n : Nat) (hn : n ≤ 1073741824) : ∀ i, i ≤ partsN n → min n (i * 8112) ≤ 104 * costUp n i
  | 0, _ => by simp
  | i + 1, hi => by
    have h1 := costUp_ge n hn i (by omega)
    have h2 := parts_at (n := n) (i := i) (by omega)
    have h3 := headB_le i (partsN n) (by have := partsN_le n; omega) (by have := partsN_le n; omega)
    have h4 : min 8112 (n - i * 8112) ≤ 104 * need ((headB i (partsN n)).length + min 8112 (n - i * 8112)) := by
      unfold need
      rw [if_pos (by omega)]
      omega
    have e : costUp n (i + 1) = costUp n i + need ((headB i (partsN n)).length + min 8112 (n - i * 8112)) := rfl
    rw [e]
    generalize need ((headB i (partsN n)).length + min 8112 (n - i * 8112)) = N at h4 ⊢
    generalize costUp n i = C at h1 ⊢
    clear e h3 hi
    rw [Nat.mul_add]
    rcases Nat.le_total n (i * 8112) with h5 | h5
    · rw [Nat.min_eq_left h5] at h1
      exact Nat.le_trans (Nat.min_le_left _ _) (by omega)
    · rw [Nat.min_eq_right h5] at h1
      have h6 : min n ((i + 1) * 8112) ≤ i * 8112 + min 8112 (n - i * 8112) := by omega
      omega
theorem costN_ge (n : Nat) (hn : n ≤ 1073741824) : n ≤ 104 * costN n := by
  have := costUp_ge n hn (partsN n) (Nat.le_refl _)
  have h2 : n ≤ partsN n * 8112 := by unfold partsN; omega
  unfold costN
  omega
/-- is there room for so many bytes in a ring? -/
def fitsN (ring n : Nat) : Prop := 2 * costN n + 79 ≤ ring
/-- the capacity of a ring: what capacity tells -/
structure CapOf (ring c : Nat) : Prop where
  fit : c = 0 ∨ fitsN ring c
  top : ∀ n, c < n → n ≤ 1073741824 → ¬ fitsN ring n
  le : c ≤ ring * 104
set_option maxHeartbeats 1000000 in
set_option maxRecDepth 100000 in
theorem capacity_any (ring : Nat) (hr : ring ≤ 65536) (w : World) : Calls Tryz.prog 49 #[.int .i64 ring] w fun e w' => ∃ c : Nat, e = .returned (.int .i64 c) ∧ CapOf ring c ∧ Below w.heap.size w w' := by
  have htop : ∀ n, ring * 104 < n → n ≤ 1073741824 → ¬ fitsN ring n := fun n h1 h2 h => by
    have := costN_ge n h2
    unfold fitsN at h
    omega
  have Htop := Lib.hid htop
  clear htop
  go_enter Tryz.func49, Tryz.ntmps49
  go_wp2_with fail
  go_loopw [3, 4] (fun vl vh wr => ∃ lo hi : Nat, vl = .int .i64 lo ∧ vh = .int .i64 hi ∧ lo ≤ hi ∧ hi ≤ ring * 104 ∧ (lo = 0 ∨ fitsN ring lo) ∧ (∀ n, hi < n → n ≤ 1073741824 → ¬ fitsN ring n) ∧ Below w.heap.size w wr) (fun vl vh _ => (intOf vh).toNat - (intOf vl).toNat)
  case atStart => exact ⟨0, ring * 104, rfl, by simp, Nat.zero_le _, Nat.le_refl _, .inl rfl, Htop.out, Below.refl _ _⟩
  case round =>
    obtain ⟨lo, hi, rfl, rfl, hlh, hh, hlo, hhi, hB⟩ := hrel
    have Hlo := Lib.hid hlo
    have Hhi := Lib.hid hhi
    clear hlo hhi Htop
    by_cases hlt : lo < hi
    · have hlt' : (lo : Int) < (hi : Int) := by omega
      obtain ⟨mid, hm1, hm2, hm3⟩ : ∃ mid : Nat, ((lo : Int) + (hi : Int) + 1) / 2 = (mid : Int) ∧ lo < mid ∧ mid ≤ hi := ⟨(lo + hi + 1) / 2, by omega, by omega, by omega⟩
      have HC := Lib.hid (cost_any mid (by omega) wr)
      have hcl := costUp_le mid (partsN mid)
      have hpl := partsN_le mid
      have Hfit := Lib.hid (show fitsN ring mid ↔ 2 * costN mid + 79 ≤ ring from Iff.rfl)
      have Hmono := Lib.hid fun n (h1 : mid ≤ n) (h2 : n ≤ 1073741824) => costN_mono h1 h2
      change costN mid ≤ _ at hcl
      obtain ⟨c, hc⟩ : ∃ c, costN mid = c := ⟨_, rfl⟩
      rw [hc] at HC hcl Hfit Hmono
      clear hc
      go_wp2_with fail
      refine HC.out.mono ?_
      rintro e w2 ⟨rfl, hB2⟩
      clear HC
      by_cases hf : 2 * c + 79 ≤ ring
      · have hf' : 2 * (c : Int) + 79 ≤ (ring : Int) := by omega
        have Hf := Lib.hid (Hfit.out.2 hf)
        clear hf
        go_wp2_with fail
        refine ⟨⟨mid, hi, rfl, rfl, hm3, hh, .inr Hf.out, Hhi.out, below_trans hB hB2⟩, ?_⟩
        show (hi : Int).toNat - (mid : Int).toNat < (hi : Int).toNat - (lo : Int).toNat
        omega
      · have hf' : ¬ 2 * (c : Int) + 79 ≤ (ring : Int) := by omega
        have Hf := Lib.hid hf
        clear hf
        go_wp2_with fail
        refine ⟨⟨lo, mid - 1, rfl, by congr 1; omega, by omega, by omega, Hlo.out, fun n h1 h2 h3 => ?_, below_trans hB hB2⟩, ?_⟩
        · have h4 := Hmono.out n (by omega) h2
          have h5 := Hf.out
          unfold fitsN at h3
          omega
        · show ((mid : Int) - 1).toNat - (lo : Int).toNat < (hi : Int).toNat - (lo : Int).toNat
          omega
    · obtain rfl : lo = hi := by omega
      have hlt' : ¬ (lo : Int) < (lo : Int) := by omega
      go_wp2_with fail
      go_ret
      exact ⟨lo, rfl, ⟨Hlo.out, Hhi.out, hh⟩, hB⟩
theorem must_true (w : World) : Calls Tryz.prog 95 #[.bool true] w fun e w' => (∃ t, e = .returned t) ∧ w = w' := by
  go_enter Tryz.func95, Tryz.ntmps95
  go_wp2_with fail
  go_end0
  exact ⟨⟨_, rfl⟩, rfl⟩
/-- how many bytes a pair has -/
def pairN (k v : List Int) : Nat := (lenText (u8s k)).length + (lenText (u8s v)).length
theorem pairBytes_any (va vb : Value) (k v : List Int) (w : World) (hk : Src w va (u8s k)) (hv : Src w vb (u8s v)) (hkl : k.length ≤ 1073741824) (hvl : v.length ≤ 1073741824) :
    Calls Tryz.prog 104 #[va, vb] w fun e w' => e = .returned (.int .i64 (pairN k v)) ∧ Below w.heap.size w w' := by
  have hs0 : Src w (.slice none 0 0) [] := .inr ⟨rfl, rfl⟩
  have HA := Lib.hid (appendBytes_any (.slice none 0 0) va [] (u8s k) w hs0 hk (fun u h => by cases h) (u8s_one _) (by decide) (by rw [u8s_length]; omega))
  have Hv := Lib.hid hv
  have hl1 := sdnv_length k.length (by omega)
  clear hs0 hk hv
  go_enter Tryz.func104, Tryz.ntmps104
  go_wp2_with fail
  refine HA.out.mono ?_
  rintro e w1 ⟨u, rfl, hown, hB⟩
  have HA2 := Lib.hid (appendBytes_any u vb _ (u8s v) w1 (Src.of_owns hown) (Hv.out.below hB) (by rw [List.nil_append]; exact lenText_one (u8s_one _)) (u8s_one _) (by simp [lenText, u8s_length]; omega) (by rw [u8s_length]; omega))
  clear hown
  go_wp2_with fail
  refine HA2.out.mono ?_
  rintro e w2 ⟨u2, rfl, hown2, hB2⟩
  obtain ⟨a, c, rfl, -⟩ := owns_shape hown2
  have hle : (([] ++ lenText (u8s k)) ++ lenText (u8s v)).length = pairN k v := by simp [pairN]
  rw [hle]
  clear hown2 hle
  go_wp2_with fail
  go_ret
  exact ⟨rfl, below_trans hB hB2⟩
end Go.Proofs.YtbjofbhhnmehgaaGreatDoor.TT
namespace Go.Proofs.YtbjofbhhnmehgaaGreatDoor.TT
open Go.RowKit Go.RG Go.Hp Go.Proofs.YtbjofbhhnmehgaaGreatDoor


/-- the record of part i of a text -/
def partB (bs : List Int) (i : Nat) : List Int := headB i (partsN bs.length) ++ (bs.drop (i * 8112)).take 8112
set_option maxHeartbeats 1000000 in
set_option maxRecDepth 100000 in
theorem partRecord_any (v : Value) (bs : List Int) (i : Nat) (hi : i * 8112 ≤ bs.length) (hl : bs.length ≤ 1073741824) (w : World) (hv : Src w v (u8s bs)) :
    Calls Tryz.prog 47 #[v, .int .i64 i] w fun e w' => ∃ u, e = .returned u ∧ w'.ownsRow w.heap.size 5 1 u (partB bs i).length (u8s (partB bs i)) ∧ Below w.heap.size w w' := by
  obtain ⟨a, c, rfl, hc⟩ := hv.shape
  rw [u8s_length] at hv hc ⊢
  have Hv := Lib.hid hv
  obtain ⟨m, hm⟩ : ∃ m, bs.length = m := ⟨_, rfl⟩
  rw [hm] at hi hl Hv hc ⊢
  have hpl := partsN_le m
  have HP := Lib.hid fun w' => parts_any m (by omega) w'
  obtain ⟨k, hk⟩ : ∃ k, partsN m = k := ⟨_, rfl⟩
  rw [hk] at HP hpl
  have hh := headB_le i k (by omega) (by omega)
  have HH := Lib.hid fun w' => head_any i k (by omega) (by omega) w'
  obtain ⟨d, hd⟩ : ∃ d, min 8112 (m - i * 8112) = d := ⟨_, rfl⟩
  have hdI : (if ((i : Int) + 1) * 8112 < (m : Int) then ((i : Int) + 1) * 8112 else (m : Int)) = (i : Int) * 8112 + (d : Int) := by rw [← hd]; split <;> omega
  have hd1 : d ≤ 8112 := by omega
  have hd2 : i * 8112 + d ≤ m := by omega
  have hpart : (List.take (i * 8112 + d) bs).drop (i * 8112) = (bs.drop (i * 8112)).take 8112 := by
    rw [List.drop_take, Nat.add_sub_cancel_left]
    apply List.take_eq_take_iff.2
    rw [List.length_drop, hm]
    omega
  have Hpart := Lib.hid (And.intro hpart (And.intro hk hm))
  have HM := Lib.hid hm
  have Hrun := Lib.hid (show ∀ w1, (Instr.sliceAt 52 (.slice a m c) (some (.int .i64 ((i : Int) * 8112))) (some (.int .i64 ((i : Int) * 8112 + (d : Int)))) none).run Tryz.prog w1 = .ok (partV (i * 8112) (i * 8112 + d) (.slice a m c)) w1 from fun w1 => by
    have := part_run 52 und_bytes' size_bytes (a := a) (n := m) (c := c) (i * 8112) (i * 8112 + d) (by omega) (by omega) w1
    rw [show ((i * 8112 : Nat) : Int) = (i : Int) * 8112 by omega, show ((i * 8112 + d : Nat) : Int) = (i : Int) * 8112 + (d : Int) by omega] at this
    exact this)
  clear hpart hd hk hm hv
  go_enter Tryz.func47, Tryz.ntmps47
  go_wp2_with fail
  refine wp_region_rg_tail 15 (fun j => if j = 3 then some (fun v _ => v = .int .i64 k) else if j = 4 then some (fun v w' => w'.ownsRow w.heap.size 5 1 v (headB i k).length (u8s (headB i k))) else none) fol (by kernel_rfl) (fun W hW hh => ?_)
  clear hh
  simp only [List.take_succ_cons, List.take_zero, List.drop_succ_cons, List.drop_zero]
  have hsz := hW.size
  repeat ((first | refine lex_move _ (by first | exact Or.inl rfl | exact Or.inr rfl) rfl rfl ?_ | (refine lex_float ?_ rfl rfl (fun w1 hb1 hf1 => ?_) ?_; rotate_left; (go_simp; (try simp (disch := omega) only [IntWalk.i64_quo, IntWalk.rem_in, IntWalk.i64_in, IntWalk.u64_in, IntWalk.u32_in, IntWalk.u8_in, IntWalk.toNatUp, IntWalk.iteOmega]); (try go_simp); rfl)) | refine lex_skip rfl ?_); simp only [Act.put, Act.eval, Array.getD_eq_getD_getElem?, List.getElem?_toArray, List.getElem?_cons_zero, List.getElem?_cons_succ, Option.getD_some, List.setIfInBounds_toArray, List.set_cons_succ, List.set_cons_zero])
  refine lex_make _ rfl (by exact fun _ _ _ h _ => h) rfl (fun w1 hb1 hf1 => ?_) ?_
  · (unfold makes; go_simp; simp only [makesUpon])
    refine (HP.out _).mono ?_
    rintro e w' ⟨rfl, rfl⟩
    exact ⟨_, rfl, Below.refl _ _, rfl⟩
  rintro v3 W3 hB3 rfl
  simp only [Act.put, Act.eval, Array.getD_eq_getD_getElem?, List.getElem?_toArray, List.getElem?_cons_zero, List.getElem?_cons_succ, Option.getD_some, List.setIfInBounds_toArray, List.set_cons_succ, List.set_cons_zero]
  refine lex_make _ rfl (by exact fun _ _ _ h hb => owns_below h hb) rfl (fun w1 hb1 hf1 => ?_) ?_
  · have hb1' := hb1
    (unfold makes; go_simp; simp only [makesUpon])
    refine (HH.out _).mono ?_
    rintro e w' ⟨u, rfl, hown, hB⟩
    exact ⟨u, rfl, hB, owns_base hown fun j hj => Nat.le_trans (Nat.le_trans hsz hb1'.size) (hown.lt j hj).1⟩
  rintro v4 W4 hB4 hown
  simp only [Act.put, Act.eval, Array.getD_eq_getD_getElem?, List.getElem?_toArray, List.getElem?_cons_zero, List.getElem?_cons_succ, Option.getD_some, List.setIfInBounds_toArray, List.set_cons_succ, List.set_cons_zero]
  iterate 9 (first
    | (refine lex_move _ (by first | exact Or.inl rfl | exact Or.inr rfl) rfl rfl ?_
       simp only [Act.put, Act.eval, Array.getD_eq_getD_getElem?, List.getElem?_toArray, List.getElem?_cons_zero, List.getElem?_cons_succ, Option.getD_some, List.setIfInBounds_toArray, List.set_cons_succ, List.set_cons_zero]
      )
    | (refine lex_float ?_ rfl rfl (fun w1 hb1 hf1 => ?_) ?_
       rotate_left
       (go_simp; (try simp (disch := omega) only [IntWalk.i64_quo, IntWalk.rem_in, IntWalk.i64_in, IntWalk.u64_in, IntWalk.u32_in, IntWalk.u8_in, IntWalk.toNatUp, IntWalk.iteOmega]); (try go_simp); rfl)
       simp only [Act.put, Act.eval, Array.getD_eq_getD_getElem?, List.getElem?_toArray, List.getElem?_cons_zero, List.getElem?_cons_succ, Option.getD_some, List.setIfInBounds_toArray, List.set_cons_succ, List.set_cons_zero]
      ))
  refine lex_float (partV (i * 8112) (i * 8112 + d) (.slice a m c)) rfl rfl (fun w1 hb1 hf1 => exec_sliceLH (.tmp 10) (.tmp 12) (.tmp 18) 52 rfl (Hrun.out w1)) ?_
  simp only [Act.put, Act.eval, Array.getD_eq_getD_getElem?, List.getElem?_toArray, List.getElem?_cons_zero, List.getElem?_cons_succ, Option.getD_some, List.setIfInBounds_toArray, List.set_cons_succ, List.set_cons_zero]
  refine lex_nil ?_
  have hB := below_trans hW (below_trans hB3 hB4)
  have hsrc : Src W4 (partV (i * 8112) (i * 8112 + d) (.slice a m c)) (u8s ((bs.drop (i * 8112)).take 8112)) := by
    have := partV_src (Hv.out.below hB) (i * 8112) (i * 8112 + d) (by omega) (by rw [u8s_length, HM.out]; exact hd2)
    rwa [← u8s_take, ← u8s_drop, Hpart.out.1] at this
  obtain ⟨pa, pc, hpv, -⟩ := hsrc.shape
  rw [hpv] at hsrc ⊢
  have Hsrc := Lib.hid hsrc
  have Hown := Lib.hid hown
  have hs4 := hB.size
  have hpl2 : (u8s ((bs.drop (i * 8112)).take 8112)).length ≤ 8112 := by rw [u8s_length, List.length_take]; omega
  clear hsrc hown hpv hdI
  go_wp2_with (at_builtin; go_loud (refine own_append_src rfl _ _ rfl w.heap.size _ _ _ _ (u8s ((bs.drop (i * 8112)).take 8112)) rfl Hown.out rfl Hsrc.out (u8s_one _) (by omega) hs4 ?_; intro v2 w2 hown2 hg2; have Hg2 := Lib.hid hg2; have Hown2 := Lib.hid hown2; clear hown2 hg2))
  go_ret
  have hf := Hown2.out
  rw [← u8s_append, u8s_length] at hf
  have e1 : headB i k ++ (bs.drop (i * 8112)).take 8112 = partB bs i := by unfold partB; rw [HM.out, Hpart.out.2.1]
  rw [e1] at hf
  have e2 : (headB i k).length + ((bs.drop (i * 8112)).take 8112).length = (partB bs i).length := by rw [← e1, List.length_append]
  rw [e2] at hf
  exact ⟨_, rfl, hf, hB.trans Hg2.out⟩
end Go.Proofs.YtbjofbhhnmehgaaGreatDoor.TT
namespace Go.Proofs.YtbjofbhhnmehgaaGreatDoor.TT
open Go.RowKit Go.RG Go.Hp Go.Proofs.YtbjofbhhnmehgaaGreatDoor


theorem runR_at (x : Dsk) (first size : Nat) (k : Nat) : -1 ≤ (runR x first size k).2 ∧ (runR x first size k).2 < k := by
  induction k with
  | zero => exact ⟨by show (-1 : Int) ≤ -1; decide, by show (-1 : Int) < 0; decide⟩
  | succ k ih =>
    unfold runR bestR
    split
    · exact ⟨by show -1 ≤ (k : Int); omega, by show (k : Int) < ((k + 1 : Nat) : Int); omega⟩
    · exact ⟨ih.1, by have := ih.2; omega⟩
/-- the slot that is erased first -/
def fmtK (x : Dsk) (first size : Nat) : Nat := ((1 - (countsR x first size).2) % 2).toNat
theorem fmtK_lt (x : Dsk) (first size : Nat) : fmtK x first size < 2 := by unfold fmtK; omega
/-- so many slots are erased -/
def fmtE (x : Dsk) (first k : Nat) : Nat → Dsk × Int
  | 0 => (x, 0)
  | i + 1 => if (fmtE x first k i).2 = 0 then (layX (fmtE x first k i).1 (first + (k + i) % 2) (zeros 128), layE (fmtE x first k i).1 (first + (k + i) % 2) (zeros 128)) else fmtE x first k i
/-- so many sectors of the ring are written -/
def fmtW (x : Dsk) (first : Nat) : Nat → Dsk × Bool
  | 0 => (x, true)
  | i + 1 => if (fmtW x first i).2 = true then (writeX (fmtW x first i).1 (first + (2 + i)) (zeros 128), goesB (fmtW x first i).1) else fmtW x first i
def head1 : Head := ⟨1, 0, 0, 0⟩
/-- what Format leaves and tells -/
def formatR (x : Dsk) (first size : Nat) : Dsk × Int :=
  if x.off then (x, 5) else
  if (fmtE x first (fmtK x first size) 2).2 ≠ 0 then fmtE x first (fmtK x first size) 2 else
  if (fmtW (fmtE x first (fmtK x first size) 2).1 first (size - 2)).2 = false then ((fmtW (fmtE x first (fmtK x first size) 2).1 first (size - 2)).1, 5) else
  if goesB (fmtW (fmtE x first (fmtK x first size) 2).1 first (size - 2)).1 = false then (flushX (fmtW (fmtE x first (fmtK x first size) 2).1 first (size - 2)).1, 5) else
  (layX (flushX (fmtW (fmtE x first (fmtK x first size) 2).1 first (size - 2)).1) (first + 1) (headText head1 size), layE (flushX (fmtW (fmtE x first (fmtK x first size) 2).1 first (size - 2)).1) (first + 1) (headText head1 size))
theorem fmtE_len (x : Dsk) (first k i : Nat) : (fmtE x first k i).1.dur.length = x.dur.length := by
  induction i with
  | zero => rfl
  | succ i ih =>
    unfold fmtE
    split
    · rw [layX_len]; exact ih
    · exact ih
theorem fmtW_len (x : Dsk) (first i : Nat) : (fmtW x first i).1.dur.length = x.dur.length := by
  induction i with
  | zero => rfl
  | succ i ih =>
    unfold fmtW
    split
    · rw [writeX_dur]; exact ih
    · exact ih
theorem fmtE_stop {x : Dsk} {first k i K : Nat} (h : (fmtE x first k i).2 ≠ 0) (hK : i ≤ K) : fmtE x first k K = fmtE x first k i := by
  induction K with
  | zero => rw [Nat.le_zero.1 hK]
  | succ K ih =>
    rcases Nat.eq_or_lt_of_le hK with rfl | hK
    · rfl
    · have := ih (Nat.lt_succ_iff.1 hK)
      show (if (fmtE x first k K).2 = 0 then _ else fmtE x first k K) = _
      rw [if_neg (by rw [this]; exact h), this]
theorem fmtW_stop {x : Dsk} {first i K : Nat} (h : (fmtW x first i).2 = false) (hK : i ≤ K) : fmtW x first K = fmtW x first i := by
  induction K with
  | zero => rw [Nat.le_zero.1 hK]
  | succ K ih =>
    rcases Nat.eq_or_lt_of_le hK with rfl | hK
    · rfl
    · have := ih (Nat.lt_succ_iff.1 hK)
      show (if (fmtW x first K).2 = true then _ else fmtW x first K) = _
      rw [if_neg (by rw [this, h]; decide), this]
set_option maxHeartbeats 2000000 in
set_option maxRecDepth 100000 in
theorem format_any (b : Bks) (x : Dsk) (N first size : Nat) (h1 : 2 < size) (h2 : first + size ≤ x.dur.length) (w : World) (h : Sys w b x N) (hN : N ≤ 1099511000000) :
    Calls Tryz.prog 44 #[.pointer (some ⟨b.d, 0, none⟩), .int .i64 first, .int .i64 size] w fun e w' => e = .returned (.int .i64 (formatR x first size).2) ∧ SysPost w b (formatR x first size).1 (N + 65540) w' := by
  have hlim := h.dsk.lim
  have hmk : ∀ w, Sem.run Tryz.prog (Instr.makeSlice 52 (.int .i64 128) (.int .i64 128)) w = .ok (.slice (some ⟨w.heap.size, 0, none⟩) 128 128) (w.alloc (.cells (u8s (zeros 128)).toArray 5)) := make_bytes 128 (by decide)
  have hb0 := below_box w (.cells #[.pointer (some ⟨b.d, 0, none⟩), .int .i64 first, .int .i64 size] 126)
  have g0 := World.alloc_heap_new w (.cells #[.pointer (some ⟨b.d, 0, none⟩), .int .i64 first, .int .i64 size] 126)
  have hlt := h.dsk.lt
  have H := Lib.hid h
  have HR := Lib.hid (ready_any b x first size _ (h.below hb0).dsk h1 h2)
  clear h
  unfold placeV at HR
  go_enter Tryz.func44, Tryz.ntmps44
  go_wp2_with fail
  generalize World.alloc w _ = w1 at hb0 g0 HR ⊢
  refine HR.out.mono ?_
  rintro e w2 ⟨rfl, hB2⟩
  have hB2 := below_trans hb0 hB2
  have hf0 : ∀ o, x.off = o → formatR x first size = if o then (x, 5) else
      if (fmtE x first (fmtK x first size) 2).2 ≠ 0 then fmtE x first (fmtK x first size) 2 else
      if (fmtW (fmtE x first (fmtK x first size) 2).1 first (size - 2)).2 = false then ((fmtW (fmtE x first (fmtK x first size) 2).1 first (size - 2)).1, 5) else
      if goesB (fmtW (fmtE x first (fmtK x first size) 2).1 first (size - 2)).1 = false then (flushX (fmtW (fmtE x first (fmtK x first size) 2).1 first (size - 2)).1, 5) else
      (layX (flushX (fmtW (fmtE x first (fmtK x first size) 2).1 first (size - 2)).1) (first + 1) (headText head1 size), layE (flushX (fmtW (fmtE x first (fmtK x first size) 2).1 first (size - 2)).1) (first + 1) (headText head1 size)) := fun o h => by unfold formatR; rw [h]
  obtain ⟨o, hoff⟩ : ∃ o, x.off = o := ⟨_, rfl⟩
  have Hf0 := Lib.hid (hf0 o hoff)
  have hre : readyE x = if o then 5 else 0 := by unfold readyE; rw [hoff]
  rw [hre]
  clear hf0 hre hoff
  cases o
  · have gw2 := below_heap (show Below w1.heap.size w1 w2 by assumption) g0
    rw [if_neg (by decide)]
    obtain ⟨K, hK⟩ : ∃ K, fmtK x first size = K := ⟨_, rfl⟩
    have hf1 := Hf0.out.trans (if_neg (by decide))
    rw [hK] at hf1
    have Hf1 := Lib.hid hf1
    have hKl := fmtK_lt x first size
    have hat := runR_at x first size 2
    have hKd : ((1 - (countsR x first size).2) % 2).toNat = K := hK
    change -1 ≤ (countsR x first size).2 ∧ (countsR x first size).2 < 2 at hat
    have hB3 := below_trans hB2 (below_box w2 (.cells (u8s (zeros 128)).toArray 5))
    have gz := World.alloc_heap_new w2 (.cells (u8s (zeros 128)).toArray 5)
    have gw3 := below_heap (below_box w2 (.cells (u8s (zeros 128)).toArray 5)) gw2
    have HC := Lib.hid (counts_any b x first size (by omega) (by omega) (w2.alloc (.cells (u8s (zeros 128)).toArray 5)) (H.out.below hB3).dsk H.out.ok.ok (H.out.below hB3).pkg)
    generalize countsR x first size = cr at HC hat hKd
    obtain ⟨⟨cg, ce, cf, cl⟩, at'⟩ := cr
    unfold headV placeV at HC
    simp only at HC hat hKd
    have hsz2 : w.heap.size < w2.heap.size := Nat.lt_of_lt_of_le (block_lt_of_heap g0) (show w1.heap.size ≤ w2.heap.size from Below.size (by assumption))
    obtain ⟨zb, hzb⟩ : ∃ zb, w2.heap.size = zb := ⟨_, rfl⟩
    rw [hK] at hKl
    obtain ⟨p0, p1, p2⟩ : w2.cell? ⟨w.heap.size, 0, none⟩ = some (.pointer (some ⟨b.d, 0, none⟩)) ∧ w2.cell? ⟨w.heap.size, 1, none⟩ = some (.int .i64 first) ∧ w2.cell? ⟨w.heap.size, 2, none⟩ = some (.int .i64 size) := by simp [World.cell?, gw2]
    clear Hf0 hf1 hK gw2 g0 HR hzb
    go_wp2_with fail
    generalize w2.alloc (.cells (u8s (zeros 128)).toArray 5) = w3 at hB3 gz gw3 HC ⊢
    generalize w2.heap.size = zb at gz hsz2 ⊢
    refine HC.out.mono ?_
    clear HC p0 p1 p2
    rintro e w4 ⟨rfl, hB4⟩
    have hB4' := below_trans hB3 hB4
    have gz4 := below_heap hB4 gz
    have gw4 := below_heap hB4 gw3
    have hB5 := below_box w4 (.cells #[.int .u64 cg, .int .u64 ce, .int .u64 cf, .int .u64 cl] 128)
    have gz5 := below_heap hB5 gz4
    have gw5 := below_heap hB5 gw4
    have hB5' := below_trans hB4' hB5
    clear gz gw3 hB3 hB4 gz4 gw4 hB4'
    go_wp2_with fail
    rw [show (1 - at') % 2 = (K : Int) by omega]
    generalize World.alloc w4 _ = w5 at hB5' gz5 gw5 hB5 ⊢
    have HS5 := Lib.hid (H.out.below hB5')
    have hwz : w.heap.size < w5.heap.size ∧ zb < w5.heap.size := ⟨block_lt_of_heap gw5, block_lt_of_heap gz5⟩
    have hpw : ∀ b' : Bks, (∀ j, b'.all j → b.all j ∨ w5.heap.size ≤ j) → ¬ b'.all w.heap.size ∧ ¬ b'.all zb := fun b' ha => ⟨fun h => (ha _ h).elim (fun h => by have := hlt _ h; omega) (fun h => by omega), fun h => (ha _ h).elim (fun h => by have := hlt _ h; omega) (fun h => by omega)⟩
    have Hpw := Lib.hid hpw
    clear hKd hpw hB5 hat hB2
    go_loopw [36] (fun vi wr => ∃ i : Nat, vi = .int .i64 i ∧ i ≤ 2 ∧ (fmtE x first K i).2 = 0 ∧ SysPost w5 b (fmtE x first K i).1 (N + i) wr ∧ wr.heap[w.heap.size]? = some (.cells #[.pointer (some ⟨b.d, 0, none⟩), .int .i64 first, .int .i64 size] 126 (0, 0)) ∧ wr.heap[zb]? = some (.cells (u8s (zeros 128)).toArray 5 (0, 0)))
      (fun vi _ => 2 - (intOf vi).toNat)
    case atStart => exact ⟨0, rfl, by omega, rfl, .same HS5.out (Below.refl _ _), gw5, gz5⟩
    case round =>
      obtain ⟨i, rfl, hi, hE, ⟨b2, hd2, ha2, hX2, hS2⟩, gp, gz⟩ := hrel
      clear gw5 gz5
      obtain ⟨p0, p1, p2⟩ : wr.cell? ⟨w.heap.size, 0, none⟩ = some (.pointer (some ⟨b.d, 0, none⟩)) ∧ wr.cell? ⟨w.heap.size, 1, none⟩ = some (.int .i64 first) ∧ wr.cell? ⟨w.heap.size, 2, none⟩ = some (.int .i64 size) := by simp [World.cell?, gp]
      by_cases hlt2 : i < 2
      · have hii : (i : Int) < 2 := by omega
        have hsrc : Src wr (.slice (some ⟨zb, 0, none⟩) 128 128) (u8s (zeros 128)) := by
          have := src_heap (c := 128) gz (by rw [u8s_length, zeros_length]; exact Nat.le_refl _)
          rwa [u8s_length, zeros_length] at this
        have hm0 : (0 : Int) ≤ ((K : Int) + (i : Int)) % 2 := by omega
        have hm1 : ((K : Int) + (i : Int)) % 2 < 2 := by omega
        have hq := IntWalk.i64_in ((first : Int) + ((K : Int) + (i : Int)) % 2) (by omega)
        have HL := Lib.hid (lay_any b2 (fmtE x first K i).1 (N + i) first size (first + (K + i) % 2) (by rw [fmtE_len]; omega) (.slice (some ⟨zb, 0, none⟩) 128 128) (zeros 128) (zeros_length _) (zeros_isBytes _) wr hS2 (by omega) hsrc)
        unfold placeV at HL
        rw [hd2] at HL
        have HSt := Lib.hid (show fmtE x first K (i + 1) = (layX (fmtE x first K i).1 (first + (K + i) % 2) (zeros 128), layE (fmtE x first K i).1 (first + (K + i) % 2) (zeros 128)) by
          show (if (fmtE x first K i).2 = 0 then _ else _) = _
          rw [if_pos hE])
        have HX := Lib.hid (And.intro ha2 hX2)
        have HG := Lib.hid (And.intro gp gz)
        clear hsrc hS2 ha2 hX2 hE gp gz
        go_wp2_with fail
        rw [show (first : Int) + ((K : Int) + (i : Int)) % 2 = ((first + (K + i) % 2 : Nat) : Int) by omega]
        clear hq hm0 hm1
        refine HL.out.mono ?_
        rintro e w6 ⟨rfl, b6, hd6, ha6, hX6, hS6⟩
        have hnp := Hpw.out b2 HX.out.1
        have gp6 := hX6.heap HG.out.1 hnp.1
        have gz6 := hX6.heap HG.out.2 hnp.2
        have hS6' : Sys w6 b6 (layX (fmtE x first K i).1 (first + (K + i) % 2) (zeros 128)) (N + (i + 1)) := hS6.mono (by unfold layN; split <;> omega)
        have hP6 : SysPost w5 b (fmtE x first K (i + 1)).1 (N + (i + 1)) w6 := by
          rw [HSt.out]
          exact .trans hd2 HX.out.1 HX.out.2 ⟨b6, hd6, ha6, hX6, hS6'⟩
        have HP6 := Lib.hid hP6
        have HG6 := Lib.hid (And.intro gp6 gz6)
        clear hS6 hS6' ha6 hX6 gp6 gz6 hnp hP6 p0 p1 p2
        rcases layE_two (fmtE x first K i).1 (first + (K + i) % 2) (zeros 128) with hE | hE
        · rw [hE]
          have HE := Lib.hid (show (fmtE x first K (i + 1)).2 = 0 by rw [HSt.out]; exact hE)
          clear hE
          go_wp2_with fail
          refine ⟨⟨i + 1, by simp, by omega, HE.out, HP6.out, HG6.out.1, HG6.out.2⟩, ?_⟩
          show 2 - ((i : Int) + 1).toNat < 2 - (i : Int).toNat
          omega
        · rw [hE]
          have he2 : (fmtE x first K (i + 1)).2 = 5 := by rw [HSt.out]; exact hE
          have hst := fmtE_stop (K := 2) (show (fmtE x first K (i + 1)).2 ≠ 0 by rw [he2]; decide) (by omega)
          have Hf2 := Lib.hid (Hf1.out.trans (if_pos (by rw [hst, he2]; decide)))
          have Hst := Lib.hid (And.intro hst he2)
          clear hE he2 hst
          go_wp2_with fail
          go_ret
          rw [Hf2.out, Hst.out.1, Hst.out.2]
          exact ⟨rfl, .mono (.of_below hB5' HP6.out) (by omega)⟩
      · obtain rfl : i = 2 := by omega
        have hii : ¬ ((2 : Nat) : Int) < 2 := by omega
        have Hf2 := Lib.hid (Hf1.out.trans (if_neg (by rw [hE]; decide)))
        obtain ⟨Y, hY⟩ : ∃ Y, (fmtE x first K 2).1 = Y := ⟨_, rfl⟩
        rw [hY] at Hf2 hS2
        have hYl : Y.dur.length = x.dur.length := by rw [← hY, fmtE_len]
        have HX := Lib.hid (And.intro ha2 (And.intro hX2 hS2))
        have HG := Lib.hid (And.intro gp gz)
        clear ha2 hX2 hS2 gp gz p0 p1 p2 hE hY Hf1
        go_wp2_with fail
        go_loopw [15] (fun vi wr => ∃ i : Nat, vi = .int .i64 ((i : Int) + 2) ∧ i ≤ size - 2 ∧ (fmtW Y first i).2 = true ∧ SysPost w5 b (fmtW Y first i).1 (N + 2 + i) wr ∧ wr.heap[w.heap.size]? = some (.cells #[.pointer (some ⟨b.d, 0, none⟩), .int .i64 first, .int .i64 size] 126 (0, 0)) ∧ wr.heap[zb]? = some (.cells (u8s (zeros 128)).toArray 5 (0, 0)))
          (fun vi _ => size - (intOf vi).toNat)
        case atStart => exact ⟨0, rfl, by omega, rfl, ⟨b2, hd2, HX.out.1, HX.out.2.1, HX.out.2.2⟩, HG.out.1, HG.out.2⟩
        case round =>
          obtain ⟨i, rfl, hi, hE, ⟨b3, hd3, ha3, hX3, hS3⟩, gp, gz⟩ := hrel
          clear HX HG hd2
          by_cases hlt3 : i < size - 2
          · have hii : (i : Int) + 2 < (size : Int) := by omega
            have hsrc : Src wr (.slice (some ⟨zb, 0, none⟩) 128 128) (u8s (zeros 128)) := by
              have := src_heap (c := 128) gz (by rw [u8s_length, zeros_length]; exact Nat.le_refl _)
              rwa [u8s_length, zeros_length] at this
            have HL := Lib.hid (write_sys b3 (fmtW Y first i).1 (N + 2 + i) (first + (2 + i)) (by rw [fmtW_len]; omega) (.slice (some ⟨zb, 0, none⟩) 128 128) (zeros 128) (zeros_length _) (zeros_isBytes _) wr hS3 (by omega) hsrc)
            rw [hd3] at HL
            have HSt := Lib.hid (show fmtW Y first (i + 1) = (writeX (fmtW Y first i).1 (first + (2 + i)) (zeros 128), goesB (fmtW Y first i).1) by
              show (if (fmtW Y first i).2 = true then _ else _) = _
              rw [if_pos hE])
            have HX := Lib.hid (And.intro ha3 hX3)
            have HG := Lib.hid (And.intro gp gz)
            clear hsrc hS3 ha3 hX3 hE gp gz
            go_wp2_with fail
            rw [show (first : Int) + ((i : Int) + 2) = ((first + (2 + i) : Nat) : Int) by omega]
            refine HL.out.mono ?_
            rintro e w6 ⟨rfl, b6, hd6, ha6, hX6, hS6⟩
            have hnp := Hpw.out b3 HX.out.1
            have gp6 := hX6.heap HG.out.1 hnp.1
            have gz6 := hX6.heap HG.out.2 hnp.2
            have hP6 : SysPost w5 b (fmtW Y first (i + 1)).1 (N + 2 + (i + 1)) w6 := by
              rw [HSt.out]
              exact .trans hd3 HX.out.1 HX.out.2 ⟨b6, hd6, ha6, hX6, hS6⟩
            have HP6 := Lib.hid hP6
            have HG6 := Lib.hid (And.intro gp6 gz6)
            clear hS6 ha6 hX6 gp6 gz6 hnp hP6
            cases hgo : goesB (fmtW Y first i).1
            · have hge : goesE (fmtW Y first i).1 = 5 := by simp [goesE, hgo]
              have he2 : (fmtW Y first (i + 1)).2 = false := by rw [HSt.out]; exact hgo
              have hst := fmtW_stop (K := size - 2) he2 (by omega)
              have Hf3 := Lib.hid (Hf2.out.trans (if_pos (by rw [hst, he2])))
              have Hst := Lib.hid hst
              rw [hge]
              clear hge he2 hst hgo
              go_wp2_with fail
              go_ret
              rw [Hf3.out, Hst.out]
              exact ⟨rfl, .mono (.of_below hB5' HP6.out) (by omega)⟩
            · have hge : goesE (fmtW Y first i).1 = 0 := by simp [goesE, hgo]
              have HE := Lib.hid (show (fmtW Y first (i + 1)).2 = true by rw [HSt.out]; exact hgo)
              rw [hge]
              clear hge hgo
              go_wp2_with fail
              refine ⟨⟨i + 1, by simp; omega, by omega, HE.out, HP6.out, HG6.out.1, HG6.out.2⟩, ?_⟩
              show size - ((i : Int) + 2 + 1).toNat < size - ((i : Int) + 2).toNat
              omega
          · obtain rfl : i = size - 2 := by omega
            have hii : ¬ (((size - 2 : Nat) : Int) + 2 < (size : Int)) := by omega
            have Hf3 := Lib.hid (Hf2.out.trans (if_neg (by rw [hE]; decide)))
            obtain ⟨Z, hZ⟩ : ∃ Z, (fmtW Y first (size - 2)).1 = Z := ⟨_, rfl⟩
            rw [hZ] at Hf3 hS3
            have hZl : Z.dur.length = x.dur.length := by rw [← hZ, fmtW_len, hYl]
            have HX := Lib.hid (And.intro ha3 hX3)
            have HG := Lib.hid gp
            have HF := Lib.hid (flush_sys b3 Z (N + 2 + (size - 2)) wr hS3)
            rw [hd3] at HF
            clear hS3 ha3 hX3 hE gp gz hZ Hf2
            go_wp2_with fail
            refine HF.out.mono ?_
            rintro e w6 ⟨rfl, b6, hd6, ha6, hX6, hS6⟩
            have hnp := Hpw.out b3 HX.out.1
            have gp6 := hX6.heap HG.out hnp.1
            have hS6' : Sys w6 b6 (flushX Z) (N + 2 + (size - 2)) := hS6.mono (by unfold flushN; split <;> omega)
            obtain ⟨b7, hd7, ha7, hX7, hS7⟩ : SysPost w5 b (flushX Z) (N + 2 + (size - 2)) w6 := .trans hd3 HX.out.1 HX.out.2 ⟨b6, hd6, ha6, hX6, hS6'⟩
            have HG6 := Lib.hid gp6
            have HS7 := Lib.hid (And.intro ha7 (And.intro hX7 hS7))
            clear hS6 hS6' ha6 hX6 gp6 hnp ha7 hX7 hS7
            cases hgo : goesB Z
            · have hge : goesE Z = 5 := by simp [goesE, hgo]
              have Hf4 := Lib.hid (Hf3.out.trans (if_pos hgo))
              rw [hge]
              clear hge hgo
              go_wp2_with fail
              go_ret
              rw [Hf4.out]
              exact ⟨rfl, .mono (.of_below hB5' ⟨b7, hd7, HS7.out.1, HS7.out.2.1, HS7.out.2.2⟩) (by omega)⟩
            · have hge : goesE Z = 0 := by simp [goesE, hgo]
              have Hf4 := Lib.hid (Hf3.out.trans (if_neg (by rw [hgo]; decide)))
              rw [hge]
              clear hge hgo
              obtain ⟨p0, p1, p2⟩ : w6.cell? ⟨w.heap.size, 0, none⟩ = some (.pointer (some ⟨b.d, 0, none⟩)) ∧ w6.cell? ⟨w.heap.size, 1, none⟩ = some (.int .i64 first) ∧ w6.cell? ⟨w.heap.size, 2, none⟩ = some (.int .i64 size) := by simp [World.cell?, HG6.out]
              have HW := Lib.hid (writeH_any b7 (flushX Z) (N + 2 + (size - 2)) first size head1 ⟨by decide, by decide, by decide, by decide⟩ (by rw [flushX_len, hZl]; omega) (by omega) w6 HS7.out.2.2 (by omega))
              unfold headV placeV at HW
              rw [hd7] at HW
              simp only [head1] at HW
              go_wp2_with fail
              refine HW.out.mono ?_
              rintro e w8 ⟨rfl, hP8⟩
              go_wp2_with fail
              go_ret
              rw [Hf4.out]
              exact ⟨rfl, .of_below hB5' (.mono (.trans hd7 HS7.out.1 HS7.out.2.1 hP8) (by unfold layN; split <;> omega))⟩
  · have Hf1 := Lib.hid (Hf0.out.trans (if_pos rfl))
    rw [if_pos rfl]
    go_wp2_with fail
    go_ret
    rw [Hf1.out]
    exact ⟨rfl, .mono (.same H.out hB2) (by omega)⟩
end Go.Proofs.YtbjofbhhnmehgaaGreatDoor.TT
namespace Go.Proofs.YtbjofbhhnmehgaaGreatDoor.TT
open Go.RowKit Go.RG Go.Hp Go.Proofs.YtbjofbhhnmehgaaGreatDoor
/-- every sector has its 128 bytes -/
def Dsk.full (x : Dsk) : Prop := (∀ s ∈ x.dur, s.length = 128) ∧ ∀ i, ∀ s ∈ x.cache i, s.length = 128
theorem DskAt.full {w : World} {b : Bks} {x : Dsk} (h : DskAt w b x) : x.full := ⟨h.s128, h.c128⟩
theorem Dsk.full.read {x : Dsk} (h : x.full) {i : Nat} {s : List Int} (hr : readD x i = some s) : s.length = 128 := by
  unfold readD at hr
  cases hc : (x.cache i).getLast? with
  | some s' =>
    rw [hc] at hr
    injection hr with hr
    subst hr
    exact h.2 i s' (List.mem_of_getLast? hc)
  | none =>
    rw [hc] at hr
    split at hr
    · rename_i heq; cases heq
    · split at hr
      · cases hr
      · exact h.1 s (List.mem_of_getElem? hr)
theorem sealedR_full {x : Dsk} (h : x.full) (hk : x.ok) {i : Nat} {M t : List Int} (hr : sealedR x i M = .ok t) : t.length = 124 ∧ isBytes t := by
  obtain ⟨s, h1, h2, -⟩ := sealedR_ok hr
  obtain ⟨-, rfl, -⟩ := unsealed_some h2
  have := h.read h1
  exact ⟨by rw [List.length_take, this]; rfl, (hk.read h1).take _⟩
theorem getN48 {t : List Int} (hl : t.length = 124) (hb : isBytes t) (at' : Nat) (h : at' + 6 ≤ 124) : getN t at' 6 < 281474976710656 := getN_lt hb at' 6 (by rw [hl]; exact h)
theorem pieceR_full {x : Dsk} (h : x.full) (hk : x.ok) {first size n : Nat} {p : Piece} (hp : pieceR x first size n = .ok p) : p.data.length = min 104 (p.bytes - p.index * 104) ∧ isBytes p.data ∧ p.epoch < 281474976710656 := by
  unfold pieceR at hp
  split at hp
  · cases hp
  · rename_i t ht
    obtain ⟨hl, hb⟩ := sealedR_full h hk ht
    split at hp
    · cases hp
    · split at hp
      · injection hp with hp
        subst hp
        refine ⟨?_, (hb.take _).drop _, getN48 hl hb 10 (by decide)⟩
        simp only [pieceOf, List.length_drop, List.length_take, hl, pieceEnd]
        omega
      · cases hp
theorem recUp_full {x : Dsk} (h : x.full) (hk : x.ok) {first size n : Nat} {p0 : Piece} (h0 : p0.data.length = min 104 p0.bytes) (hb : isBytes p0.data) {k : Nat} {d : List Int} (hr : recUp x first size n p0 k = .ok d) : d.length = min (104 * (k + 1)) p0.bytes ∧ isBytes d := by
  induction k generalizing d with
  | zero => injection hr with hr; subst hr; exact ⟨by rw [h0], hb⟩
  | succ k ih =>
    unfold recUp at hr
    split at hr
    · cases hr
    · rename_i d' hd'
      split at hr
      · cases hr
      · rename_i p hp
        split at hr
        · cases hr
        · rename_i hc
          injection hr with hr
          subst hr
          obtain ⟨h1, h2⟩ := ih hd'
          obtain ⟨h3, h4, -⟩ := pieceR_full h hk hp
          have e1 : p.index = k + 1 := Classical.byContradiction fun e => hc (.inl e)
          have e2 : p.bytes = p0.bytes := Classical.byContradiction fun e => hc (.inr (.inl e))
          refine ⟨?_, h2.append h4⟩
          rw [List.length_append, h1, h3, e1, e2]
          omega
theorem recordR_full {x : Dsk} (h : x.full) (hk : x.ok) {first size n least most : Nat} {d : List Int × Nat} (hr : recordR x first size n least most = .ok d) : d.1.length ≤ 8192 ∧ isBytes d.1 ∧ least ≤ d.2 ∧ d.2 ≤ most := by
  unfold recordR at hr
  split at hr
  · cases hr
  · rename_i p hp
    split at hr
    · cases hr
    · rename_i hc
      split at hr
      · cases hr
      · rename_i d' hd'
        injection hr with hr
        subst hr
        have e1 : p.index = 0 := Classical.byContradiction fun e => hc (.inl e)
        have e2 : ¬ p.epoch < least := fun e => hc (.inr (.inl e))
        have e3 : ¬ most < p.epoch := fun e => hc (.inr (.inr e))
        obtain ⟨h1, h2, -⟩ := pieceR_full h hk hp
        have h4 := (pieceR_ok hp).2.2.2
        obtain ⟨h5, h6⟩ := recUp_full h hk (by rw [h1, e1, Nat.zero_mul, Nat.sub_zero]) h2 hd'
        exact ⟨by show d'.length ≤ 8192; rw [h5]; omega, h6, by show least ≤ p.epoch; omega, by show p.epoch ≤ most; omega⟩
def Head.low (h : Head) : Prop := h.gen < 281474976710656 ∧ h.epoch < 281474976710656 ∧ h.first < 281474976710656 ∧ h.least < 281474976710656
theorem slotR_low {x : Dsk} (h : x.full) (hk : x.ok) (first size k : Nat) : (slotR x first size k).1.low := by
  unfold slotR
  split
  · exact ⟨by decide, by decide, by decide, by decide⟩
  · rename_i t ht
    obtain ⟨hl, hb⟩ := sealedR_full h hk ht
    split
    · exact ⟨getN48 hl hb 4 (by decide), getN48 hl hb 10 (by decide), getN48 hl hb 16 (by decide), getN48 hl hb 22 (by decide)⟩
    · exact ⟨by decide, by decide, by decide, by decide⟩
theorem runR_low {x : Dsk} (h : x.full) (hk : x.ok) (first size k : Nat) : (runR x first size k).1.low := by
  induction k with
  | zero => exact (show noHead.low from ⟨by decide, by decide, by decide, by decide⟩)
  | succ k ih =>
    unfold runR bestR
    split
    · exact slotR_low h hk first size k
    · exact ih
/-- how far a scan has come -/
structure Scan where
  starts : List Nat
  epochs : List Nat
  next : Nat
  least : Nat
  go : Bool
def scanStep (x : Dsk) (first size most h0 : Nat) (s : Scan) : Scan := match recordR x first size s.next s.least most with
  | .error _ => { s with go := false }
  | .ok d => if 281474976710656 < s.next + need d.1.length ∨ size - 2 < s.next + need d.1.length - h0 then { s with go := false } else ⟨s.starts ++ [s.next], s.epochs ++ [d.2], s.next + need d.1.length, d.2, true⟩
def scanUp (x : Dsk) (first size most h0 l0 : Nat) : Nat → Scan
  | 0 => ⟨[], [], h0, l0, true⟩
  | j + 1 => if (scanUp x first size most h0 l0 j).go then scanStep x first size most h0 (scanUp x first size most h0 l0 j) else scanUp x first size most h0 l0 j
/-- what the scan keeps -/
structure Scan.ok (s : Scan) (size most h0 l0 j : Nat) : Prop where
  order : h0 ≤ s.next
  ring : s.next - h0 ≤ size - 2
  top : s.next ≤ 281474976710656
  long : s.go = true → j ≤ s.next - h0
  rise : s.starts.Pairwise (· < ·)
  low : ∀ n ∈ s.starts, h0 ≤ n ∧ n < s.next
  len : s.epochs.length = s.starts.length
  many : s.starts.length ≤ s.next - h0
  ep : ∀ n ∈ s.epochs, n ≤ most
theorem scanUp_ok {x : Dsk} (h : x.full) (hk : x.ok) {first size most h0 l0 : Nat} (hh : h0 ≤ 281474976710656) (j : Nat) : (scanUp x first size most h0 l0 j).ok size most h0 l0 j := by
  induction j with
  | zero => exact ⟨Nat.le_refl _, (by show h0 - h0 ≤ _; omega), hh, fun _ => Nat.zero_le _, .nil, fun n hn => (by cases hn), rfl, Nat.zero_le _, fun n hn => (by cases hn)⟩
  | succ j ih =>
    unfold scanUp
    split
    · rename_i hgo
      generalize scanUp x first size most h0 l0 j = s at ih hgo
      unfold scanStep
      split
      · exact ⟨ih.order, ih.ring, ih.top, fun h => (by cases h), ih.rise, ih.low, ih.len, ih.many, ih.ep⟩
      · rename_i d hd
        obtain ⟨h1, -, -, h4⟩ := recordR_full h hk hd
        have hn := (need_pos _ h1).1
        split
        · exact ⟨ih.order, ih.ring, ih.top, fun h => (by cases h), ih.rise, ih.low, ih.len, ih.many, ih.ep⟩
        · rename_i hc
          have c1 : ¬ 281474976710656 < s.next + need d.1.length := fun e => hc (.inl e)
          have c2 : ¬ size - 2 < s.next + need d.1.length - h0 := fun e => hc (.inr e)
          have o := ih.order
          have l := ih.long hgo
          have m := ih.many
          refine ⟨by show h0 ≤ s.next + _; omega, by show s.next + _ - h0 ≤ _; omega, by show s.next + _ ≤ _; omega, fun _ => by show j + 1 ≤ s.next + _ - h0; omega, ?_, fun n hn => ?_, ?_, ?_, fun n hn => ?_⟩
          · refine List.pairwise_append.2 ⟨ih.rise, List.pairwise_singleton _ _, fun a ha b hb => ?_⟩
            rw [List.mem_singleton.1 hb]
            exact (ih.low a ha).2
          · rcases List.mem_append.1 hn with hn | hn
            · have := ih.low n hn
              exact ⟨this.1, by show n < s.next + _; omega⟩
            · rw [List.mem_singleton.1 hn]
              exact ⟨o, by show s.next < s.next + _; omega⟩
          · show (s.epochs ++ [d.2]).length = (s.starts ++ [s.next]).length
            rw [List.length_append, List.length_append, ih.len]
            rfl
          · show (s.starts ++ [s.next]).length ≤ s.next + _ - h0
            rw [List.length_append, List.length_singleton]
            omega
          · rcases List.mem_append.1 hn with hn | hn
            · exact ih.ep n hn
            · rw [List.mem_singleton.1 hn]; exact h4
    · rename_i hgo
      exact ⟨ih.order, ih.ring, ih.top, fun h => absurd h hgo, ih.rise, ih.low, ih.len, ih.many, ih.ep⟩
theorem scanUp_stop {x : Dsk} {first size most h0 l0 j K : Nat} (h : (scanUp x first size most h0 l0 j).go = false) (hK : j ≤ K) : scanUp x first size most h0 l0 K = scanUp x first size most h0 l0 j := by
  induction K with
  | zero => rw [Nat.le_zero.1 hK]
  | succ K ih =>
    rcases Nat.eq_or_lt_of_le hK with rfl | hK
    · rfl
    · have := ih (Nat.lt_succ_iff.1 hK)
      show (if (scanUp x first size most h0 l0 K).go then _ else scanUp x first size most h0 l0 K) = _
      rw [if_neg (by rw [this, h]; decide), this]
/-- all that the scan of Open finds -/
def scanR (x : Dsk) (first size : Nat) (h : Head) : Scan := scanUp x first size h.epoch h.first h.least (size - 1)
theorem scanR_of {x : Dsk} (h : x.full) (hk : x.ok) {first size : Nat} {hd : Head} (hh : hd.first ≤ 281474976710656) (h2 : 2 < size) {j : Nat} (hs : (scanUp x first size hd.epoch hd.first hd.least j).go = true) (hst : (scanStep x first size hd.epoch hd.first (scanUp x first size hd.epoch hd.first hd.least j)).go = false) : scanR x first size hd = { scanUp x first size hd.epoch hd.first hd.least j with go := false } := by
  have o := scanUp_ok h hk (most := hd.epoch) (l0 := hd.least) (first := first) (size := size) hh j
  have h1 := o.long hs
  have h3 := o.ring
  have e : scanUp x first size hd.epoch hd.first hd.least (j + 1) = scanStep x first size hd.epoch hd.first (scanUp x first size hd.epoch hd.first hd.least j) := by
    show (if _ then _ else _) = _
    rw [if_pos hs]
  unfold scanR
  rw [scanUp_stop (j := j + 1) (by rw [e]; exact hst) (by omega), e]
  generalize scanUp x first size hd.epoch hd.first hd.least j = s at hst ⊢
  unfold scanStep at hst ⊢
  split
  · rfl
  · rename_i d hd
    rw [hd] at hst
    simp only at hst
    split
    · rfl
    · rename_i hc
      rw [if_neg hc] at hst
      cases hst
def openL (x : Dsk) (first size : Nat) (h : Head) : LogS := ⟨noHead, (scanR x first size h).next, (scanR x first size h).starts, (scanR x first size h).epochs, false⟩
def openH (h : Head) : Head := ⟨h.gen + 1, h.epoch + 1, h.first, h.least⟩
/-- what Open leaves and tells -/
def openR (x : Dsk) (first size : Nat) : Dsk × Int × LogS :=
  if x.off then (x, 5, openL x first size noHead) else
  if (countsR x first size).2 < 0 then (x, 50, openL x first size noHead) else
  if (countsR x first size).1.gen = 281474976710655 ∨ (countsR x first size).1.epoch = 281474976710655 then (x, 6, openL x first size noHead) else
  (turnX x first size (openL x first size (countsR x first size).1) (openH (countsR x first size).1), turnE x first size (openL x first size (countsR x first size).1) (openH (countsR x first size).1), turnL x first size (openL x first size (countsR x first size).1) (openH (countsR x first size).1))
end Go.Proofs.YtbjofbhhnmehgaaGreatDoor.TT
