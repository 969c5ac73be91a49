/-
  PagesTight: the walk.
-/
import Derived.Test.YtagcohpghgnalaaCTU
set_option linter.unusedSimpArgs false
set_option linter.unusedVariables false
namespace Go.Proofs.Ytagcohpghgnalaa.LT
open Go.RowKit Go.RG Go.Hp Go.Pg Go.Proofs.Ytagcohpghgnalaa Go.Proofs.Ytagcohpghgnalaa.LB Go.Proofs.Ytagcohpghgnalaa.BK


/-- no page but the only one below half -/
def TightR (size : Nat) (R : List (List Ent)) : Prop := R.length ≤ 1 ∨ ∀ p ∈ R, (size + 1) / 2 ≤ p.length

theorem tight_put {size : Nat} {R : List (List Ent)} (hG : Pg.Good size R) (h4 : 4 ≤ size) (s : St) (v : Value) (h : TightR size R) : TightR size (putR size R s v) := by
  rcases Nat.eq_zero_or_pos R.length with h0 | hR
  · have e : putR size R s v = [[⟨s, v⟩]] := by unfold putR; rw [if_pos h0]
    rw [e]
    exact Or.inl (by simp)
  · have hp := pageOf_lt (s := s) hR
    have hpage := hG.full _ (pageAt_mem hp)
    have hel := entOf_le R s
    unfold putR
    rw [if_neg (by omega)]
    split
    · rcases h with h | h
      · exact Or.inl (by rw [List.length_set]; exact h)
      · refine Or.inr fun p hp' => ?_
        rcases List.mem_or_eq_of_mem_set hp' with h1 | rfl
        · exact h p h1
        · rw [List.length_set]; exact h _ (pageAt_mem hp)
    · have hll : ((pageAt R (pageOf R s)).take (entOf R s) ++ (⟨s, v⟩ :: (pageAt R (pageOf R s)).drop (entOf R s)) : List Ent).length = (pageAt R (pageOf R s)).length + 1 := by
        simp only [List.length_append, List.length_take, List.length_cons, List.length_drop]; omega
      simp only []
      generalize (pageAt R (pageOf R s)).take (entOf R s) ++ (⟨s, v⟩ :: (pageAt R (pageOf R s)).drop (entOf R s)) = l at hll
      split
      · rcases h with h | h
        · exact Or.inl (by rw [List.length_set]; exact h)
        · refine Or.inr fun p hp' => ?_
          rcases List.mem_or_eq_of_mem_set hp' with h1 | rfl
          · exact h p h1
          · have := h _ (pageAt_mem hp)
            omega
      · rename_i hsz
        refine Or.inr fun p hp' => ?_
        rcases h with h | h
        · have hp0 : pageOf R s = 0 := by omega
          rw [hp0] at hp'
          have hd : R.drop (0 + 1) = [] := List.drop_eq_nil_of_le (by omega)
          rw [hd] at hp'
          simp only [List.take_zero, List.nil_append, List.mem_cons, List.not_mem_nil, or_false] at hp'
          rcases hp' with rfl | rfl
          · rw [List.length_take]; omega
          · rw [List.length_drop]; omega
        · rcases List.mem_append.1 hp' with h1 | h1
          · exact h p (List.mem_of_mem_take h1)
          · rcases List.mem_cons.1 h1 with rfl | h1
            · rw [List.length_take]; omega
            · rcases List.mem_cons.1 h1 with rfl | h1
              · rw [List.length_drop]; omega
              · exact h p (List.mem_of_mem_drop h1)
theorem two_drop {B bx size : Nat} {R : List (List Ent)} {bv : Value} {p : List Ent} {Z : Nat → Prop} {w : World} (h : Two B bx size R bv p Z w) : Two B bx size R (.slice none 0 0) [] Z w where
  mem := h.mem
  lim := h.lim
  good := h.good
  num := h.num
  row := World.ownsRow_nil _ _ _ _
  off := fun k hk => by cases hk
  pnum := fun e he => by cases he
theorem two_new {bx size : Nat} {B : Nat} {w : World} {vr : Value} (hM : U.MemV w bx size [] (· = bx) vr []) (hb : B ≤ bx) : Two B bx size [] (.slice none 0 0) [] (· = bx) w where
  mem := ⟨vr, [], hM⟩
  lim := fun k hk => by have := block_lt_of_heap hM.str; omega
  good := ⟨by simp, by simp [keys, Rising]⟩
  num := fun e he => by simp at he
  row := World.ownsRow_nil _ _ _ _
  off := fun k hk => by cases hk
  pnum := fun e he => by cases he

theorem tight_step {size : Nat} {R : List (List Ent)} (hG : Pg.Good size R) (h4 : 4 ≤ size) (o : Opd) (h : TightR size R ∧ o.kind ≠ 2) : TightR size (stepR size R o) := by
  unfold stepR
  split
  · exact tight_put hG h4 _ _ h.1
  · rw [if_neg h.2]; exact h.1

theorem total_take {R : List (List Ent)} {j : Nat} (h : j < R.length) : total (R.take (j + 1)) = total (R.take j) + (pageAt R j).length := by
  have e : R.take (j + 1) = R.take j ++ [pageAt R j] := by rw [List.take_add_one, List.getElem?_eq_getElem h]; simp [pageAt, h]
  rw [e, total_append, total_cons, total_nil]
  omega
theorem total_take_le (R : List (List Ent)) (j : Nat) : total (R.take j) ≤ total R := by
  have := total_append (R.take j) (R.drop j)
  rw [List.take_append_drop] at this
  omega


set_option maxHeartbeats 2000000 in
set_option maxRecDepth 100000 in
theorem tight_any (sz : Int) (a : Option Addr) (n cap : Nat) (hn : n ≤ 1048576) (ops : Nat → Opd) (w : World) (ho : OpsAt w a n ops) :
    Calls Try.prog 7 #[.int .i64 sz, .slice a n cap] w fun e w' => e = .returned (.bool true) ∧ Below w.heap.size w w' := by
  have Ho := Lib.hid ho; clear ho
  go_enter Try.func7, Try.ntmps7
  go_wp2_with fail
  refine (sized_any _ _).mono ?_
  rintro e w' ⟨size, h4, h64, rfl, rfl⟩
  go_wp2_with fail
  refine (U.new_any size h4 h64 _).mono ?_
  rintro e w1 ⟨bx, vr, rfl, hbx, hM1, hB1⟩
  go_wp2_with fail
  refine (U.num_any _ _).mono ?_
  rintro e w' ⟨rfl, rfl⟩
  go_wp2_with fail
  refine (U.small_any _).mono ?_
  rintro e w2 ⟨rfl, hB2⟩
  have hT0 := (two_new hM1 hbx).below hB2
  have hB0 := hB1.trans (hB2.mono hB1.size)
  clear hM1 hB1 hB2
  go_wp2_with fail
  go_loopw [7, 8] (fun va vi wr => ∃ (i : Nat) (al : Bool) (R : List (List Ent)) (Z : Nat → Prop), vi = .int .i64 i ∧ va = .bool al ∧ i ≤ n ∧ Two w.heap.size bx size R (.slice none 0 0) [] Z wr ∧ total R ≤ i ∧ (al = true → TightR size R) ∧ Below w.heap.size w wr)
    (fun _ vi _ => n - (intOf vi).toNat)
  case atStart => exact ⟨0, true, [], _, rfl, rfl, by omega, hT0, by simp [total], fun _ => Or.inl (by simp), hB0⟩
  case round =>
    obtain ⟨i, al, R, Z, rfl, rfl, hin, hT, htot, htl, hB⟩ := hrel
    by_cases hlt : i < n
    · obtain ⟨pb, po, rfl, p0, p1, p2, p3⟩ := Ho.out i hlt
      have o0 := below_cell hB p0
      have o1 := below_cell hB p1
      have o2 := below_cell hB p2
      have o3 := below_cell hB p3
      have hii : (i : Int) < (n : Int) := by omega
      have hTu := turns_any w.heap.size bx size i h4 h64 R (.slice none 0 0) [] (ops i) Z wr hT htot (by simp) (by omega)
      have HTu := Lib.hid hTu; clear hTu
      have hlim := hT.lim
      have htot' := stepR_total hT.good (ops i)
      have Htp := Lib.hid (fun h2 => tight_step hT.good h4 (ops i) h2)
      clear p1 p2 p3
      go_wp2_with fail
      refine HTu.out.mono ?_
      rintro e w3 ⟨bv', Z', rfl, hT3, hX3, hZ3, -⟩
      have hB3 := hB.trans (hX3.to_belowAt (B := w.heap.size) hB.size (fun k hk h => by have := (hlim k h).1; omega))
      have o0 := below_cell hB3 p0
      have hT3 := two_drop hT3
      clear o1 o2 o3 hT hX3 hZ3 HTu
      replace htot' : total (stepR size R (ops i)) ≤ i + 1 := by omega
      clear htot
      generalize stepR size R (ops i) = R' at hT3 htot' Htp
      have hTl := hT3
      obtain ⟨vr3, pvs3, hM3⟩ := hTl.mem
      have hgd := hT3.good
      have hrl := rows_le_total hgd
      have hPg := U.pages_any bx size (by omega) R' (by omega) Z' vr3 pvs3 w3 hM3
      have HPg := Lib.hid hPg; clear hPg hTl hM3
      cases al
      · go_wp2_with fail
        refine HPg.out.mono ?_
        rintro e w4 ⟨lv, rfl, hlv, hB4⟩
        obtain ⟨al4, cl4, rfl, -⟩ := owns_shape hlv
        have Hlv := Lib.hid hlv; clear hlv
        have hB5 := hB3.trans (hB4.mono hB3.size)
        go_wp2_with fail
        go_loopw [9, 11] (fun vn vj w5 => ∃ j : Nat, vj = .int .i64 j ∧ vn = .int .i64 (total (R'.take j)) ∧ j ≤ R'.length ∧ Below w4.heap.size w4 w5) (fun _ vj _ => R'.length - (intOf vj).toNat)
        case atStart => exact ⟨0, rfl, rfl, by omega, Below.refl _ _⟩
        case round =>
          obtain ⟨j, rfl, rfl, hjl, hB6⟩ := hrel
          by_cases hj : j < R'.length
          · obtain ⟨g, cg, e1, -, -, -, -, hcl, -⟩ := owns_parts Hlv.out (by omega)
            injection e1 with e1 _ f1
            subst e1 f1
            have r1 := hcl j (by omega)
            have hpj := hgd.full _ (pageAt_mem hj)
            have htj := total_take hj
            have htl1 := total_take_le R' (j + 1)
            have e2 : (R'.map fun p => Value.int .i64 (p.length : Int))[j]? = some (.int .i64 ((pageAt R' j).length : Int)) := by simp [pageAt, hj]
            rw [e2] at r1
            have r1 := below_cell hB6 r1
            clear hcl e2
            have hjj : (j : Int) < (R'.length : Int) := by omega
            have hx1 : ¬ ((pageAt R' j).length : Int) < 1 := by omega
            have hx2 : ¬ (size : Int) < ((pageAt R' j).length : Int) := by omega
            skip
            go_wp2_with fail
            all_goals refine ⟨⟨j + 1, rfl, by rw [htj, Int.natCast_add], by omega, hB6⟩, ?_⟩
            all_goals show R'.length - (((j : Int) + 1).toNat) < R'.length - ((j : Int).toNat)
            all_goals omega
          · obtain rfl : j = R'.length := by omega
            have hT6 := (hT3.below hB4).below hB6
            obtain ⟨vr6, pvs6, hM6⟩ := hT6.mem
            have e2 : R'.take R'.length = R' := List.take_length
            rw [e2]
            go_wp2_with fail
            refine (U.len_any bx size (by omega) R' Z' vr6 pvs6 _ hM6).mono ?_
            rintro e w' ⟨rfl, rfl⟩
            go_wp2_with fail
            refine ⟨⟨i + 1, false, R', Z', rfl, rfl, by omega, hT6, htot', (fun h => by cases h), hB5.trans (hB6.mono (Nat.le_trans hB3.size hB4.size))⟩, ?_⟩
            show n - (((i : Int) + 1).toNat) < n - ((i : Int).toNat)
            omega
      · by_cases k2 : (ops i).kind = 2
        · rw [k2] at o0
          go_wp2_with fail
          refine HPg.out.mono ?_
          rintro e w4 ⟨lv, rfl, hlv, hB4⟩
          obtain ⟨al4, cl4, rfl, -⟩ := owns_shape hlv
          have Hlv := Lib.hid hlv; clear hlv
          have hB5 := hB3.trans (hB4.mono hB3.size)
          go_wp2_with fail
          go_loopw [9, 11] (fun vn vj w5 => ∃ j : Nat, vj = .int .i64 j ∧ vn = .int .i64 (total (R'.take j)) ∧ j ≤ R'.length ∧ Below w4.heap.size w4 w5) (fun _ vj _ => R'.length - (intOf vj).toNat)
          case atStart => exact ⟨0, rfl, rfl, by omega, Below.refl _ _⟩
          case round =>
            obtain ⟨j, rfl, rfl, hjl, hB6⟩ := hrel
            by_cases hj : j < R'.length
            · obtain ⟨g, cg, e1, -, -, -, -, hcl, -⟩ := owns_parts Hlv.out (by omega)
              injection e1 with e1 _ f1
              subst e1 f1
              have r1 := hcl j (by omega)
              have hpj := hgd.full _ (pageAt_mem hj)
              have htj := total_take hj
              have htl1 := total_take_le R' (j + 1)
              have e2 : (R'.map fun p => Value.int .i64 (p.length : Int))[j]? = some (.int .i64 ((pageAt R' j).length : Int)) := by simp [pageAt, hj]
              rw [e2] at r1
              have r1 := below_cell hB6 r1
              clear hcl e2
              have hjj : (j : Int) < (R'.length : Int) := by omega
              have hx1 : ¬ ((pageAt R' j).length : Int) < 1 := by omega
              have hx2 : ¬ (size : Int) < ((pageAt R' j).length : Int) := by omega
              skip
              go_wp2_with fail
              all_goals refine ⟨⟨j + 1, rfl, by rw [htj, Int.natCast_add], by omega, hB6⟩, ?_⟩
              all_goals show R'.length - (((j : Int) + 1).toNat) < R'.length - ((j : Int).toNat)
              all_goals omega
            · obtain rfl : j = R'.length := by omega
              have hT6 := (hT3.below hB4).below hB6
              obtain ⟨vr6, pvs6, hM6⟩ := hT6.mem
              have e2 : R'.take R'.length = R' := List.take_length
              rw [e2]
              go_wp2_with fail
              refine (U.len_any bx size (by omega) R' Z' vr6 pvs6 _ hM6).mono ?_
              rintro e w' ⟨rfl, rfl⟩
              go_wp2_with fail
              refine ⟨⟨i + 1, false, R', Z', rfl, rfl, by omega, hT6, htot', (fun h => by cases h), hB5.trans (hB6.mono (Nat.le_trans hB3.size hB4.size))⟩, ?_⟩
              show n - (((i : Int) + 1).toNat) < n - ((i : Int).toNat)
              omega
        · have k2' : ((ops i).kind != 2) = true := by simpa [bne] using k2
          have htr := Htp.out ⟨htl rfl, k2⟩
          rcases htr with htr | htr
          · have hx3 : ¬ (1 : Int) < (R'.length : Int) := by omega
            go_wp2_with fail
            refine HPg.out.mono ?_
            rintro e w4 ⟨lv, rfl, hlv, hB4⟩
            obtain ⟨al4, cl4, rfl, -⟩ := owns_shape hlv
            have Hlv := Lib.hid hlv; clear hlv
            have hB5 := hB3.trans (hB4.mono hB3.size)
            go_wp2_with fail
            go_loopw [9, 11] (fun vn vj w5 => ∃ j : Nat, vj = .int .i64 j ∧ vn = .int .i64 (total (R'.take j)) ∧ j ≤ R'.length ∧ Below w4.heap.size w4 w5) (fun _ vj _ => R'.length - (intOf vj).toNat)
            case atStart => exact ⟨0, rfl, rfl, by omega, Below.refl _ _⟩
            case round =>
              obtain ⟨j, rfl, rfl, hjl, hB6⟩ := hrel
              by_cases hj : j < R'.length
              · obtain ⟨g, cg, e1, -, -, -, -, hcl, -⟩ := owns_parts Hlv.out (by omega)
                injection e1 with e1 _ f1
                subst e1 f1
                have r1 := hcl j (by omega)
                have hpj := hgd.full _ (pageAt_mem hj)
                have htj := total_take hj
                have htl1 := total_take_le R' (j + 1)
                have e2 : (R'.map fun p => Value.int .i64 (p.length : Int))[j]? = some (.int .i64 ((pageAt R' j).length : Int)) := by simp [pageAt, hj]
                rw [e2] at r1
                have r1 := below_cell hB6 r1
                clear hcl e2
                have hjj : (j : Int) < (R'.length : Int) := by omega
                have hx1 : ¬ ((pageAt R' j).length : Int) < 1 := by omega
                have hx2 : ¬ (size : Int) < ((pageAt R' j).length : Int) := by omega
                skip
                go_wp2_with fail
                all_goals refine ⟨⟨j + 1, rfl, by rw [htj, Int.natCast_add], by omega, hB6⟩, ?_⟩
                all_goals show R'.length - (((j : Int) + 1).toNat) < R'.length - ((j : Int).toNat)
                all_goals omega
              · obtain rfl : j = R'.length := by omega
                have hT6 := (hT3.below hB4).below hB6
                obtain ⟨vr6, pvs6, hM6⟩ := hT6.mem
                have e2 : R'.take R'.length = R' := List.take_length
                rw [e2]
                go_wp2_with fail
                refine (U.len_any bx size (by omega) R' Z' vr6 pvs6 _ hM6).mono ?_
                rintro e w' ⟨rfl, rfl⟩
                go_wp2_with fail
                refine ⟨⟨i + 1, true, R', Z', rfl, rfl, by omega, hT6, htot', (fun _ => Or.inl htr), hB5.trans (hB6.mono (Nat.le_trans hB3.size hB4.size))⟩, ?_⟩
                show n - (((i : Int) + 1).toNat) < n - ((i : Int).toNat)
                omega
          · go_wp2_with fail
            refine HPg.out.mono ?_
            rintro e w4 ⟨lv, rfl, hlv, hB4⟩
            obtain ⟨al4, cl4, rfl, -⟩ := owns_shape hlv
            have Hlv := Lib.hid hlv; clear hlv
            have hB5 := hB3.trans (hB4.mono hB3.size)
            go_wp2_with fail
            go_loopw [9, 11] (fun vn vj w5 => ∃ j : Nat, vj = .int .i64 j ∧ vn = .int .i64 (total (R'.take j)) ∧ j ≤ R'.length ∧ Below w4.heap.size w4 w5) (fun _ vj _ => R'.length - (intOf vj).toNat)
            case atStart => exact ⟨0, rfl, rfl, by omega, Below.refl _ _⟩
            case round =>
              obtain ⟨j, rfl, rfl, hjl, hB6⟩ := hrel
              by_cases hj : j < R'.length
              · obtain ⟨g, cg, e1, -, -, -, -, hcl, -⟩ := owns_parts Hlv.out (by omega)
                injection e1 with e1 _ f1
                subst e1 f1
                have r1 := hcl j (by omega)
                have hpj := hgd.full _ (pageAt_mem hj)
                have htj := total_take hj
                have htl1 := total_take_le R' (j + 1)
                have e2 : (R'.map fun p => Value.int .i64 (p.length : Int))[j]? = some (.int .i64 ((pageAt R' j).length : Int)) := by simp [pageAt, hj]
                rw [e2] at r1
                have r1 := below_cell hB6 r1
                clear hcl e2
                have hjj : (j : Int) < (R'.length : Int) := by omega
                have hx1 : ¬ ((pageAt R' j).length : Int) < 1 := by omega
                have hx2 : ¬ (size : Int) < ((pageAt R' j).length : Int) := by omega
                have hx3 : ¬ ((pageAt R' j).length : Int) < (((size : Int) + 1) / 2) := by have := htr _ (pageAt_mem hj); omega
                go_wp2_with fail
                all_goals refine ⟨⟨j + 1, rfl, by rw [htj, Int.natCast_add], by omega, hB6⟩, ?_⟩
                all_goals show R'.length - (((j : Int) + 1).toNat) < R'.length - ((j : Int).toNat)
                all_goals omega
              · obtain rfl : j = R'.length := by omega
                have hT6 := (hT3.below hB4).below hB6
                obtain ⟨vr6, pvs6, hM6⟩ := hT6.mem
                have e2 : R'.take R'.length = R' := List.take_length
                rw [e2]
                go_wp2_with fail
                refine (U.len_any bx size (by omega) R' Z' vr6 pvs6 _ hM6).mono ?_
                rintro e w' ⟨rfl, rfl⟩
                go_wp2_with fail
                refine ⟨⟨i + 1, true, R', Z', rfl, rfl, by omega, hT6, htot', (fun _ => Or.inr htr), hB5.trans (hB6.mono (Nat.le_trans hB3.size hB4.size))⟩, ?_⟩
                show n - (((i : Int) + 1).toNat) < n - ((i : Int).toNat)
                omega
    · obtain rfl : i = n := by omega
      go_wp2_with fail
      go_ret
      exact ⟨rfl, hB⟩
end Go.Proofs.Ytagcohpghgnalaa.LT
