/-
  PagesMap: the walk.
-/
import Derived.Test.YtagcohpghgnalaaCBA
import Derived.Test.YtagcohpghgnalaaCLO
set_option linter.unusedSimpArgs false
set_option linter.unusedVariables false
namespace Go.Proofs.Ytagcohpghgnalaa.LM
open Go.RowKit Go.RG Go.Hp Go.Pg Go.Proofs.Ytagcohpghgnalaa Go.Proofs.Ytagcohpghgnalaa.LB Go.Proofs.Ytagcohpghgnalaa.BK


/-- no stamp is below the least one -/
def NN (R : List (List Ent)) : Prop := ∀ e ∈ R.flatten, e.k.lt ⟨0, 0⟩ = false
theorem putGo_mem {s : St} {x : Value} : ∀ {p : List Ent} {d : Bool} {e : Ent}, e ∈ putGo s x p d → e ∈ p ∨ e.k = s
  | [], true, e, h => by simp [putGo] at h
  | [], false, e, h => by simp [putGo] at h; exact Or.inr (by rw [h])
  | e0 :: r, d, e, h => by
    unfold putGo at h
    split at h
    · rcases List.mem_cons.1 h with rfl | h
      · exact Or.inr rfl
      · rcases putGo_mem h with h | h
        · exact Or.inl (List.mem_cons_of_mem _ h)
        · exact Or.inr h
    · split at h
      · rcases List.mem_cons.1 h with rfl | h
        · exact Or.inr rfl
        · rcases List.mem_cons.1 h with rfl | h
          · exact Or.inl (List.mem_cons_self ..)
          · rcases putGo_mem h with h | h
            · exact Or.inl (List.mem_cons_of_mem _ h)
            · exact Or.inr h
      · rcases List.mem_cons.1 h with rfl | h
        · exact Or.inl (List.mem_cons_self ..)
        · rcases putGo_mem h with h | h
          · exact Or.inl (List.mem_cons_of_mem _ h)
          · exact Or.inr h
theorem nn_step {size : Nat} {R : List (List Ent)} (hG : Pg.Good size R) (h : NN R) (o : Opd) (ho : OpOk o) : NN (stepR size R o) := by
  intro e he
  rw [← step_flat hG] at he
  unfold stepB at he
  have hs : o.s.lt ⟨0, 0⟩ = false := by
    have h1 := ho.t
    have h2 := ho.s
    have : ¬ (o.s.lt ⟨0, 0⟩ = true) := by rw [St.lt_iff]; simp only; omega
    simpa using this
  split at he
  · rcases putGo_mem he with h' | h'
    · exact h e h'
    · rw [h']; exact hs
  · split at he
    · exact h e (List.mem_filter.1 he).1
    · exact h e he
theorem two_ext {B bx size : Nat} {R : List (List Ent)} {bv : Value} {p : List Ent} {Z T : Nat → Prop} {w w' : World} (h : Two B bx size R bv p Z w) (hx : Ext T w w') (hd : ∀ k, Z k → ¬ T k) (hb : ∀ k, bv.ownBlock = some k → ¬ T k) : Two B bx size R bv p Z w' where
  mem := by obtain ⟨vr, pvs, hM⟩ := h.mem; exact ⟨vr, pvs, hM.ext hx fun k _ hk => hd k hk⟩
  lim := fun k hk => ⟨(h.lim k hk).1, Nat.lt_of_lt_of_le (h.lim k hk).2 hx.size⟩
  good := h.good
  num := h.num
  row := owns_ext h.row hx hb
  off := h.off
  pnum := h.pnum
theorem two_new {bx size : Nat} {B : Nat} {w : World} {vr : Value} (hM : U.MemV w bx size [] (· = bx) vr []) (hb : B ≤ bx) : Two B bx size [] (.slice none 0 0) [] (· = bx) w where
  mem := ⟨vr, [], hM⟩
  lim := fun k hk => by have := block_lt_of_heap hM.str; omega
  good := ⟨by simp, by simp [keys, Rising]⟩
  num := fun e he => by simp at he
  row := World.ownsRow_nil _ _ _ _
  off := fun k hk => by cases hk
  pnum := fun e he => by cases he

/-- two indexes and their books, apart from each other -/
structure Four (B bx b2 s1 s2 : Nat) (R1 R2 : List (List Ent)) (v1 v2 : Value) (Z1 Z2 : Nat → Prop) (w : World) : Prop where
  one : Two B bx s1 R1 v1 R1.flatten Z1 w
  two : Two B b2 s2 R2 v2 R2.flatten Z2 w
  zz : ∀ k, Z1 k → ¬ Z2 k
  vz : ∀ k, v1.ownBlock = some k → ¬ Z2 k
  zv : ∀ k, v2.ownBlock = some k → ¬ Z1 k
theorem Four.below {B bx b2 s1 s2 : Nat} {R1 R2 : List (List Ent)} {v1 v2 : Value} {Z1 Z2 : Nat → Prop} {w w' : World} (h : Four B bx b2 s1 s2 R1 R2 v1 v2 Z1 Z2 w) (hb : Below w.heap.size w w') : Four B bx b2 s1 s2 R1 R2 v1 v2 Z1 Z2 w' :=
  ⟨h.one.below hb, h.two.below hb, h.zz, h.vz, h.zv⟩

set_option maxHeartbeats 2000000 in
set_option maxRecDepth 100000 in
theorem map_any (sz1 sz2 : Int) (a : Option Addr) (n cap : Nat) (hn : n ≤ 1048576) (ops : Nat → Opd) (hok : ∀ i, i < n → OpOk (ops i)) (w : World) (ho : OpsAt w a n ops) :
    Calls Try.prog 4 #[.int .i64 sz1, .int .i64 sz2, .slice a n cap] w fun e w' => e = .returned (.bool true) ∧ Below w.heap.size w w' := by
  have Ho := Lib.hid ho; clear ho
  go_enter Try.func4, Try.ntmps4
  go_wp2_with fail
  refine (sized_any _ _).mono ?_
  rintro e w' ⟨s1, h14, h164, rfl, rfl⟩
  go_wp2_with fail
  refine (U.new_any s1 h14 h164 _).mono ?_
  rintro e w1 ⟨bx, vr, rfl, hbx, hM1, hB1⟩
  go_wp2_with fail
  refine (sized_any _ _).mono ?_
  rintro e w' ⟨s2, h24, h264, rfl, rfl⟩
  go_wp2_with fail
  refine (U.new_any s2 h24 h264 _).mono ?_
  rintro e w2 ⟨b2, vr2, rfl, hb2, hM2, hB2⟩
  have hbx1 := block_lt_of_heap hM1.str
  have hF0 : Four w.heap.size bx b2 s1 s2 [] [] (.slice none 0 0) (.slice none 0 0) (· = bx) (· = b2) w2 :=
    ⟨(two_new hM1 hbx).below hB2, two_new hM2 (by have := hB1.size; omega), (fun k h h' => by omega), (fun k h => by cases h), (fun k h => by cases h)⟩
  have hB0 := hB1.trans (hB2.mono hB1.size)
  clear hM1 hM2 hB1 hB2 hbx1
  go_wp2_with fail
  refine (U.num_any _ _).mono ?_
  rintro e w' ⟨rfl, rfl⟩
  go_wp2_with fail
  refine (U.num_any _ _).mono ?_
  rintro e w' ⟨rfl, rfl⟩
  go_wp2_with fail
  go_loopw [11, 12, 13] (fun v1 v2 vi wr => ∃ (i : Nat) (R1 R2 : List (List Ent)) (Z1 Z2 : Nat → Prop), vi = .int .i64 i ∧ i ≤ n ∧ Four w.heap.size bx b2 s1 s2 R1 R2 v1 v2 Z1 Z2 wr ∧ total R1 ≤ i ∧ total R2 ≤ i ∧ NN R1 ∧ NN R2 ∧ Below w.heap.size w wr)
    (fun _ _ vi _ => n - (intOf vi).toNat)
  case atStart => exact ⟨0, [], [], _, _, rfl, by omega, hF0, by simp [total], by simp [total], (fun e he => by simp at he), (fun e he => by simp at he), hB0⟩
  case round =>
    obtain ⟨i, R1, R2, Z1, Z2, rfl, hin, hF, ht1, ht2, hn1, hn2, hB⟩ := hrel
    have hl1 : R1.flatten.length = total R1 := (total_flat R1).symm
    have hl2 : R2.flatten.length = total R2 := (total_flat R2).symm
    by_cases hlt : i < n
    · obtain ⟨pb, po, rfl, p0, p1, p2, p3⟩ := Ho.out i hlt
      have o0 := below_cell hB p0
      have o1 := below_cell hB p1
      have o2 := below_cell hB p2
      have o3 := below_cell hB p3
      have hii : (i : Int) < (n : Int) := by omega
      have hz := hF.one.bx_lt
      have HT1 := Lib.hid (turns_any w.heap.size bx s1 i h14 h164 R1 _ R1.flatten (ops i) Z1 wr hF.one ht1 (by omega) (by omega))
      go_wp2_with fail
      refine HT1.out.mono ?_
      rintro e w3 ⟨v1', Z1', rfl, hT3, hX3, hZ3, hv3⟩
      have hY3 := two_ext hF.two hX3 (fun k h h' => hF.zz k h' h) hF.zv
      have hB3 := hB.trans (hX3.to_belowAt (B := w.heap.size) hz (fun k hk h => by have := (hF.one.lim k h).1; omega))
      have o0 := below_cell hB3 p0
      have o1 := below_cell hB3 p1
      have o2 := below_cell hB3 p2
      have o3 := below_cell hB3 p3
      have hz3 := hX3.size
      rw [step_flat hF.one.good] at hT3
      have HT2 := Lib.hid (turns_any w.heap.size b2 s2 i h24 h264 R2 _ R2.flatten (ops i) Z2 w3 hY3 ht2 (by omega) (by omega))
      clear HT1
      go_wp2_with fail
      refine HT2.out.mono ?_
      rintro e w4 ⟨v2', Z2', rfl, hT4, hX4, hZ4, hv4⟩
      rw [step_flat hF.two.good] at hT4
      have hz4 := hX4.size
      have hF4 : Four w.heap.size bx b2 s1 s2 (stepR s1 R1 (ops i)) (stepR s2 R2 (ops i)) v1' v2' Z1' Z2' w4 := by
        refine ⟨two_ext hT3 hX4 (fun k h h' => ?_) (fun k h h' => ?_), hT4, fun k h h' => ?_, fun k h h' => ?_, fun k h h' => ?_⟩
        · rcases hZ3 k h with h1 | h1
          · exact hF.zz k h1 h'
          · exact absurd (hF.two.lim k h').2 (by omega)
        · rcases hv3 k h with h1 | h1
          · exact hF.vz k h1 h'
          · exact absurd (hF.two.lim k h').2 (by omega)
        · rcases hZ4 k h' with h2 | h2
          · rcases hZ3 k h with h1 | h1
            · exact hF.zz k h1 h2
            · exact absurd (hF.two.lim k h2).2 (by omega)
          · exact absurd (hT3.lim k h).2 (by omega)
        · rcases hZ4 k h' with h2 | h2
          · rcases hv3 k h with h1 | h1
            · exact hF.vz k h1 h2
            · exact absurd (hF.two.lim k h2).2 (by omega)
          · exact absurd (hT3.row.lt k h).2 (by omega)
        · rcases hv4 k h with h1 | h1
          · rcases hZ3 k h' with h2 | h2
            · exact hF.zv k h1 h2
            · exact absurd (hF.two.row.lt k h1).2 (by omega)
          · exact absurd (hT3.lim k h').2 (by omega)
      have hB4 := hB3.trans (hX4.to_belowAt (B := w.heap.size) (by omega) (fun k hk h => by have := (hF.two.lim k h).1; omega))
      have hs1 := stepR_total hF.one.good (ops i)
      have hs2 := stepR_total hF.two.good (ops i)
      have hm1 := nn_step hF.one.good hn1 (ops i) (hok i hlt)
      have hm2 := nn_step hF.two.good hn2 (ops i) (hok i hlt)
      generalize stepR s1 R1 (ops i) = R1' at hF4 hs1 hm1
      generalize stepR s2 R2 (ops i) = R2' at hF4 hs2 hm2
      clear hT3 hX3 hZ3 hv3 hY3 HT2 hT4 hX4 hZ4 hv4 hF o0 o1 o2 o3
      replace hs1 : total R1' ≤ i + 1 := by omega
      replace hs2 : total R2' ≤ i + 1 := by omega
      have HA := Lib.hid (all_any w.heap.size bx s1 h14 h164 R1' v1' Z1' w4 hF4.one (by omega) hm1)
      by_cases h8 : ((i : Int) % 8 == 0) = true
      · go_wp2_with fail
        refine HA.out.mono ?_
        rintro e w5 ⟨rfl, hB5⟩
        go_wp2_with fail
        refine ⟨⟨i + 1, R1', R2', Z1', Z2', rfl, by omega, hF4.below hB5, hs1, hs2, hm1, hm2, hB4.trans (hB5.mono hB4.size)⟩, ?_⟩
        show n - (((i : Int) + 1).toNat) < n - ((i : Int).toNat)
        omega
      · go_wp2_with fail
        refine ⟨⟨i + 1, R1', R2', Z1', Z2', rfl, by omega, hF4, hs1, hs2, hm1, hm2, hB4⟩, ?_⟩
        show n - (((i : Int) + 1).toNat) < n - ((i : Int).toNat)
        omega
    · obtain rfl : i = n := by omega
      have HA1 := Lib.hid (all_any w.heap.size bx s1 h14 h164 R1 _ Z1 wr hF.one (by omega) hn1)
      go_wp2_with fail
      refine HA1.out.mono ?_
      rintro e w5 ⟨rfl, hB5⟩
      have HA2 := Lib.hid (all_any w.heap.size b2 s2 h24 h264 R2 _ Z2 w5 (hF.two.below hB5) (by omega) hn2)
      go_wp2_with fail
      refine HA2.out.mono ?_
      rintro e w6 ⟨rfl, hB6⟩
      go_wp2_with fail
      go_ret
      exact ⟨rfl, (hB.trans (hB5.mono hB.size)).trans (hB6.mono (Nat.le_trans hB.size hB5.size))⟩
end Go.Proofs.Ytagcohpghgnalaa.LM
