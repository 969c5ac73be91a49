
/-
 table: is a batch in order?
-/
import Derived.Test.YtbjofbhhnmehgaaGreatDoorCNIz7
import Derived.Test.YtbjofbhhnmehgaaGreatDoorCNIz0
set_option linter.unusedSimpArgs false
set_option linter.unusedVariables false
set_option maxHeartbeats 4000000
set_option maxRecDepth 100000
open Go.IntWalk (toNatUp iteOmega)
namespace Go.Proofs.YtbjofbhhnmehgaaGreatDoor.TT
open Go.RowKit Go.RG Go.Hp Go.Proofs.YtbjofbhhnmehgaaGreatDoor
def Chg.good (c : Chg) : Bool := decide (0 < c.key.length) && decide (c.key.length <= 64) && (c.gone || decide (c.value.length <= 1024))
theorem iV (va vb : Value) (c : Chg) (w : World) (hk : Src w va (u8s c.key)) (hv : Src w vb (u8s c.value)) :
 Calls Tryz.prog 57 #[.agg #[va, vb, .bool c.gone]] w λ e w' => e = .returned (.bool c.good) /\ Below w.heap.size w w' := by
 obtain ⟨aa, ca, rfl, -⟩ := hk.shape;obtain ⟨ab, cb, rfl, -⟩ := hv.shape;rw [zH, zH];have hb0 := zQ w (.cells #[.slice aa c.key.length ca, .slice ab c.value.length cb, .bool c.gone] 78);clear hk hv;obtain ⟨key, value, gone⟩ := c;simp only at hb0 ⊢;obtain ⟨n, hn⟩ : ∃ n, key.length = n := ⟨_, rfl⟩;obtain ⟨m, hm⟩ : ∃ m, value.length = m := ⟨_, rfl⟩;rw [hn, hm] at hb0;rw [hn, hm];have hG : Chg.good ⟨key, value, gone⟩ = (decide (0 < n) && decide (n <= 64) && (gone || decide (m <= 1024))) := by unfold Chg.good; rw [hn, hm]
 have HG := zB hG;clear hG hn hm;by_cases h1 : 0 < n
 . by_cases h2 : n <= 64
   . cases gone with
     | true =>
      go_enter Tryz.func57, Tryz.ntmps57
      go_wp2_with fail
      go_ret
      exact ⟨by rw [HG.out]; simp [h1, h2], hb0⟩
     | false =>
      by_cases h3 : m <= 1024
      . have h3' : (m : Int) <= 1024 := by omega
        go_enter Tryz.func57, Tryz.ntmps57
        go_wp2_with fail
        go_ret
        exact ⟨by rw [HG.out]; simp [h1, h2, h3], hb0⟩
      . have h3' : ¬ (m : Int) <= 1024 := by omega
        go_enter Tryz.func57, Tryz.ntmps57
        go_wp2_with fail
        go_ret
        exact ⟨by rw [HG.out]; simp [h1, h2, h3], hb0⟩
   . have h2' : ¬ (n : Int) <= 64 := by omega
     go_enter Tryz.func57, Tryz.ntmps57
     go_wp2_with fail
     go_ret
     exact ⟨by rw [HG.out]; simp [h2], hb0⟩
 . have h1' : ¬ (0 : Int) < (n : Int) := by omega
   go_enter Tryz.func57, Tryz.ntmps57
   go_wp2_with fail
   go_ret
   exact ⟨by rw [HG.out]; simp [h1], hb0⟩
theorem bad_any (va vb : Value) (c : Chg) (w : World) (hk : Src w va (u8s c.key)) (hv : Src w vb (u8s c.value)) :
 Calls Tryz.prog 56 #[.agg #[va, vb, .bool c.gone]] w λ e w' => e = .returned (.bool (!c.good)) /\ Below w.heap.size w w' := by
 have hb0 := zQ w (.cells #[va, vb, .bool c.gone] 78);have g0 := World.alloc_heap_new w (.cells #[va, vb, .bool c.gone] 78);have HG := zB (iV va vb c _ (hk.below hb0) (hv.below hb0));obtain ⟨aa, ca, rfl, -⟩ := hk.shape;obtain ⟨ab, cb, rfl, -⟩ := hv.shape;clear hk hv g0;go_enter Tryz.func56, Tryz.ntmps56
 go_wp2_with fail
 refine HG.out.mono ?_;rintro e w2 ⟨rfl, hB⟩
 cases hg : c.good with
 | true =>
  go_wp2_with fail
  go_ret
  exact ⟨by rw [hg]; rfl, hb0.trans (hB.mono hb0.size)⟩
 | false =>
  go_wp2_with fail
  go_ret
  exact ⟨by rw [hg]; rfl, hb0.trans (hB.mono hb0.size)⟩
theorem index_any (v : Value) (cs : List Chg) (F : Nat -> Prop) (w : World) (h : wE w F v cs) (hn : cs.length <= 1099511627776) :
 Calls Tryz.prog 102 #[v, .func (.func 56) #[] #[]] w λ e w' => (∃ i : Int, e = .returned (.int .i64 i) /\ (decide (0 <= i) = cs.any λ c => !c.good)) /\ Below w.heap.size w w' := by
 obtain ⟨a, cap, rfl, hel⟩ := h;obtain ⟨n, hnn⟩ : ∃ n, cs.length = n := ⟨_, rfl⟩;rw [hnn] at hn ⊢;have HN := zB hnn;have HE := zB hel;clear hnn hel;go_enter Tryz.func102, Tryz.ntmps102
 go_wp2_with fail
 go_loopw [8] (λ vi wr => ∃ i : Nat, vi = .int .i64 i /\ i <= n /\ (∀ c ∈ cs.take i, c.good = true) /\ Below w.heap.size w wr) (λ vi _ => n - (intOf vi).toNat)
 case atStart => exact ⟨0, rfl, Nat.zero_le _, λ c hc => (by cases hc), Below.refl _ _⟩
 case round =>
  obtain ⟨i, rfl, hi, hgood, hB⟩ := hrel;by_cases hin : i < n
  . have hin' : (i : Int) < (n : Int) := by omega
    obtain ⟨c, hci⟩ : ∃ c, cs[i]? = some c := ⟨_, List.getElem?_eq_getElem (by rw [HN.out]; exact hin)⟩;obtain ⟨g, o, va, vb, rfl, k0, k1, k2, hk, hv, -, hfar⟩ := HE.out i c hci;have k0 := zG hB k0;have k1 := zG hB k1;have k2 := zG hB k2;have HG := zB (bad_any va vb c wr (hk.below hB) (hv.below hB));have Hci := zB hci;have Hgood := zB hgood;clear hk hv hci hfar hgood
    go_wp2_with fail
    refine HG.out.mono ?_;rintro e w2 ⟨rfl, hB2⟩
    cases hg : c.good with
    | true =>
     go_wp2_with fail
     refine ⟨⟨i + 1, by simp, by omega, λ d hd => ?_, zF hB hB2⟩, ?_⟩
     . rw [List.take_add_one, Hci.out] at hd;rcases List.mem_append.1 hd with hd | hd
       . exact Hgood.out d hd
       . simp at hd; rw [hd]; exact hg
     . show n - ((i : Int) + 1).toNat < n - (i : Int).toNat;omega
    | false =>
     go_wp2_with fail
     go_ret
     refine ⟨⟨i, rfl, ?_⟩, zF hB hB2⟩;rw [decide_eq_true (by omega : (0 : Int) <= (i : Int))];symm;exact List.any_eq_true.2 ⟨c, List.mem_of_getElem? Hci.out, by rw [hg]; rfl⟩
  . obtain rfl : i = n := by omega
    have hin' : ¬ (i : Int) < (i : Int) := by omega
    go_wp2_with fail
    go_ret
    refine ⟨⟨-1, rfl, ?_⟩, hB⟩;rw [decide_eq_false (by omega)];symm;rw [List.any_eq_false];intro c hc;rw [hgood c (by rw [List.take_of_length_le (by rw [HN.out]; exact Nat.le_refl _)]; exact hc)];decide
theorem jW (v : Value) (cs : List Chg) (F : Nat -> Prop) (w : World) (h : wE w F v cs) (hn : cs.length <= 1099511627776) :
 Calls Tryz.prog 55 #[v, .func (.func 56) #[] #[]] w λ e w' => e = .returned (.bool (cs.any λ c => !c.good)) /\ Below w.heap.size w w' := by
 have HI := zB (index_any v cs F w h hn);obtain ⟨a, cap, rfl, -⟩ := h;go_enter Tryz.func55, Tryz.ntmps55
 go_wp2_with fail
 refine HI.out.mono ?_;rintro e w2 ⟨⟨i, rfl, hi⟩, hB⟩;have Hi := zB hi;clear hi;by_cases h0 : (0 : Int) <= i
 . go_wp2_with fail
   go_ret
   exact ⟨by rw [<- Hi.out, decide_eq_true h0]; rfl, hB⟩
 . go_wp2_with fail
   go_ret
   exact ⟨by rw [<- Hi.out]; rw [decide_eq_false (show ¬ (0 : Int) <= i by omega)]; rfl, hB⟩
def badB (cs : List Chg) : Prop := 80 < cs.length \/ (cs.any λ c => !c.good) = true
instance (cs : List Chg) : Decidable (badB cs) := by unfold badB; infer_instance
theorem wE.step {w w' : World} {b b' : Bks} {k k' : LBk} {q q' : TBk} {v : Value} {cs : List Chg} (h : wE w (allB b k q) v cs) (ha : ∀ j, allB b' k' q' j -> allB b k q j \/ w.heap.size <= j) (hX : Ext (allB b k q) w w') : wE w' (allB b' k' q') v cs := by
 have h1 : wE w (λ j => allB b k q j \/ allB b' k' q' j) v cs := h.mono λ j hj => hj.elim .inl (ha j);have h2 := h1.ext hX λ j hj => .inl hj;exact h2.mono λ j hj => .inl (.inr hj)
theorem wE.shape {w : World} {F : Nat -> Prop} {v : Value} {cs : List Chg} (h : wE w F v cs) : ∃ a cap, v = .slice a cs.length cap := by
 obtain ⟨a, cap, rfl, -⟩ := h;exact ⟨a, cap, rfl⟩
theorem commit_bad (d l : Nat) (q : TBk) (T : TblS) (v : Value) (cs : List Chg) (F : Nat -> Prop) (w : World) (h : sH w d l q T) (hb : wE w F v cs) (hn : cs.length <= 1099511627776) (hbad : badB cs) :
 Calls Tryz.prog 23 #[.pointer (some ⟨q.t, 0, none⟩), v] w λ e w' => e = .returned (.int .i64 1) /\ Below w.heap.size w w' := by
 obtain ⟨-, c1, -⟩ := h.cs;have HC := zB (jW v cs F w hb hn);obtain ⟨a, cap, rfl⟩ := hb.shape;obtain ⟨n, hnn⟩ : ∃ n, cs.length = n := ⟨_, rfl⟩;unfold badB at hbad;rw [hnn] at hn hbad HC ⊢;clear h hb hnn;by_cases h80 : 80 < n
 . have h80' : (80 : Int) < (n : Int) := by omega
   go_enter Tryz.func23, Tryz.ntmps23
   go_wp2_with fail
   go_ret
   exact ⟨rfl, Below.refl _ _⟩
 . have h80' : ¬ (80 : Int) < (n : Int) := by omega
   rw [hbad.resolve_left h80] at HC;clear hbad;go_enter Tryz.func23, Tryz.ntmps23
   go_wp2_with fail
   refine HC.out.mono ?_;rintro e w2 ⟨rfl, hB⟩
   go_wp2_with fail
   go_ret
   exact ⟨rfl, hB⟩
def nD (x : Dsk) (first size : Nat) (L : LogS) (T : TblS) (cs : List Chg) : Dsk × LogS × TblS × Int :=
 if L.free size < need (recB cs).length + uR (zU (xH T.ps cs)) then rG x first size L T 0 L.next else (x, L, T, 0)
def comAp (x : Dsk) (first size : Nat) (L : LogS) (T : TblS) (cs : List Chg) : Dsk × LogS × TblS × Int :=
 if (yH x first size L (recB cs)).2.2.2 ≠ 0 then ((yH x first size L (recB cs)).1, (yH x first size L (recB cs)).2.1, { T with fallen := (yH x first size L (recB cs)).2.2.2 }, (yH x first size L (recB cs)).2.2.2) else
 ((yH x first size L (recB cs)).1, (yH x first size L (recB cs)).2.1, { T with ps := xH T.ps cs, live := zU (xH T.ps cs), pending := T.pending + 1, fallen := 0 }, 0)
def comGo (x : Dsk) (first size : Nat) (L : LogS) (T : TblS) (cs : List Chg) : Dsk × LogS × TblS × Int :=
 if (nD x first size L T cs).2.2.2 ≠ 0 then ((nD x first size L T cs).1, (nD x first size L T cs).2.1, { (nD x first size L T cs).2.2.1 with fallen := (nD x first size L T cs).2.2.2 }, (nD x first size L T cs).2.2.2) else
 comAp (nD x first size L T cs).1 first size (nD x first size L T cs).2.1 (nD x first size L T cs).2.2.1 cs
def wG (x : Dsk) (first size : Nat) (L : LogS) (T : TblS) (cs : List Chg) : Dsk × LogS × TblS × Int :=
 if badB cs then (x, L, T, 1) else
 if (T.state x.off).fallen ≠ 0 then (x, L, T.state x.off, (T.state x.off).fallen) else
 if cs = [] then (x, L, T, 0) else
 if 8192 < (recB cs).length then (x, L, T, 81) else
 if T.cap < zU (xH T.ps cs) then (x, L, T, 2) else comGo x first size L T cs
theorem state_zero {T : TblS} {off : Bool} (h : (T.state off).fallen = 0) : T.state off = T /\ T.fallen = 0 := by
 unfold TblS.state at h ⊢
 split
 . rename_i h2; rw [if_pos h2] at h; simp at h
 . rename_i h2; rw [if_neg h2] at h; exact ⟨rfl, h⟩
structure TblS.fine (T : TblS) : Prop where
 live : T.live = zU T.ps
 room : zU T.ps <= T.cap
 cap : T.cap <= 1000000000
 pend : T.pending <= 1099511627776
theorem fK {cs : List Chg} (h : ¬ badB cs) : cs.length <= 80 /\ ∀ c ∈ cs, 0 < c.key.length /\ c.key.length <= 64 /\ (c.gone = true \/ c.value.length <= 1024) := by
 unfold badB at h;rw [not_or] at h;refine ⟨by omega, λ c hc => ?_⟩;have h2 := h.2;rw [List.any_eq_true] at h2;have h3 : c.good = true := by
  cases hg : c.good
  . exact absurd ⟨c, hc, by rw [hg]; rfl⟩ h2
  . rfl
 unfold Chg.good at h3;simp only [Bool.and_eq_true, decide_eq_true_eq, Bool.or_eq_true] at h3;exact ⟨h3.1.1, h3.1.2, h3.2⟩
theorem isBytes_chg {c : Chg} (hk : zO c.key) (hv : zO c.value) (hkl : c.key.length <= 64) (hvl : c.gone = true \/ c.value.length <= 1024) : zO (chgB c) := by
 have h1 := qO hk (by omega);unfold chgB
 split
 . intro b hb;rcases List.mem_cons.1 hb with rfl | hb
   . omega
   . exact h1 b hb
 . rename_i hg;have h2 := qO hv (by have := hvl.resolve_left hg; omega);intro b hb;rcases List.mem_cons.1 hb with rfl | hb
   . omega
   . exact (h1.append h2) b hb
theorem mW {cs : List Chg} (hl : cs.length <= 80) (h : ∀ c ∈ cs, c.key.length <= 64 /\ (c.gone = true \/ c.value.length <= 1024)) (hv : ∀ c ∈ cs, zO c.key /\ zO c.value) : zO (recB cs) := by
 unfold recB;refine zO.append ?_ ?_
 . intro b hb;rcases List.mem_cons.1 hb with rfl | hb
   . omega
   . exact qN _ (by omega) b hb
 . intro b hb;obtain ⟨c, hc, hb⟩ := List.mem_flatMap.1 hb;exact isBytes_chg (hv c hc).1 (hv c hc).2 (h c hc).1 (h c hc).2 b hb
theorem iN (cs : List Chg) : 0 < (recB cs).length := by unfold recB; simp
theorem xF.head7 {w w' : World} {b : Bks} {x' : Dsk} {N' first size : Nat} {k : LBk} {L' : LogS} {q : TBk} {T' : TblS} (h : xF w b k q x' N' first size L' T' w') : w'.cell? ⟨q.t, 7, none⟩ = some (.int .i64 T'.fallen) /\ ∀ j, w'.frozen? ⟨q.t, j, none⟩ = false := by
 obtain ⟨b2, k2, q2, d2, l2, t2, a2, X2, S2⟩ := h;have h1 := S2.tbl.cs.2.2.2.2.2.2.2.1;have h2 := S2.tbl.cs.2.2.2.2.2.2.2.2;rw [t2] at h1 h2;exact ⟨h1, h2⟩
theorem xF.set7 {w w' : World} {b : Bks} {x' : Dsk} {N' first size : Nat} {k : LBk} {L' : LogS} {q : TBk} {T' T2 : TblS} (h : xF w b k q x' N' first size L' T' w') (u : Int) (hT : T2 = { T' with fallen := u }) : xF w b k q x' N' first size L' T2 (w'.setCell ⟨q.t, 7, none⟩ (.int .i64 u)) := by
 subst hT;refine h.then λ b1 k1 q1 hd hl ht hS => ?_;rw [<- ht];exact hS.headed 7 (.int .i64 u) { T' with fallen := u } rfl rfl
theorem ckptR_T (x : Dsk) (first size : Nat) (L : LogS) (T : TblS) (h n : Nat) : (rG x first size L T h n).2.2.1 = T \/ (rG x first size L T h n).2.2.1 = { T with pending := 0 } := by
 unfold rG;simp only
 split
 . exact .inl rfl
 . split
   . exact .inl rfl
   . exact .inr rfl
theorem ckptR_ok {x : Dsk} {first size : Nat} {L : LogS} {T : TblS} {h n : Nat} (ho : L.ok size) (hs : size <= 65536) (hl : zU T.ps <= 1000000000) (hh : h <= 100000) : (rG x first size L T h n).2.1.ok size := by
 have hpl := wJ (zU T.ps);have h1 : (ckAll x first size L T h).2.1.ok size := ckUp_ok ho hs (by rw [xA]; omega) (by omega) _ (by omega);unfold rG;simp only
 split
 . exact h1
 . split
   . exact jG h1
   . exact trimR_ok (jG h1)
theorem commit_any (b : Bks) (x : Dsk) (N first size : Nat) (k : LBk) (L : LogS) (q : TBk) (T : TblS) (v : Value) (cs : List Chg) (w : World) (hS : TSys w b x N first size k L q T) (hf : T.fine) (ho : L.ok size) (hN : N <= 1080000000000)
 (hb : wE w (allB b k q) v cs) (hbad : ¬ badB cs) (hv : ∀ c ∈ cs, zO c.key /\ zO c.value) :
 Calls Tryz.prog 23 #[.pointer (some ⟨q.t, 0, none⟩), v] w λ e w' => e = .returned (.int .i64 (wG x first size L T cs).2.2.2) /\ xF w b k q (wG x first size L T cs).1 (N + 100000000) first size (wG x first size L T cs).2.1 (wG x first size L T cs).2.2.1 w' := by
 obtain ⟨hn, hgood⟩ := fK hbad;have hgl : ∀ c ∈ cs, c.key.length <= 64 /\ (c.gone = true \/ c.value.length <= 1024) := λ c hc => (hgood c hc).2;have HC := zB (jW v cs _ w hb (by omega));have hany : (cs.any λ c => !c.good) = false := by
  unfold badB at hbad;rw [not_or] at hbad;simpa using hbad.2
 rw [hany] at HC;have c1 := hS.tbl.cs.2.1;have HR := zB (show wG x first size L T cs = (if (T.state x.off).fallen ≠ 0 then (x, L, T.state x.off, (T.state x.off).fallen) else
 if cs = [] then (x, L, T, 0) else
 if 8192 < (recB cs).length then (x, L, T, 81) else
 if T.cap < zU (xH T.ps cs) then (x, L, T, 2) else comGo x first size L T cs) from by unfold wG; rw [if_neg hbad])
 have HB0 := zB hb;have HS0 := zB hS;obtain ⟨a, cap, rfl⟩ := hb.shape;obtain ⟨n, hnn⟩ : ∃ n, cs.length = n := ⟨_, rfl⟩;have HN := zB hnn;have h80 : ¬ (80 : Int) < (cs.length : Int) := by omega
 have Hgood := zB (zC hn (zC hgl hv));clear hb hS hany hbad hgood hgl hv hn;rw [hnn] at HC h80 ⊢;clear hnn;go_enter Tryz.func23, Tryz.ntmps23
 go_wp2_with fail
 refine HC.out.mono ?_;rintro e w0 ⟨rfl, hB0⟩;have HS1 := zB (HS0.out.below hB0);have HB1 := zB (HB0.out.below hB0);have HB00 := zB hB0;have HST := zB (state_any b x N first size k L q T w0 HS1.out);clear hB0 c1 HC
 go_wp2_with fail
 refine HST.out.mono ?_;rintro e w1 ⟨rfl, hP⟩;clear HST;by_cases h0 : (T.state x.off).fallen = 0
 . obtain ⟨hst, hT0⟩ := state_zero h0;rw [h0];rw [hst] at hP;have hr := HR.out;rw [if_neg (by rw [h0]; decide)] at hr;have HR := zB hr;clear hr hst h0;rcases Nat.eq_zero_or_pos n with hz | hz
   . subst hz
     go_wp2_with fail
     go_ret
     have hr := HR.out;rw [if_pos (List.eq_nil_of_length_eq_zero HN.out)] at hr;rw [hr];exact ⟨rfl, xF.of_below HB00.out (hP.mono (by omega))⟩
   . have hnz : ¬ (n : Int) = 0 := by omega
     have hnb : ((n : Int) == 0) = false := by rw [beq_eq_false_iff_ne]; exact hnz
     have hr := HR.out;rw [if_neg (λ e => by rw [e] at HN; have := HN.out; simp at this; omega)] at hr;have HR := zB hr;clear hr;obtain ⟨b1, k1, q1, hd1, hl1, ht1, ha1, hX1, hS1⟩ := hP;have HB2 := zB (HB1.out.step ha1 hX1);have HRec := zB (trecord_any (.slice a cs.length cap) cs _ w1 HB2.out Hgood.out.1 Hgood.out.2.1);rw [HN.out] at HRec;have H1 := zB (zC hd1 (zC hl1 (zC ht1 (zC ha1 (zC hX1 hS1)))));clear hd1 hl1 ht1 ha1 hX1 hS1;have hrl := pZ Hgood.out.2.1 (by have := Hgood.out.1; omega) cs.length;rw [jB, HN.out] at hrl;have hn80 : n <= 80 := by have := Hgood.out.1; rw [HN.out] at this; exact this
     obtain ⟨rl, hrl2⟩ : ∃ m, (recB cs).length = m := ⟨_, rfl⟩;rw [hrl2] at HRec hrl HR;have HRL := zB hrl2;clear hrl2
     go_wp2_with fail
     refine HRec.out.mono ?_;rintro e w2 ⟨rv, rfl, hown, hB2⟩;obtain ⟨ra, rc, rfl, -⟩ := zP hown;have HOW := zB hown;have HB22 := zB hB2;have hS2 := H1.out.2.2.2.2.2.below hB2;have hbeh := behind_any b1.d k1.l q1 T (.slice a cs.length cap) cs _ w2 hS2.tbl hf.live (by have := hf.room; have := hf.cap; omega) (HB2.out.below hB2) Hgood.out.1 Hgood.out.2.1 (λ c hc => (Hgood.out.2.2 c hc).1);rw [HN.out, H1.out.2.2.1] at hbeh;have HBEH := zB hbeh;clear hbeh hown hB2 hS2 HRec
     go_wp2_with fail
     refine HBEH.out.mono ?_;rintro e w3 ⟨rfl, hB3⟩;have hsz2 := HB22.out.size;have HB13 := zB (HB22.out.trans (hB3.mono hsz2));have HS3 := zB (H1.out.2.2.2.2.2.below HB13.out);have HOW3 := zB (yA HOW.out hB3);have c23 := HS3.out.tbl.cs.2.2.1;have c13 := HS3.out.tbl.cs.2.1;have cf3 := HS3.out.tbl.cs.2.2.2.2.2.2.2.2;have c73 := HS3.out.tbl.cs.2.2.2.2.2.2.2.1;rw [H1.out.2.2.1] at c23 c13 cf3 c73;rw [H1.out.2.1] at c13;have hal := sS HS3.out.tbl.rise Hgood.out.2.1 cs.length;rw [List.take_length] at hal;obtain ⟨af, haf⟩ : ∃ m, zU (xH T.ps cs) = m := ⟨_, rfl⟩;rw [haf] at hal HR ⊢;have HAF := zB haf;have hroom := hf.room;have hcap := hf.cap;clear hB3 HBEH haf;by_cases h8 : 8192 < rl
     . have h8' : (8192 : Int) < (rl : Int) := by omega
       go_wp2_with fail
       go_ret
       have hr := HR.out;rw [if_pos h8] at hr;rw [hr];refine ⟨rfl, xF.of_below HB00.out (.trans H1.out.1 H1.out.2.1 H1.out.2.2.1 H1.out.2.2.2.1 H1.out.2.2.2.2.1 ((xF.same H1.out.2.2.2.2.2 HB13.out).mono (by omega)))⟩
     . have h8' : ¬ (8192 : Int) < (rl : Int) := by omega
       by_cases hfull : T.cap < af
       . have hfull' : (T.cap : Int) < (af : Int) := by omega
         go_wp2_with fail
         go_ret
         have hr := HR.out;rw [if_neg h8, if_pos hfull] at hr;rw [hr];refine ⟨rfl, xF.of_below HB00.out (.trans H1.out.1 H1.out.2.1 H1.out.2.2.1 H1.out.2.2.2.1 H1.out.2.2.2.2.1 ((xF.same H1.out.2.2.2.2.2 HB13.out).mono (by omega)))⟩
       . have hfull' : ¬ (T.cap : Int) < (af : Int) := by omega
         have hr := HR.out;rw [if_neg h8, if_neg hfull] at hr;have HR := zB hr;clear hr
         go_wp2_with fail
         have hnl := mR rl;have hcl : uR af <= 79 * yF af := gY af _;have hpl := wJ af;have hle := HS3.out.lsys.le;have hbig := HS3.out.lsys.big;have hfr : L.free size <= size := by unfold LogS.free; omega
         refine zY (λ i => if i = 2 then some (λ v _ => v = .int .i64 (need rl)) else if i = 4 then some (λ v _ => v = .int .i64 (uR af)) else if i = 10 then some (λ v _ => v = .int .i64 (L.free size)) else none) fol (by kernel_rfl) (λ W hW hh => ?_);clear hh;have r13 := zV hW c13
         repeat ((first | refine lxM ?_ | refine lxF ?_ | refine zM rfl ?_); simp only [zD])
         refine zW _ rfl (λ _ _ _ h _ => h) rfl (λ w1 hb1 hf1 => ?_) ?_
         . (unfold yE; go_simp; simp only [zN])
           refine (qL rl (by omega) _).mono ?_;rintro e w' ⟨rfl, rfl⟩;exact ⟨_, rfl, Below.refl _ _, rfl⟩
         rintro v2 W2 hBw2 rfl;simp only [zD]
         repeat ((first | refine lxM ?_ | refine lxF ?_ | refine zM rfl ?_); simp only [zD])
         refine zW _ rfl (λ _ _ _ h _ => h) rfl (λ w1 hb1 hf1 => ?_) ?_
         . (unfold yE; go_simp; simp only [zN])
           refine (cost_any af (by omega) _).mono ?_;rintro e w' ⟨rfl, hB⟩;exact ⟨_, rfl, hB, rfl⟩
         rintro v4 W4 hBw4 rfl;simp only [zD]
         repeat ((first | refine lxM ?_ | refine lxF ?_ | refine zM rfl ?_); simp only [zD])
         refine zW _ rfl (λ _ _ _ h _ => h) rfl (λ w1 hb1 hf1 => ?_) ?_
         . have hb1' := hb1
           (unfold yE; go_simp; simp only [zN])
           have hfa := free_any b1.d first size k1 L w1 ((HS3.out.lsys.log.below hW).below hb1') hbig (by omega) ho;rw [H1.out.2.1] at hfa;refine hfa.mono ?_;rintro e w' ⟨rfl, hB⟩;exact ⟨_, rfl, hB, rfl⟩
         rintro v10 W10 hBw10 rfl;simp only [zD]
         repeat ((first | refine lxM ?_ | refine lxF ?_ | refine zM rfl ?_); simp only [zD])
         refine zZ ?_;have hBW := zF hW (zF hBw2 (zF hBw4 hBw10));have HB14 := zB (HB13.out.trans (hBW.mono HB13.out.size));clear hW hBw2 hBw4 hBw10 r13 c23 c13 cf3 c73;by_cases hck : L.free size < need rl + uR af
         . have hck' : (L.free size : Int) < (need rl : Int) + (uR af : Int) := by omega
           have HS4 := zB (HS3.out.below hBW);have c1x := HS4.out.tbl.cs.2.1;rw [H1.out.2.2.1, H1.out.2.1] at c1x;have hnx := next_any b1.d first size k1 L W10 HS4.out.lsys.log;rw [H1.out.2.1] at hnx;have HNX := zB hnx;have hon := ho.next;have hcp := show Calls Tryz.prog 52 #[.pointer (some ⟨q1.t, 0, none⟩), .int .i64 0, .int .u64 L.next] W10 _ from mD b1 x N first size k1 L q1 T 0 L.next W10 HS4.out hf.live (by omega) ho (by omega) (Nat.zero_le _) (by omega)
           rw [H1.out.2.2.1] at hcp;have hpT := ckptR_T x first size L T 0 L.next;have hpo := ckptR_ok (x := x) (first := first) (T := T) (h := 0) (n := L.next) ho (by omega) (by omega) (by omega);have hplT := wJ (zU T.ps);obtain ⟨N3, hN3⟩ : ∃ m, N + 79 * yF (zU T.ps) + 1 = m := ⟨_, rfl⟩;have hN3b : N3 <= N + 10000000 := by omega
           rw [hN3] at hcp;have e1 : nD x first size L T cs = rG x first size L T 0 L.next := by unfold nD; rw [HRL.out, HAF.out, if_pos hck]
           have hr := HR.out;unfold comGo at hr;rw [e1] at hr;obtain ⟨p, hp⟩ : ∃ p, rG x first size L T 0 L.next = p := ⟨_, rfl⟩;rw [hp] at hcp hpT hpo hr;have HR := zB hr;have HCP := zB hcp;have HBt0 := zB ((HB2.out.below HB13.out).below hBW);have HOt0 := zB (yA HOW3.out hBW);have hlt1 := H1.out.2.2.2.2.2.lt;have hnoR0 : ∀ j, (Value.slice ra rl rc).ownBlock = some j -> j < W10.heap.size /\ ¬ allB b1 k1 q1 j := λ j hj => ⟨(HOt0.out.lt j hj).2, λ e => by have := (HOW.out.lt j hj).1; have := hlt1 j e; omega⟩;have HPT := zB hpT;clear hnx hcp hr e1 hp hpT hN3 hlt1 hBW;obtain ⟨p1, p2, p3, p4⟩ := p;simp only at HR HCP HPT hpo
           go_wp2_with fail
           refine HNX.out.mono ?_;rintro e w4 ⟨rfl, rfl⟩
           go_wp2_with fail
           refine HCP.out.mono ?_;rintro e w5 ⟨rfl, hP⟩;have hh7 := hP.head7;rw [H1.out.2.2.1] at hh7;obtain ⟨c75, cf5⟩ := hh7;have HP := zB hP;clear hP HCP HNX;by_cases hp4 : p4 = 0
           . subst hp4;have hp3 : p3.fallen = 0 := by rcases HPT.out with e | e <;> rw [e] <;> exact hT0
             have hP6 := HP.out.set7 0 (T2 := p3) (by obtain ⟨t1, t2, t3, t4, t5⟩ := p3; simp only at hp3; rw [hp3]);rw [H1.out.2.2.1] at hP6;obtain ⟨b4, k4, q4, hd4, hl4, ht4, ha4, hX4, hS4⟩ := hP6;have HRt := zB (show wG x first size L T cs = comAp p1 first size p2 p3 cs from by rw [HR.out]; rfl);have HSt := zB hS4;have HBt := zB (HBt0.out.step ha4 hX4);have HOt := zB (xQ HOt0.out hX4 λ j hj => (hnoR0 j hj).2);have HDt := zB (zC (hd4.trans H1.out.1) (zC (hl4.trans H1.out.2.1) (ht4.trans H1.out.2.2.1)));have hfa : ∀ j, allB b4 k4 q4 j -> allB b k q j \/ w0.heap.size <= j := λ j hj => by
              rcases ha4 j hj with e | e
              . exact H1.out.2.2.2.1 j e
              . exact .inr (Nat.le_trans (Nat.le_trans H1.out.2.2.2.2.1.size HB14.out.size) e)
             have hfx : Ext (allB b k q) w0 (w5.setCell ⟨q.t, 7, none⟩ (.int .i64 0)) := (H1.out.2.2.2.2.1.trans (Ext.of_below (S := allB b k q) HB14.out) (λ _ _ h => h)).trans hX4 λ j hj e => by
              rcases H1.out.2.2.2.1 j e with e | e
              . exact e
              . omega
             have HFt := zB (zC hfa hfx);have hnoR : ∀ j, (Value.slice ra rl rc).ownBlock = some j -> ¬ allB b4 k4 q4 j := λ j hj e => by
              rcases ha4 j e with e | e
              . exact (hnoR0 j hj).2 e
              . have := (hnoR0 j hj).1; omega
             have hM := hpo;have hpps : p3.ps = T.ps /\ p3.live = T.live /\ p3.pending <= 1099511627776 := by
              rcases HPT.out with e | e
              . rw [e]; exact ⟨rfl, rfl, hf.pend⟩
              . rw [e]; exact ⟨rfl, rfl, Nat.zero_le _⟩
             have HTt := zB (show p3.live = zU p3.ps by rw [hpps.1, hpps.2.1]; exact hf.live);have HAL := zB (show ∀ i, zU (xH p3.ps (cs.take i)) <= zU T.ps + i * 1108 by rw [hpps.1]; exact sS HS3.out.tbl.rise Hgood.out.2.1);have HPE := zB hpps.2.2;have HBW := zB (zC hd4 (zC hl4 ht4));clear hd4 hl4 ht4 ha4 hX4 hS4 hfa hfx hpps hp3 hnoR0;have c15 := HP.out.log_cell;rw [H1.out.2.2.1, H1.out.2.1] at c15;have c1t := HSt.out.tbl.cs.2.1;rw [HDt.out.2.2, HDt.out.2.1] at c1t;have hap := nX b4 p1 N3 first size k4 p2 (.slice ra rl rc) (recB cs) _ HSt.out.lsys (by omega) hM (by have := Src.of_owns HOt.out; exact this) (λ j hj => ⟨λ e => hnoR j hj (.inl (.inl e)), λ e => hnoR j hj (.inl (.inr e))⟩) (mW Hgood.out.1 Hgood.out.2.1 Hgood.out.2.2) (iN cs) (by rw [HRL.out]; omega);rw [HDt.out.2.1] at hap;obtain ⟨r, hr⟩ : ∃ r, yH p1 first size p2 (recB cs) = r := ⟨_, rfl⟩;have HRt2 := zB (show wG x first size L T cs = (if r.2.2.2 ≠ 0 then (r.1, r.2.1, { p3 with fallen := r.2.2.2 }, r.2.2.2) else (r.1, r.2.1, { p3 with ps := xH p3.ps cs, live := zU (xH p3.ps cs), pending := p3.pending + 1, fallen := 0 }, 0)) from by rw [HRt.out]; unfold comAp; rw [hr]);rw [hr] at hap;have HAP := zB hap;clear hap hr
             go_wp2_with fail
             refine HAP.out.mono ?_;rintro e w5 ⟨rfl, hP⟩;obtain ⟨b5, k5, q5, hd5, hl5, ht5, ha5, hX5, hS5⟩ := HSt.out.logged hP;clear hP HAP;obtain ⟨r1, r2, r3, r4⟩ := r;simp only at HRt2 hS5;have c75 := hS5.tbl.cs.2.2.2.2.2.2.2.1;have cf5 := hS5.tbl.cs.2.2.2.2.2.2.2.2;rw [ht5, HDt.out.2.2] at c75 cf5;have hB5 := HBt.out.step ha5 hX5;have H5 := zB (zC hd5 (zC hl5 (zC ht5 (zC ha5 (zC hX5 (zC hS5 hB5))))));have HQ5 := zB (ht5.trans HDt.out.2.2);clear hd5 hl5 ht5 ha5 hX5 hS5 hB5;by_cases h04 : r4 = 0
             . subst h04;have hr := HRt2.out;simp only [ne_eq, not_true_eq_false, if_false] at hr;have HRt3 := zB hr;clear hr;have hS6 := H5.out.2.2.2.2.2.1.headed 7 (.int .i64 0) { p3 with fallen := 0 } rfl rfl;rw [HQ5.out] at hS6;obtain ⟨b6, k6, q6, hd6, hl6, ht6, ha6, hX6, hS6⟩ := hS6;have hB6 := H5.out.2.2.2.2.2.2.step ha6 hX6;have hd66 : b6.d = b.d := hd6.trans (H5.out.1.trans HDt.out.1);have hl66 : k6.l = k.l := hl6.trans (H5.out.2.1.trans HDt.out.2.1);have ht66 : q6.t = q.t := ht6.trans HQ5.out;have hX66 : Ext (allB b k q) w0 (w5.setCell ⟨q.t, 7, none⟩ (.int .i64 0)) := (HFt.out.2.trans H5.out.2.2.2.2.1 λ j hj e => by
                rcases HFt.out.1 j e with e | e
                . exact e
                . omega).trans hX6 λ j hj e => by
                rcases H5.out.2.2.2.1 j e with e | e
                . rcases HFt.out.1 j e with e | e
                  . exact e
                  . omega
                . have := HFt.out.2.size; omega
               have ha66 : ∀ j, allB b6 k6 q6 j -> allB b k q j \/ w0.heap.size <= j := λ j hj => by
                rcases ha6 j hj with e | e
                . rcases H5.out.2.2.2.1 j e with e | e
                  . exact HFt.out.1 j e
                  . exact .inr (Nat.le_trans HFt.out.2.size e)
                . exact .inr (Nat.le_trans (Nat.le_trans HFt.out.2.size H5.out.2.2.2.2.1.size) e)
               have H6 := zB (zC hd66 (zC hl66 (zC ht66 (zC ha66 (zC hX66 (zC hS6 hB6))))));clear hd6 hl6 ht6 ha6 hX6 hS6 hB6 hd66 hl66 ht66 hX66 ha66
               go_wp2_with fail
               go_loopw [108] (λ vi wr => ∃ (i : Nat) (b7 : Bks) (k7 : LBk) (q7 : TBk), vi = .int .i64 i /\ i <= n /\ b7.d = b.d /\ k7.l = k.l /\ q7.t = q.t /\ (∀ j, allB b7 k7 q7 j -> allB b k q j \/ w0.heap.size <= j) /\ Ext (allB b k q) w0 wr /\
                TSys wr b7 r1 (N3 + 79) first size k7 r2 q7 { p3 with ps := xH (p3).ps (cs.take i), live := zU (xH (p3).ps (cs.take i)), fallen := 0 } /\ wE wr (allB b7 k7 q7) (.slice a cs.length cap) cs) (λ vi _ => n - (intOf vi).toNat)
               case atStart =>
                refine ⟨0, b6, k6, q6, rfl, Nat.zero_le _, H6.out.1, H6.out.2.1, H6.out.2.2.1, H6.out.2.2.2.1, H6.out.2.2.2.2.1, ?_, H6.out.2.2.2.2.2.2⟩;have e1 : zU (xH (p3).ps (cs.take 0)) = (p3).live := HTt.out.symm;rw [e1];exact H6.out.2.2.2.2.2.1
               case round =>
                obtain ⟨i, b7, k7, q7, rfl, hi, hd7, hl7, ht7, ha7, hX7, hS7, hB7⟩ := hrel;by_cases hin : i < n
                . have hin' : (i : Int) < (n : Int) := by omega
                  obtain ⟨c, hci⟩ : ∃ c, cs[i]? = some c := ⟨_, List.getElem?_eq_getElem (by rw [HN.out]; exact hin)⟩;have hal7 := HAL.out i;obtain ⟨a', cap', e1, hel⟩ := hB7;obtain ⟨g, o, va, vb, e2, k0, k1, k2, hk, hv, hg, hfar⟩ := hel i c hci;injection e1 with e1 e3 e4;subst e1 e4 e2;have hB7 : wE wr (allB b7 k7 q7) (.slice (some ⟨g, o, none⟩) cs.length cap) cs := ⟨_, _, rfl, hel⟩;have hbx := zQ wr (.cells #[va, vb, .bool c.gone] 78);have hSx := hS7.below hbx;have hch := nV b7.d k7.l q7 _ c va vb _ hSx.tbl rfl (by simp only; omega)
                   ⟨hk.below hbx, hv.below hbx, λ j hj e => (hfar j hj).2 (.inr e), (Hgood.out.2.2 c (List.mem_of_getElem? hci)).1, (Hgood.out.2.2 c (List.mem_of_getElem? hci)).2, (Hgood.out.2.1 c (List.mem_of_getElem? hci)).1, (Hgood.out.2.1 c (List.mem_of_getElem? hci)).2⟩
                  obtain ⟨aa, ca, rfl, -⟩ := hk.shape;obtain ⟨ab, cb, rfl, -⟩ := hv.shape;rw [ht7] at hch;have HCH := zB hch;have Hci := zB hci;have H7 := zB (zC hd7 (zC hl7 (zC ht7 (zC ha7 (zC hX7 (zC hSx (zC (hB7.below hbx) hbx)))))));clear hk hv hch hfar hg hel hci hd7 hl7 ht7 ha7 hX7 hS7 hB7 hSx hbx
                  go_wp2_with fail
                  refine HCH.out.mono ?_;rintro e w8 ⟨⟨t, rfl⟩, hP⟩;obtain ⟨b8, k8, q8, hd8, hl8, ht8, ha8, hX8, hS8⟩ := H7.out.2.2.2.2.2.1.tabled hP;have hB8 := H7.out.2.2.2.2.2.2.1.step ha8 hX8;have H8 := zB (zC hd8 (zC hl8 (zC ht8 (zC ha8 (zC hX8 (zC hS8 hB8))))));clear hP hd8 hl8 ht8 ha8 hX8 hS8 hB8 HCH
                  go_wp2_with fail
                  have hXx : Ext (allB b k q) w0 w8 := (H7.out.2.2.2.2.1.trans (Ext.of_below (S := allB b k q) H7.out.2.2.2.2.2.2.2) λ _ _ h => h).trans H8.out.2.2.2.2.1 λ j hj e => by
                   rcases H7.out.2.2.2.1 j e with e | e
                   . exact e
                   . omega
                  refine ⟨⟨i + 1, b8, k8, q8, by simp, by omega, H8.out.1.trans H7.out.1, H8.out.2.1.trans H7.out.2.1, H8.out.2.2.1.trans H7.out.2.2.1, λ j hj => ?_, hXx, ?_, H8.out.2.2.2.2.2.2⟩, ?_⟩
                  . rcases H8.out.2.2.2.1 j hj with e | e
                    . exact H7.out.2.2.2.1 j e
                    . exact .inr (Nat.le_trans (Nat.le_trans H7.out.2.2.2.2.1.size H7.out.2.2.2.2.2.2.2.size) e)
                  . rw [pH Hci.out];exact H8.out.2.2.2.2.2.1
                  . show n - ((i : Int) + 1).toNat < n - (i : Int).toNat;omega
                . obtain rfl : i = n := by omega
                  have hin' : ¬ (i : Int) < (i : Int) := by omega
                  rw [List.take_of_length_le (by rw [HN.out]; exact Nat.le_refl _)] at hS7;have c67 := hS7.tbl.cs.2.2.2.2.2.2.1;have cf7 := hS7.tbl.cs.2.2.2.2.2.2.2.2;rw [ht7] at c67 cf7;simp only at c67 cf7;have hpe : (p3).pending <= 1099511627776 := HPE.out;have H7 := zB (zC hd7 (zC hl7 (zC ht7 (zC ha7 (zC hX7 hS7)))));clear hd7 hl7 ha7 hX7 hS7 hB7;have Ht7 := zB ht7;clear ht7
                  go_wp2_with fail
                  go_ret
                  rw [HRt3.out];refine ⟨rfl, xF.of_below HB00.out (.trans H7.out.1 H7.out.2.1 H7.out.2.2.1 H7.out.2.2.2.1 H7.out.2.2.2.2.1 ?_)⟩;rw [<- Ht7.out];exact (H7.out.2.2.2.2.2.headed 6 (.int .i64 (((p3).pending : Int) + 1)) { p3 with ps := xH (p3).ps cs, live := zU (xH (p3).ps cs), pending := (p3).pending + 1, fallen := 0 } rfl (by simp [uW])).mono (by omega)
             . have hne4 : (r4 == 0) = false := by rw [beq_eq_false_iff_ne]; exact h04
               have hne42 : (r4 != 0) = true := by rw [bne, hne4]; rfl
               go_wp2_with fail
               go_ret
               have hr := HRt2.out;simp only [ne_eq, h04, not_false_eq_true, if_true] at hr;rw [hr];refine ⟨rfl, xF.of_below HB00.out (.trans HDt.out.1 HDt.out.2.1 HDt.out.2.2 HFt.out.1 HFt.out.2 (.trans H5.out.1 H5.out.2.1 H5.out.2.2.1 H5.out.2.2.2.1 H5.out.2.2.2.2.1 ?_))⟩;rw [<- HQ5.out];exact (H5.out.2.2.2.2.2.1.headed 7 (.int .i64 r4) { p3 with fallen := r4 } rfl rfl).mono (by omega)
           . have hne4 : (p4 == 0) = false := by rw [beq_eq_false_iff_ne]; exact hp4
             have hne42 : (p4 != 0) = true := by rw [bne, hne4]; rfl
             go_wp2_with fail
             go_ret
             have hr := HR.out;simp only [ne_eq, hp4, not_false_eq_true, if_true] at hr;rw [hr];refine ⟨rfl, xF.of_below HB00.out (.trans H1.out.1 H1.out.2.1 H1.out.2.2.1 H1.out.2.2.2.1 H1.out.2.2.2.2.1 (xF.of_below HB14.out ?_))⟩;have := HP.out.set7 p4 rfl;rw [H1.out.2.2.1] at this;exact this.mono (by omega)
         . have hck' : ¬ (L.free size : Int) < (need rl : Int) + (uR af : Int) := by omega
           have HRt := zB (show wG x first size L T cs = comAp x first size L T cs from by
            rw [HR.out];have e1 : nD x first size L T cs = (x, L, T, 0) := by unfold nD; rw [HRL.out, HAF.out, if_neg hck]
            unfold comGo;rw [e1];rfl)
           have HSt := zB (HS3.out.below hBW);have HBt := zB ((HB2.out.below HB13.out).below hBW);have HOt := zB (yA HOW3.out hBW);have HDt := zB (zC H1.out.1 (zC H1.out.2.1 H1.out.2.2.1));have HFt := zB (zC H1.out.2.2.2.1 (H1.out.2.2.2.2.1.trans (Ext.of_below (S := allB b k q) HB14.out) (λ _ _ h => h)));have hlt1 := H1.out.2.2.2.2.2.lt;have hnoR : ∀ j, (Value.slice ra rl rc).ownBlock = some j -> ¬ allB b1 k1 q1 j := λ j hj e => by have := (HOW.out.lt j hj).1; have := hlt1 j e; omega
           have hM := ho;have hNt : N <= N + 99999000 := by omega
           have HTt := zB hf.live;have HAL := zB (sS HS3.out.tbl.rise Hgood.out.2.1);have HPE := zB hf.pend;clear hlt1 hBW;have c1t := HSt.out.tbl.cs.2.1;rw [HDt.out.2.2, HDt.out.2.1] at c1t;have hap := nX b1 x N first size k1 L (.slice ra rl rc) (recB cs) W10 HSt.out.lsys (by omega) hM (by have := Src.of_owns HOt.out; exact this) (λ j hj => ⟨λ e => hnoR j hj (.inl (.inl e)), λ e => hnoR j hj (.inl (.inr e))⟩) (mW Hgood.out.1 Hgood.out.2.1 Hgood.out.2.2) (iN cs) (by rw [HRL.out]; omega);rw [HDt.out.2.1] at hap;obtain ⟨r, hr⟩ : ∃ r, yH x first size L (recB cs) = r := ⟨_, rfl⟩;have HRt2 := zB (show wG x first size L T cs = (if r.2.2.2 ≠ 0 then (r.1, r.2.1, { T with fallen := r.2.2.2 }, r.2.2.2) else (r.1, r.2.1, { T with ps := xH T.ps cs, live := zU (xH T.ps cs), pending := T.pending + 1, fallen := 0 }, 0)) from by rw [HRt.out]; unfold comAp; rw [hr]);rw [hr] at hap;have HAP := zB hap;clear hap hr
           go_wp2_with fail
           refine HAP.out.mono ?_;rintro e w5 ⟨rfl, hP⟩;obtain ⟨b5, k5, q5, hd5, hl5, ht5, ha5, hX5, hS5⟩ := HSt.out.logged hP;clear hP HAP;obtain ⟨r1, r2, r3, r4⟩ := r;simp only at HRt2 hS5;have c75 := hS5.tbl.cs.2.2.2.2.2.2.2.1;have cf5 := hS5.tbl.cs.2.2.2.2.2.2.2.2;rw [ht5, HDt.out.2.2] at c75 cf5;have hB5 := HBt.out.step ha5 hX5;have H5 := zB (zC hd5 (zC hl5 (zC ht5 (zC ha5 (zC hX5 (zC hS5 hB5))))));have HQ5 := zB (ht5.trans HDt.out.2.2);clear hd5 hl5 ht5 ha5 hX5 hS5 hB5;by_cases h04 : r4 = 0
           . subst h04;have hr := HRt2.out;simp only [ne_eq, not_true_eq_false, if_false] at hr;have HRt3 := zB hr;clear hr;have hS6 := H5.out.2.2.2.2.2.1.headed 7 (.int .i64 0) { T with fallen := 0 } rfl rfl;rw [HQ5.out] at hS6;obtain ⟨b6, k6, q6, hd6, hl6, ht6, ha6, hX6, hS6⟩ := hS6;have hB6 := H5.out.2.2.2.2.2.2.step ha6 hX6;have hd66 : b6.d = b.d := hd6.trans (H5.out.1.trans HDt.out.1);have hl66 : k6.l = k.l := hl6.trans (H5.out.2.1.trans HDt.out.2.1);have ht66 : q6.t = q.t := ht6.trans HQ5.out;have hX66 : Ext (allB b k q) w0 (w5.setCell ⟨q.t, 7, none⟩ (.int .i64 0)) := (HFt.out.2.trans H5.out.2.2.2.2.1 λ j hj e => by
              rcases HFt.out.1 j e with e | e
              . exact e
              . omega).trans hX6 λ j hj e => by
              rcases H5.out.2.2.2.1 j e with e | e
              . rcases HFt.out.1 j e with e | e
                . exact e
                . omega
              . have := HFt.out.2.size; omega
             have ha66 : ∀ j, allB b6 k6 q6 j -> allB b k q j \/ w0.heap.size <= j := λ j hj => by
              rcases ha6 j hj with e | e
              . rcases H5.out.2.2.2.1 j e with e | e
                . exact HFt.out.1 j e
                . exact .inr (Nat.le_trans HFt.out.2.size e)
              . exact .inr (Nat.le_trans (Nat.le_trans HFt.out.2.size H5.out.2.2.2.2.1.size) e)
             have H6 := zB (zC hd66 (zC hl66 (zC ht66 (zC ha66 (zC hX66 (zC hS6 hB6))))));clear hd6 hl6 ht6 ha6 hX6 hS6 hB6 hd66 hl66 ht66 hX66 ha66
             go_wp2_with fail
             go_loopw [108] (λ vi wr => ∃ (i : Nat) (b7 : Bks) (k7 : LBk) (q7 : TBk), vi = .int .i64 i /\ i <= n /\ b7.d = b.d /\ k7.l = k.l /\ q7.t = q.t /\ (∀ j, allB b7 k7 q7 j -> allB b k q j \/ w0.heap.size <= j) /\ Ext (allB b k q) w0 wr /\
              TSys wr b7 r1 (N + 79) first size k7 r2 q7 { T with ps := xH (T).ps (cs.take i), live := zU (xH (T).ps (cs.take i)), fallen := 0 } /\ wE wr (allB b7 k7 q7) (.slice a cs.length cap) cs) (λ vi _ => n - (intOf vi).toNat)
             case atStart =>
              refine ⟨0, b6, k6, q6, rfl, Nat.zero_le _, H6.out.1, H6.out.2.1, H6.out.2.2.1, H6.out.2.2.2.1, H6.out.2.2.2.2.1, ?_, H6.out.2.2.2.2.2.2⟩;have e1 : zU (xH (T).ps (cs.take 0)) = (T).live := HTt.out.symm;rw [e1];exact H6.out.2.2.2.2.2.1
             case round =>
              obtain ⟨i, b7, k7, q7, rfl, hi, hd7, hl7, ht7, ha7, hX7, hS7, hB7⟩ := hrel;by_cases hin : i < n
              . have hin' : (i : Int) < (n : Int) := by omega
                obtain ⟨c, hci⟩ : ∃ c, cs[i]? = some c := ⟨_, List.getElem?_eq_getElem (by rw [HN.out]; exact hin)⟩;have hal7 := HAL.out i;obtain ⟨a', cap', e1, hel⟩ := hB7;obtain ⟨g, o, va, vb, e2, k0, k1, k2, hk, hv, hg, hfar⟩ := hel i c hci;injection e1 with e1 e3 e4;subst e1 e4 e2;have hB7 : wE wr (allB b7 k7 q7) (.slice (some ⟨g, o, none⟩) cs.length cap) cs := ⟨_, _, rfl, hel⟩;have hbx := zQ wr (.cells #[va, vb, .bool c.gone] 78);have hSx := hS7.below hbx;have hch := nV b7.d k7.l q7 _ c va vb _ hSx.tbl rfl (by simp only; omega)
                 ⟨hk.below hbx, hv.below hbx, λ j hj e => (hfar j hj).2 (.inr e), (Hgood.out.2.2 c (List.mem_of_getElem? hci)).1, (Hgood.out.2.2 c (List.mem_of_getElem? hci)).2, (Hgood.out.2.1 c (List.mem_of_getElem? hci)).1, (Hgood.out.2.1 c (List.mem_of_getElem? hci)).2⟩
                obtain ⟨aa, ca, rfl, -⟩ := hk.shape;obtain ⟨ab, cb, rfl, -⟩ := hv.shape;rw [ht7] at hch;have HCH := zB hch;have Hci := zB hci;have H7 := zB (zC hd7 (zC hl7 (zC ht7 (zC ha7 (zC hX7 (zC hSx (zC (hB7.below hbx) hbx)))))));clear hk hv hch hfar hg hel hci hd7 hl7 ht7 ha7 hX7 hS7 hB7 hSx hbx
                go_wp2_with fail
                refine HCH.out.mono ?_;rintro e w8 ⟨⟨t, rfl⟩, hP⟩;obtain ⟨b8, k8, q8, hd8, hl8, ht8, ha8, hX8, hS8⟩ := H7.out.2.2.2.2.2.1.tabled hP;have hB8 := H7.out.2.2.2.2.2.2.1.step ha8 hX8;have H8 := zB (zC hd8 (zC hl8 (zC ht8 (zC ha8 (zC hX8 (zC hS8 hB8))))));clear hP hd8 hl8 ht8 ha8 hX8 hS8 hB8 HCH
                go_wp2_with fail
                have hXx : Ext (allB b k q) w0 w8 := (H7.out.2.2.2.2.1.trans (Ext.of_below (S := allB b k q) H7.out.2.2.2.2.2.2.2) λ _ _ h => h).trans H8.out.2.2.2.2.1 λ j hj e => by
                 rcases H7.out.2.2.2.1 j e with e | e
                 . exact e
                 . omega
                refine ⟨⟨i + 1, b8, k8, q8, by simp, by omega, H8.out.1.trans H7.out.1, H8.out.2.1.trans H7.out.2.1, H8.out.2.2.1.trans H7.out.2.2.1, λ j hj => ?_, hXx, ?_, H8.out.2.2.2.2.2.2⟩, ?_⟩
                . rcases H8.out.2.2.2.1 j hj with e | e
                  . exact H7.out.2.2.2.1 j e
                  . exact .inr (Nat.le_trans (Nat.le_trans H7.out.2.2.2.2.1.size H7.out.2.2.2.2.2.2.2.size) e)
                . rw [pH Hci.out];exact H8.out.2.2.2.2.2.1
                . show n - ((i : Int) + 1).toNat < n - (i : Int).toNat;omega
              . obtain rfl : i = n := by omega
                have hin' : ¬ (i : Int) < (i : Int) := by omega
                rw [List.take_of_length_le (by rw [HN.out]; exact Nat.le_refl _)] at hS7;have c67 := hS7.tbl.cs.2.2.2.2.2.2.1;have cf7 := hS7.tbl.cs.2.2.2.2.2.2.2.2;rw [ht7] at c67 cf7;simp only at c67 cf7;have hpe : (T).pending <= 1099511627776 := HPE.out;have H7 := zB (zC hd7 (zC hl7 (zC ht7 (zC ha7 (zC hX7 hS7)))));clear hd7 hl7 ha7 hX7 hS7 hB7;have Ht7 := zB ht7;clear ht7
                go_wp2_with fail
                go_ret
                rw [HRt3.out];refine ⟨rfl, xF.of_below HB00.out (.trans H7.out.1 H7.out.2.1 H7.out.2.2.1 H7.out.2.2.2.1 H7.out.2.2.2.2.1 ?_)⟩;rw [<- Ht7.out];exact (H7.out.2.2.2.2.2.headed 6 (.int .i64 (((T).pending : Int) + 1)) { T with ps := xH (T).ps cs, live := zU (xH (T).ps cs), pending := (T).pending + 1, fallen := 0 } rfl (by simp [uW])).mono (by omega)
           . have hne4 : (r4 == 0) = false := by rw [beq_eq_false_iff_ne]; exact h04
             have hne42 : (r4 != 0) = true := by rw [bne, hne4]; rfl
             go_wp2_with fail
             go_ret
             have hr := HRt2.out;simp only [ne_eq, h04, not_false_eq_true, if_true] at hr;rw [hr];refine ⟨rfl, xF.of_below HB00.out (.trans HDt.out.1 HDt.out.2.1 HDt.out.2.2 HFt.out.1 HFt.out.2 (.trans H5.out.1 H5.out.2.1 H5.out.2.2.1 H5.out.2.2.2.1 H5.out.2.2.2.2.1 ?_))⟩;rw [<- HQ5.out];exact (H5.out.2.2.2.2.2.1.headed 7 (.int .i64 r4) { T with fallen := r4 } rfl rfl).mono (by omega)
 . have hne : ((T.state x.off).fallen == 0) = false := by rw [beq_eq_false_iff_ne]; exact h0
   have hne2 : ((T.state x.off).fallen != 0) = true := by rw [bne, hne]; rfl
   go_wp2_with fail
   go_ret
   have hr := HR.out;rw [if_pos h0] at hr;rw [hr];exact ⟨rfl, xF.of_below HB00.out (hP.mono (by omega))⟩
theorem und_changes : Tryz.prog.underlying 49 = some (.slice 78) := by kernel_rfl
theorem info_change : (Tryz.prog.info? 78).map (λ i => (i.zero, i.size, i.bytes)) = some (some (.agg #[.slice none 0 0, .slice none 0 0, .bool false]), 3, 56) := by kernel_rfl
def Chg.norm (c : Chg) : Chg := if c.gone then { c with value := [] } else c
theorem norm_key (c : Chg) : c.norm.key = c.key := by unfold Chg.norm; split <;> rfl
theorem chgB_norm (c : Chg) : chgB c.norm = chgB c := by
 unfold Chg.norm
 split
 . rename_i h;unfold chgB;simp [h]
 . rfl
theorem chgP_norm (ps : List Pr) (c : Chg) : chgP ps c.norm = chgP ps c := by
 unfold Chg.norm
 split
 . rename_i h;unfold chgP;simp [h]
 . rfl
structure qA (w : World) (B r : Nat) (v : Value) (cs : List Chg) : Prop where
 row : ∃ cells, w.ownsRow B 78 3 v cs.length cells /\ ∀ j c, cs[j]? = some c -> ∃ va vb, cells[j * 3]? = some va /\ cells[j * 3 + 1]? = some vb /\ cells[j * 3 + 2]? = some (.bool c.gone) /\ Src w va (u8s c.key) /\ Src w vb (u8s c.value) /\
  ∀ i, va.ownBlock = some i \/ vb.ownBlock = some i -> B <= i /\ i < w.heap.size /\ i ≠ r /\ v.ownBlock ≠ some i
 ne : v.ownBlock ≠ some r
theorem qA.ext {w w' : World} {B r : Nat} {v : Value} {cs : List Chg} (h : qA w B r v cs) (hX : Ext (· = r) w w') : qA w' B r v cs := by
 obtain ⟨cells, h1, h2⟩ := h.row;refine ⟨⟨cells, xQ h1 hX λ j hj e => h.ne (e ▸ hj), λ j c hc => ?_⟩, h.ne⟩;obtain ⟨va, vb, k1, k2, k3, k4, k5, k6⟩ := h2 j c hc;exact ⟨va, vb, k1, k2, k3, xG k4 hX λ i hi e => (k6 i (.inl hi)).2.2.1 e, xG k5 hX λ i hi e => (k6 i (.inr hi)).2.2.1 e, λ i hi => ⟨(k6 i hi).1, Nat.lt_of_lt_of_le (k6 i hi).2.1 hX.size, (k6 i hi).2.2⟩⟩
theorem qA.below {w w' : World} {B r : Nat} {v : Value} {cs : List Chg} (h : qA w B r v cs) (hB : Below w.heap.size w w') : qA w' B r v cs := h.ext (Ext.of_below hB)
theorem qA.push {w w1 : World} {B r : Nat} {v u : Value} {cs : List Chg} (h : qA w B r v cs) (c : Chg) (va vb : Value) (hk : Src w va (u8s c.key)) (hv : Src w vb (u8s c.value)) (hfar : ∀ i, va.ownBlock = some i \/ vb.ownBlock = some i -> B <= i /\ i < w.heap.size /\ i ≠ r /\ v.ownBlock ≠ some i)
 (hr : r < w.heap.size) (hX : Ext (λ j => v.ownBlock = some j) w w1) (hu : ∀ j, u.ownBlock = some j -> v.ownBlock = some j \/ w.heap.size <= j) (hown : ∀ cells, w.ownsRow B 78 3 v cs.length cells -> w1.ownsRow B 78 3 u (cs.length + 1) (cells ++ [va, vb, .bool c.gone])) : qA w1 B r u (cs ++ [c]) := by
 obtain ⟨cells, h1, h2⟩ := h.row;have hl := h1.1;have hne : ∀ i, B <= i /\ i < w.heap.size /\ i ≠ r /\ v.ownBlock ≠ some i -> B <= i /\ i < w1.heap.size /\ i ≠ r /\ u.ownBlock ≠ some i := λ i ⟨a, b, c, d⟩ => ⟨a, Nat.lt_of_lt_of_le b hX.size, c, λ e => (hu i e).elim d λ e => by omega⟩;refine ⟨⟨cells ++ [va, vb, .bool c.gone], by rw [List.length_append]; exact hown cells h1, λ j d hd => ?_⟩, λ e => (hu r e).elim h.ne λ e => by omega⟩;rcases Nat.lt_or_ge j cs.length with hj | hj
 . rw [List.getElem?_append_left hj] at hd;obtain ⟨xa, xb, k1, k2, k3, k4, k5, k6⟩ := h2 j d hd;refine ⟨xa, xb, ?_, ?_, ?_, xG k4 hX λ i hi e => (k6 i (.inl hi)).2.2.2 e, xG k5 hX λ i hi e => (k6 i (.inr hi)).2.2.2 e, λ i hi => hne i (k6 i hi)⟩
   . rw [List.getElem?_append_left (by omega)]; exact k1
   . rw [List.getElem?_append_left (by omega)]; exact k2
   . rw [List.getElem?_append_left (by omega)]; exact k3
 . have hjl := (List.getElem?_eq_some_iff.1 hd).1;rw [List.length_append, List.length_singleton] at hjl;obtain rfl : j = cs.length := by omega
   rw [List.getElem?_append_right (Nat.le_refl _), Nat.sub_self] at hd;obtain rfl := Option.some.inj hd;refine ⟨va, vb, ?_, ?_, ?_, xG hk hX λ i hi e => (hfar i (.inl hi)).2.2.2 e, xG hv hX λ i hi e => (hfar i (.inr hi)).2.2.2 e, λ i hi => hne i (hfar i hi)⟩
   . rw [List.getElem?_append_right (by omega), hl, Nat.sub_self]; rfl
   . rw [List.getElem?_append_right (by omega), hl, Nat.add_sub_cancel_left]; rfl
   . rw [List.getElem?_append_right (by omega), hl, Nat.add_sub_cancel_left]; rfl
theorem qA.batch {w : World} {B r : Nat} {v : Value} {cs : List Chg} (h : qA w B r v cs) (F : Nat -> Prop) (hF : ∀ j, F j -> j < B) : wE w F v cs := by
 obtain ⟨cells, h1, h2⟩ := h.row;obtain ⟨a, cap, hsh, -⟩ := zP h1;refine ⟨a, cap, hsh, λ i c hc => ?_⟩;obtain ⟨va, vb, k1, k2, k3, k4, k5, k6⟩ := h2 i c hc;rcases h1.2 with ⟨-, h0⟩ | ⟨g, cap', cur, hv, hg, hh, -⟩
 . have := (List.getElem?_eq_some_iff.1 hc).1; omega
 . rw [hv] at h1 hsh;injection hsh with hsh _ _;have hcell : ∀ j u, cells[j]? = some u -> w.cell? ⟨g, j, none⟩ = some u := λ j u hu => by
    have := h1.cells (g := g) rfl j u hu
    rwa [Addr.add_lit, Nat.zero_add] at this
   refine ⟨g, 0, va, vb, hsh.symm, ?_, ?_, ?_, k4, k5, λ e => by have := hF g e; omega, λ j hj => ⟨(k6 j hj).2.1, λ e => by have := hF j e; have := (k6 j hj).1; omega⟩⟩
   . rw [Nat.zero_add]; exact hcell _ _ k1
   . rw [Nat.zero_add]; exact hcell _ _ k2
   . rw [Nat.zero_add]; exact hcell _ _ k3
theorem app_chg (w : World) (B : Nat) (v : Value) (n : Nat) (cells : List Value) (hown : w.ownsRow B 78 3 v n cells) (hn : n <= 1048576) (g c : Nat) (va vb : Value) (b : Bool) (hg : w.heap[g]? = some (.cells #[va, vb, .bool b] 78 (0, 0))) (h1 : va.oneCell' = true) (h2 : vb.oneCell' = true) (hB : B <= w.heap.size) (ty : TypeId) :
 ∃ v' w', (Builtin.append_ #[49, 49] ty #[v, .slice (some ⟨g, 0, none⟩) 1 c]).run Tryz.prog w = .ok v' w' /\ w'.ownsRow B 78 3 v' (n + 1) (cells ++ [va, vb, .bool b]) /\ Ext (λ j => v.ownBlock = some j) w w' /\ (∀ k, v'.ownBlock = some k -> v.ownBlock = some k \/ w.heap.size <= k) := by
 obtain ⟨i0, hi, hz0, hz1, hz2⟩ := info_parts info_change;obtain ⟨v', w', r1, r2, r3, r4⟩ := sG (P := Tryz.prog) w B 49 ty 78 i0 (.agg #[.slice none 0 0, .slice none 0 0, .bool false]) 3 56 und_changes hi hz0 hz1 hz2 rfl (by decide) v n cells hown ⟨g, 0, none⟩ 1 c [va, vb, .bool b] rfl (λ j u hu => by
  rw [Addr.add_lit, Nat.zero_add];exact yV hg j u (by simpa using hu)) (λ u hu => by
   simp only [List.mem_cons, List.mem_nil_iff, or_false] at hu;rcases hu with rfl | rfl | rfl
   . exact h1
   . exact h2
   . rfl) (by unfold maxLen; omega) (by omega) hB
 exact ⟨v', w', r1, r2, r3.ext.mono λ k _ ⟨_, _, h, _⟩ => h, r4⟩
theorem owns_unique {w : World} {B e sz n : Nat} {v : Value} {xs ys : List Value} (h : w.ownsRow B e sz v n xs) (k : w.ownsRow B e sz v n ys) : xs = ys := by
 have h1 := h.1;have k1 := k.1;rcases h.2 with ⟨rfl, rfl⟩ | ⟨g, cap, cur, rfl, -, hg, -, -, -, ht⟩
 . rw [Nat.zero_mul] at h1 k1;rw [List.eq_nil_of_length_eq_zero h1, List.eq_nil_of_length_eq_zero k1]
 . rcases k.2 with ⟨hv, -⟩ | ⟨g', cap', cur', hv, -, kg, -, -, -, kt⟩
   . cases hv
   . injection hv with hv _ _;injection hv with hv;injection hv with hv;subst hv;rw [hg] at kg;injection kg with kg;injection kg with kg;subst kg;rw [<- ht, <- kt]
theorem qA.app {w : World} {B r : Nat} {v : Value} {cs : List Chg} (h : qA w B r v cs) (hn : cs.length <= 1048576) (c : Chg) (va vb : Value) (hk : Src w va (u8s c.key)) (hv : Src w vb (u8s c.value)) (hfar : ∀ i, va.ownBlock = some i \/ vb.ownBlock = some i -> B <= i /\ i < w.heap.size /\ i ≠ r /\ v.ownBlock ≠ some i)
 (hr : r < w.heap.size) (hB : B <= w.heap.size) (g cc : Nat) (hg : w.heap[g]? = some (.cells #[va, vb, .bool c.gone] 78 (0, 0))) (ty : TypeId) :
 ∃ v' w', (Builtin.append_ #[49, 49] ty #[v, .slice (some ⟨g, 0, none⟩) 1 cc]).run Tryz.prog w = .ok v' w' /\ qA w' B r v' (cs ++ [c]) /\ Ext (λ j => v.ownBlock = some j) w w' /\ (∀ k, v'.ownBlock = some k -> v.ownBlock = some k \/ w.heap.size <= k) /\ ∃ a cap, v' = .slice a (cs.length + 1) cap := by
 obtain ⟨cells, h1, h2⟩ := h.row;have e1 : va.oneCell' = true := by obtain ⟨a, c, rfl, -⟩ := hk.shape; rfl
 have e2 : vb.oneCell' = true := by obtain ⟨a, c, rfl, -⟩ := hv.shape; rfl
 obtain ⟨v', w', r1, r2, r3, r4⟩ := app_chg w B v cs.length cells h1 (by omega) g cc va vb c.gone hg e1 e2 hB ty;obtain ⟨a, cap, hsh, -⟩ := zP r2;exact ⟨v', w', r1, h.push c va vb hk hv hfar hr r3 r4 λ cells' h' => by rw [owns_unique h' h1]; exact r2, r3, r4, a, cap, hsh⟩
theorem recB_split {cs : List Chg} {i : Nat} {c : Chg} (h : cs[i]? = some c) : ∃ rest, (recB cs).drop (yD cs i).length = chgB c ++ rest := by
 refine ⟨(cs.drop (i + 1)).flatMap chgB, ?_⟩;obtain ⟨hi, hc⟩ := List.getElem?_eq_some_iff.1 h;have e1 : recB cs = yD cs i ++ (chgB c ++ (cs.drop (i + 1)).flatMap chgB) := by
  unfold recB yD;have e2 : cs.flatMap chgB = (cs.take i).flatMap chgB ++ (chgB c ++ (cs.drop (i + 1)).flatMap chgB) := by
   conv => lhs; rw [<- List.take_append_drop i cs, List.drop_eq_getElem_cons hi, hc, List.flatMap_append, List.flatMap_cons]
  rw [e2];simp only [List.append_assoc]
 rw [e1, List.drop_left]
theorem RdAt.other {w w' : World} {S : Nat -> Prop} {r : Nat} {v : Value} {bs : List Int} {at' : Nat} (h : RdAt w r v bs at') (hX : Ext S w w') (hr : ¬ S r) (hv : ∀ k, v.ownBlock = some k -> ¬ S k) : RdAt w' r v bs at' :=
 ⟨hX.heap h.head hr, h.src.ext hX hv, h.ne, h.bytes, h.le, h.lim⟩
theorem batch_any (v : Value) (cs : List Chg) (w : World) (hv : Src w v (u8s (recB cs))) (h0 : cs ≠ []) (hn : cs.length <= 80) (hg : ∀ c ∈ cs, c.good = true /\ zO c.key /\ zO c.value /\ c.value.length <= 1024) :
 Calls Tryz.prog 96 #[v] w λ e w' => ∃ u, e = .returned u /\ wE w' (λ j => j < w.heap.size) u (cs.map Chg.norm) /\ Below w.heap.size w w' := by
 have hgl : ∀ c ∈ cs, c.key.length <= 64 /\ (c.gone = true \/ c.value.length <= 1024) := λ c hc => by
  have h := (hg c hc).1;unfold Chg.good at h;simp only [Bool.and_eq_true, decide_eq_true_eq] at h;exact ⟨h.1.2, .inr (hg c hc).2.2.2⟩
 have hbb := mW hn hgl (λ c hc => ⟨(hg c hc).2.1, (hg c hc).2.2.1⟩);have hpre := pZ hgl (by omega);have hpall := jB cs;have hbl := hpre cs.length;rw [hpall] at hbl;have hN := rnew_any v (recB cs) w hv hbb (by omega);obtain ⟨bs, hbs⟩ : ∃ b, recB cs = b := ⟨_, rfl⟩;have hsplit := λ i c (h : cs[i]? = some c) => recB_split h;have hd1 : sdnv cs.length <+: bs.drop 1 := by rw [<- hbs]; exact ⟨cs.flatMap chgB, rfl⟩
 have hp0 : (yD cs 0).length = 1 + (sdnv cs.length).length := by simp [yD]; omega
 have hl1 : 1 <= bs.length := by rw [<- hbs]; unfold recB; simp
 rw [hbs] at hN hbl hpall hsplit hbb;obtain ⟨n, hnn⟩ : ∃ n, cs.length = n := ⟨_, rfl⟩;have hnpos : 0 < n := by rw [<- hnn]; exact List.length_pos_iff.2 h0
 rw [hnn] at hn hd1 hp0 hbl hpall;have Hbs := zB hbs;have HN := zB hN;have HNN := zB hnn;have Hpre := zB hpre;have Hsplit := zB hsplit;have Hpall := zB hpall;have Hp0 := zB hp0;clear hv hN hnn hbs hpre hsplit hpall h0 hp0;go_enter Tryz.func96, Tryz.ntmps96
 go_wp2_with fail
 refine HN.out.mono ?_;rintro e w1 ⟨r, u, rfl, hR1, hr1, hu1, hB1⟩;have HTk := zB (rtake_ok r u bs 0 1 (by omega) w1 hR1);have hrl1 := zI hR1.head;have hult : ∀ j, u.ownBlock = some j -> j < w1.heap.size := λ j hj => by
  rcases hR1.src with ⟨g, o, c, rfl, -, hc⟩ | ⟨-, e⟩
  . obtain rfl := Option.some.inj hj;exact block_lt_of_cell (hc 0 _ (List.getElem?_eq_getElem (by rw [zH]; omega)))
  . have := congrArg List.length e;rw [zH] at this;simp at this;rw [this] at hl1;simp at hl1
 clear hR1 HN
 go_wp2_with fail
 refine HTk.out.mono ?_;rintro e w2 ⟨u2, rfl, hown2, hR2, hX2⟩;obtain ⟨ta, tc, rfl, -⟩ := zP hown2;have HNm := zB (nP r u bs (0 + 1) n 80 hn (by decide) hd1 w2 hR2);clear hR2 HTk hown2
 go_wp2_with fail
 refine HNm.out.mono ?_;rintro e w3 ⟨rfl, hR3, hX3⟩;have HE3 := zB (pW r u bs _ w3 hR3);have HR3 := zB hR3;clear hR3 HNm;have hnz : (0 : Int) < (n : Int) := by omega
 go_wp2_with fail
 refine HE3.out.mono ?_;rintro e w4 ⟨rfl, rfl⟩
 go_wp2_with fail
 refine (xZ w3).mono ?_;rintro e w4 ⟨⟨t, rfl⟩, rfl⟩;have hB3 : Below w.heap.size w w3 := (hB1.trans (Ext.to_belowAt hX2 hB1.size λ k hk e => by omega)).trans (Ext.to_belowAt hX3 (Nat.le_trans hB1.size hX2.size) λ k hk e => by omega);have hrl3 := zI HR3.out.head;have HL0 := zB (show qA w3 w.heap.size r (.slice none 0 0) [] from ⟨⟨[], ⟨rfl, .inl ⟨rfl, rfl⟩⟩, λ j c hc => (by cases hc)⟩, λ e => (by cases e)⟩)
 go_wp2_with fail
 go_loopw [5, 23] (λ vl vi wr => ∃ i : Nat, vi = .int .u64 i /\ i <= n /\ RdAt wr r u bs (yD cs i).length /\ qA wr w.heap.size r vl ((cs.take i).map Chg.norm) /\ (∀ j, vl.ownBlock = some j -> u.ownBlock ≠ some j) /\ w1.heap.size <= wr.heap.size /\ Below w.heap.size w wr) (λ _ vi _ => n - (intOf vi).toNat)
 case atStart =>
  refine ⟨0, rfl, Nat.zero_le _, ?_, HL0.out, λ j hj => (by cases hj), Nat.le_trans hX2.size hX3.size, hB3⟩;have := HR3.out
  rwa [Nat.zero_add, <- Hp0.out] at this
 case round =>
  obtain ⟨i, rfl, hi, hRr, hLr, hul, hw1r, hBr⟩ := hrel;by_cases hin : i < n
  . have hin' : (i : Int) < (n : Int) := by omega
    obtain ⟨c, hci⟩ : ∃ c, cs[i]? = some c := ⟨_, List.getElem?_eq_getElem (by rw [HNN.out]; exact hin)⟩;obtain ⟨rest, hrest⟩ := Hsplit.out i c hci;obtain ⟨hgd, hkb, hvb, hvl⟩ := hg c (List.mem_of_getElem? hci);obtain ⟨hkl, -⟩ := hgl c (List.mem_of_getElem? hci);have hsucc := pY hci;obtain ⟨off, hoff⟩ : ∃ o, (yD cs i).length = o := ⟨_, rfl⟩;have hoff' : (yD cs (i + 1)).length = off + (chgB c).length := by rw [hsucc, List.length_append, hoff]
    rw [hoff] at hrest hRr;have hnorm : ((cs.take (i + 1)).map Chg.norm) = (cs.take i).map Chg.norm ++ [c.norm] := by rw [List.take_add_one, hci]; simp
    have hll : ((cs.take i).map Chg.norm).length = i := by rw [List.length_map, List.length_take, HNN.out]; omega
    have hlen : off + (chgB c).length <= bs.length := by
     have := congrArg List.length hrest;rw [List.length_drop, List.length_append] at this;have := hRr.le;omega
    have HF := zB (zC hoff' (zC hnorm hll));have hrr := zI hRr.head;have hbr := hBr.size;have HLr := zB hLr;have hulr : ∀ j, u.ownBlock = some j -> j ≠ r := λ j hj e => hRr.ne (e ▸ hj);have hcl1 : 1 <= (chgB c).length := by unfold chgB; split <;> simp
    have HTk := zB (rtake_ok r u bs off 1 (by omega) wr hRr);clear hoff' hnorm hll hLr hRr hci hsucc hoff;rcases Bool.eq_false_or_eq_true c.gone with hgone | hgone
    . have hcb : chgB c = 0 :: lenB c.key := by unfold chgB; rw [if_pos hgone]
      have hnc : c.norm = ⟨c.key, [], true⟩ := by
       obtain ⟨ck, cv, cg⟩ := c;simp only at hgone;subst hgone;rfl
      have hk1 : (bs.drop off).take 1 = [0] := by rw [hrest, hcb]; rfl
      have hk2 : sdnv c.key.length ++ c.key <+: bs.drop (off + 1) := by
       rw [<- List.drop_drop, hrest, hcb];exact ⟨rest, rfl⟩
      rw [hk1] at HTk;have hgl2 : (chgB c).length = 1 + (sdnv c.key.length).length + c.key.length := by rw [hcb]; unfold lenB; simp; omega
      have HG := zB (zC hgone (zC hnc hgl2));have hgd2 : (⟨c.key, [], true⟩ : Chg).good = true := by
       unfold Chg.good at hgd ⊢;simp only [Bool.and_eq_true, decide_eq_true_eq] at hgd;simp [hgd.1.1, hgd.1.2]
      clear hgone hnc hcb hk1 hgl2 hgd
      go_wp2_with fail
      refine HTk.out.mono ?_;rintro e w4 ⟨ku, rfl, hownk, hR4, hX4⟩;obtain ⟨ka, kc, rfl, -⟩ := zP hownk;have hksrc := Src.of_owns hownk;have hkfr : ∀ j, (Value.slice ka 1 kc).ownBlock = some j -> wr.heap.size <= j /\ j < w4.heap.size := λ j hj => hownk.lt j hj;have hs4 := hX4.size;have HBy := zB (oS r u bs (off + 1) 64 c.key hkl (by decide) hk2 w4 hR4);clear hR4 hownk HTk hk2
      go_wp2_with fail
      refine HBy.out.mono ?_;rintro e w5 ⟨kv, rfl, hown5, hR5, hX5⟩;obtain ⟨a5, c5, rfl, -⟩ := zP hown5;have hs5 := hX5.size;have hk5 : Src w5 (.slice ka 1 kc) (u8s [0]) := xG hksrc hX5 λ j hj e => by have := (hkfr j hj).1; omega
      obtain ⟨gk, ok, ck, hke, -, hkc⟩ : ∃ g o c', Value.slice ka 1 kc = .slice (some ⟨g, o, none⟩) 1 c' /\ 1 <= c' /\ w5.cell? ⟨g, o + 0, none⟩ = some (.int .u8 0) := by
       rcases hk5 with ⟨g, o, c', e1, h2, h3⟩ | ⟨-, e2⟩
       . exact ⟨g, o, c', e1, h2, h3 0 _ rfl⟩
       . cases e2
      injection hke with e1 _ e2;subst e1 e2;rw [Nat.add_zero] at hkc;have hgk := block_lt_of_cell hkc;simp only at hgk;have hb6 := zQ w5 (.cells #[.slice a5 c.key.length c5, .slice none 0 0, .bool false] 78);have hE6 := zB (pW r u bs _ _ (hR5.below hb6));have hkc6 := zG hb6 hkc;have hb7 := zQ w5 (.cells #[.slice a5 c.key.length c5, .slice none 0 0, .bool true] 78);have g7 := World.alloc_heap_new w5 (.cells #[.slice a5 c.key.length c5, .slice none 0 0, .bool true] 78);have hE7 := zB (pW r u bs _ _ (hR5.below hb7));have HR7 := zB (hR5.below hb7);have hfk : ∀ j, (Value.slice a5 c.key.length c5).ownBlock = some j -> w4.heap.size <= j /\ j < w5.heap.size := λ j hj => hown5.lt j hj;have HK7 := zB ((Src.of_owns hown5).below hb7);have hGd := iV (.slice a5 c.key.length c5) (.slice none 0 0) ⟨c.key, [], true⟩ _ HK7.out (.inr ⟨rfl, rfl⟩);rw [hgd2] at hGd;have HGd := zB hGd;have HX := zB (zC hX4 (zC hX5 (zC hb7 g7)));have hrl5 := zI hR5.head;clear hGd hb6 hb7 g7 hR5 hown5 hksrc hk5 HBy hX4 hX5
      go_wp2_with fail
      refine hE6.out.mono ?_;rintro e w6 ⟨rfl, rfl⟩
      go_wp2_with fail
      refine (xZ _).mono ?_;rintro e w6 ⟨⟨t, rfl⟩, rfl⟩
      go_wp2_with fail
      refine hE7.out.mono ?_;rintro e w6 ⟨rfl, rfl⟩
      go_wp2_with fail
      refine HGd.out.mono ?_;rintro e w7 ⟨rfl, hB7⟩
      go_wp2_with fail
      refine (xZ _).mono ?_;rintro e w8 ⟨⟨t, rfl⟩, rfl⟩;have k70 := zG hB7 (yV HX.out.2.2.2 0 _ rfl);have k71 := zG hB7 (yV HX.out.2.2.2 1 _ rfl);have k72 := zG hB7 (yV HX.out.2.2.2 2 _ rfl);have hb8 := zQ w7 (.cells #[.slice a5 c.key.length c5, .slice none 0 0, .bool true] 78);have g8 := World.alloc_heap_new w7 (.cells #[.slice a5 c.key.length c5, .slice none 0 0, .bool true] 78);have hB58 := (HX.out.2.2.1.trans (hB7.mono HX.out.2.2.1.size)).trans (hb8.mono (Nat.le_trans HX.out.2.2.1.size hB7.size));have hXall := (HX.out.1.trans HX.out.2.1 λ _ _ h => h).trans (Ext.of_below (S := (· = r)) hB58) λ _ _ h => h;have hL8 := HLr.out.ext hXall;have hltl : ∀ j, u5.ownBlock = some j -> j < wr.heap.size := λ j hj => by obtain ⟨cells, h1, -⟩ := HLr.out.row; exact xD h1 hj
      have hshl : ∃ a cap, u5 = .slice a i cap := by
       obtain ⟨cells, h1, -⟩ := HLr.out.row;rw [HF.out.2.2] at h1;obtain ⟨a, cap, h, -⟩ := zP h1;exact ⟨a, cap, h⟩
      have hsz8 := hB58.size;obtain ⟨v9, w9, ra9, hL9, hX9, hu9, va9, vc9, hv9⟩ := hL8.app (by rw [HF.out.2.2]; omega) ⟨c.key, [], true⟩ (.slice a5 c.key.length c5) (.slice none 0 0) (((HK7.out.below hB7).below hb8)) (.inr ⟨rfl, rfl⟩) (λ j hj => by
       rcases hj with hj | hj
       . have := hfk j hj;exact ⟨by omega, by omega, by omega, λ e => by have := hltl j e; omega⟩
       . cases hj) (by omega) (by omega) w7.heap.size 1 g8 49
      rw [HF.out.2.2] at hv9;subst hv9;obtain ⟨la, lc, rfl⟩ := hshl;have hRf := zB (HR7.out.below hB7 |>.below hb8)
      have HB7 := zB (zC hB7 (zC hb8 (zC hXall (zC hL9 (zC hX9 (zC hu9 hB58))))));have Hra := zB ra9;clear hB7 hb8 g8 hB58 hXall hL8 hL9 hX9 ra9 hu9
      go_wp2_with (at_builtin; refine yW rfl (yM (.tmp 59) (.tmp 61) 49 49 rfl Hra.out) ?_)
      have hne : (Value.slice la i lc).ownBlock ≠ some r := HLr.out.ne;refine ⟨⟨i + 1, by simp, by omega, ?_, ?_, λ j hj e => ?_, ?_, ?_⟩, ?_⟩
      . rw [HF.out.1, HG.out.2.2, show off + (1 + (sdnv c.key.length).length + c.key.length) = off + 1 + (sdnv c.key.length).length + c.key.length by omega];exact hRf.out.other HB7.out.2.2.2.2.1 hne λ k hk e => hul k e hk
      . rw [HF.out.2.1, HG.out.2.1];exact HB7.out.2.2.2.1
      . rcases HB7.out.2.2.2.2.2.1 j hj with e2 | e2
        . exact hul j e2 e
        . have := hult j e; omega
      . have := HB7.out.2.2.2.2.1.size; omega
      . exact (hBr.trans (Ext.to_belowAt HB7.out.2.2.1 hbr λ k hk e => by omega)).trans (Ext.to_belowAt HB7.out.2.2.2.2.1 (by omega) λ k hk e => by
         obtain ⟨cells, h1, -⟩ := HLr.out.row;have := (h1.lt k e).1;omega)
      . show n - ((i : Int) + 1).toNat < n - (i : Int).toNat;omega
    . have hcb : chgB c = 1 :: (lenB c.key ++ lenB c.value) := by unfold chgB; rw [if_neg (by rw [hgone]; decide)]
      have hnc : c.norm = c := by unfold Chg.norm; rw [if_neg (by rw [hgone]; decide)]
      have hk1 : (bs.drop off).take 1 = [1] := by rw [hrest, hcb]; rfl
      have hd2 : bs.drop (off + 1) = lenB c.key ++ (lenB c.value ++ rest) := by
       rw [<- List.drop_drop, hrest, hcb];simp
      have hk2 : sdnv c.key.length ++ c.key <+: bs.drop (off + 1) := by rw [hd2]; exact ⟨_, rfl⟩
      have hk3 : sdnv c.value.length ++ c.value <+: bs.drop (off + 1 + (sdnv c.key.length).length + c.key.length) := by
       have e : bs.drop (off + 1 + (sdnv c.key.length).length + c.key.length) = lenB c.value ++ rest := by
        rw [show off + 1 + (sdnv c.key.length).length + c.key.length = (off + 1) + (lenB c.key).length by unfold lenB; rw [List.length_append]; omega, <- List.drop_drop, hd2, List.drop_left]
       rw [e];exact ⟨_, rfl⟩
      rw [hk1] at HTk;have hgl2 : (chgB c).length = 1 + ((sdnv c.key.length).length + c.key.length) + ((sdnv c.value.length).length + c.value.length) := by rw [hcb]; unfold lenB; simp; omega
      have HG := zB (zC hgone (zC hnc hgl2));clear hnc hcb hk1 hgl2 hd2 hgone
      go_wp2_with fail
      refine HTk.out.mono ?_;rintro e w4 ⟨ku, rfl, hownk, hR4, hX4⟩;obtain ⟨ka, kc, rfl, -⟩ := zP hownk;have hksrc := Src.of_owns hownk;have hkfr : ∀ j, (Value.slice ka 1 kc).ownBlock = some j -> wr.heap.size <= j /\ j < w4.heap.size := λ j hj => hownk.lt j hj;have hs4 := hX4.size;have HBy := zB (oS r u bs (off + 1) 64 c.key hkl (by decide) hk2 w4 hR4);clear hR4 hownk HTk hk2
      go_wp2_with fail
      refine HBy.out.mono ?_;rintro e w5 ⟨kv, rfl, hown5, hR5, hX5⟩;obtain ⟨a5, c5, rfl, -⟩ := zP hown5;have hs5 := hX5.size;have hk5 : Src w5 (.slice ka 1 kc) (u8s [1]) := xG hksrc hX5 λ j hj e => by have := (hkfr j hj).1; omega
      obtain ⟨gk, ok, ck, hke, -, hkc⟩ : ∃ g o c', Value.slice ka 1 kc = .slice (some ⟨g, o, none⟩) 1 c' /\ 1 <= c' /\ w5.cell? ⟨g, o + 0, none⟩ = some (.int .u8 1) := by
       rcases hk5 with ⟨g, o, c', e1, h2, h3⟩ | ⟨-, e2⟩
       . exact ⟨g, o, c', e1, h2, h3 0 _ rfl⟩
       . cases e2
      injection hke with e1 _ e2;subst e1 e2;rw [Nat.add_zero] at hkc;have hgk := block_lt_of_cell hkc;simp only at hgk;have hb6 := zQ w5 (.cells #[.slice a5 c.key.length c5, .slice none 0 0, .bool false] 78);have g6 := World.alloc_heap_new w5 (.cells #[.slice a5 c.key.length c5, .slice none 0 0, .bool false] 78);have hE6 := zB (pW r u bs _ _ (hR5.below hb6));have hkc6 := zG hb6 hkc;have hfk : ∀ j, (Value.slice a5 c.key.length c5).ownBlock = some j -> w4.heap.size <= j /\ j < w5.heap.size := λ j hj => hown5.lt j hj;have HK6 := zB ((Src.of_owns hown5).below hb6);have HBv := zB (oS r u bs _ 1024 c.value hvl (by decide) hk3 _ (hR5.below hb6));have HX := zB (zC hX4 (zC hX5 (zC hb6 g6)));have hrl5 := zI hR5.head;have hsz6 : (w5.alloc (.cells #[.slice a5 c.key.length c5, .slice none 0 0, .bool false] 78)).heap.size = w5.heap.size + 1 := by simp
      clear hb6 g6 hR5 hown5 hksrc hk5 HBy hX4 hX5 hk3
      go_wp2_with fail
      refine hE6.out.mono ?_;rintro e w6 ⟨rfl, rfl⟩
      go_wp2_with fail
      refine (xZ _).mono ?_;rintro e w6 ⟨⟨t, rfl⟩, rfl⟩
      go_wp2_with fail
      refine HBv.out.mono ?_;rintro e w7 ⟨vv, rfl, hown7, hR7, hX7⟩;obtain ⟨a7, c7, rfl, -⟩ := zP hown7;have g7 : w7.heap[w5.heap.size]? = some (.cells #[.slice a5 c.key.length c5, .slice none 0 0, .bool false] 78 (0, 0)) := hX7.heap HX.out.2.2.2 (by omega);have hfv : ∀ j, (Value.slice a7 c.value.length c7).ownBlock = some j -> w5.heap.size + 1 <= j /\ j < w7.heap.size := λ j hj => by have := hown7.lt j hj; omega
      have k70 := yV g7 0 (.slice a5 c.key.length c5) rfl;have k71 := yV g7 1 (.slice none 0 0) rfl;have k72 := yV g7 2 (.bool false) rfl;have f7 : ∀ j, w7.frozen? ⟨w5.heap.size, j, none⟩ = false := λ j => by simp only [World.frozen?]; rw [g7]; simp
      have hX8 := Ext.setCell (S := (· = w5.heap.size)) (w := w7) (p := ⟨w5.heap.size, 1, none⟩) rfl (.slice a7 c.value.length c7);have hR8 := hR7.other hX8 (by omega) (λ k hk e => by have := hult k hk; omega);have g8 := yB (j := 1) g7 (.slice a7 c.value.length c7);have HK8 := zB (xG (xG HK6.out hX7 λ j hj e => by have := hfk j hj; omega) hX8 λ j hj e => by have := hfk j hj; omega);have HV8 := zB (xG (Src.of_owns hown7) hX8 λ j hj e => by have := hfv j hj; omega);have hE8 := zB (pW r u bs _ _ hR8);have hcg : c.good = true := hgd;have hGd := iV (.slice a5 c.key.length c5) (.slice a7 c.value.length c7) c _ HK8.out HV8.out;rw [hcg, HG.out.1] at hGd;have HGd := zB hGd;have HR8 := zB hR8;have hsz7 := hX7.size;have HY := zB (zC hX7 (zC hX8 g8));have hsz8 : (w7.setCell ⟨w5.heap.size, 1, none⟩ (.slice a7 c.value.length c7)).heap.size = w7.heap.size := by simp
      clear hGd g7 g8 hX7 hX8 hR7 hR8 hown7 hcg HBv
      go_wp2_with fail
      refine hE8.out.mono ?_;rintro e w8 ⟨rfl, rfl⟩
      go_wp2_with fail
      refine HGd.out.mono ?_;rintro e w9 ⟨rfl, hB9⟩
      go_wp2_with fail
      refine (xZ _).mono ?_;rintro e w10 ⟨⟨t, rfl⟩, rfl⟩;have hb10 := zQ w9 (.cells #[.slice a5 c.key.length c5, .slice a7 c.value.length c7, .bool false] 78);have g10 := World.alloc_heap_new w9 (.cells #[.slice a5 c.key.length c5, .slice a7 c.value.length c7, .bool false] 78);have g9 := zK hB9 HY.out.2.2;have k90 := yV g9 0 (.slice a5 c.key.length c5) rfl;have k91 := yV g9 1 (.slice a7 c.value.length c7) rfl;have k92 := yV g9 2 (.bool false) rfl;have hBx := hB9.trans (hb10.mono hB9.size);have hX48 := ((HX.out.1.trans HX.out.2.1 λ _ _ h => h).trans (Ext.of_below (S := (· = r)) HX.out.2.2.1) λ _ _ h => h).trans HY.out.1 λ _ _ h => h;have hX88 : Ext (· = r) wr (w7.setCell ⟨w5.heap.size, 1, none⟩ (.slice a7 c.value.length c7)) := hX48.trans HY.out.2.1 λ k hk e => by omega
      have hXall := hX88.trans (Ext.of_below (S := (· = r)) hBx) λ _ _ h => h;have hL8 := HLr.out.ext hXall;have hltl : ∀ j, u5.ownBlock = some j -> j < wr.heap.size := λ j hj => by obtain ⟨cells, h1, -⟩ := HLr.out.row; exact xD h1 hj
      have hshl : ∃ a cap, u5 = .slice a i cap := by
       obtain ⟨cells, h1, -⟩ := HLr.out.row;rw [HF.out.2.2] at h1;obtain ⟨a, cap, h, -⟩ := zP h1;exact ⟨a, cap, h⟩
      have hszx := hBx.size;obtain ⟨v9, w11, ra9, hL9, hX9, hu9, va9, vc9, hv9⟩ := hL8.app (by rw [HF.out.2.2]; omega) c (.slice a5 c.key.length c5) (.slice a7 c.value.length c7) (HK8.out.below hBx) (HV8.out.below hBx) (λ j hj => by
       rcases hj with hj | hj
       . have := hfk j hj;exact ⟨by omega, by omega, by omega, λ e => by have := hltl j e; omega⟩
       . have := hfv j hj;exact ⟨by omega, by omega, by omega, λ e => by have := hltl j e; omega⟩) (by omega) (by omega) w9.heap.size 1 (by rw [HG.out.1]; exact g10) 49
      rw [HF.out.2.2] at hv9;subst hv9;obtain ⟨la, lc, rfl⟩ := hshl;have hRf := zB (HR8.out.below hBx);have HB7 := zB (zC hXall (zC hL9 (zC hX9 (zC hu9 hBx))));have Hra := zB ra9;have HG2 := zB HG.out;clear hB9 hb10 g10 g9 hBx hX48 hX88 hXall hL8 hL9 hX9 ra9 hu9
      go_wp2_with (at_builtin; refine yW rfl (yM (.tmp 59) (.tmp 61) 49 49 rfl Hra.out) ?_)
      have hne : (Value.slice la i lc).ownBlock ≠ some r := HLr.out.ne;refine ⟨⟨i + 1, by simp, by omega, ?_, ?_, λ j hj e => ?_, ?_, ?_⟩, ?_⟩
      . rw [HF.out.1, HG2.out.2.2, show off + (1 + ((sdnv c.key.length).length + c.key.length) + ((sdnv c.value.length).length + c.value.length)) = off + 1 + (sdnv c.key.length).length + c.key.length + (sdnv c.value.length).length + c.value.length by omega];exact hRf.out.other HB7.out.2.2.1 hne λ k hk e => hul k e hk
      . rw [HF.out.2.1, HG2.out.2.1];exact HB7.out.2.1
      . rcases HB7.out.2.2.2.1 j hj with e2 | e2
        . exact hul j e2 e
        . have := hult j e; omega
      . have := HB7.out.2.2.1.size; omega
      . exact (hBr.trans (Ext.to_belowAt HB7.out.1 hbr λ k hk e => by omega)).trans (Ext.to_belowAt HB7.out.2.2.1 (by omega) λ k hk e => by
         obtain ⟨cells, h1, -⟩ := HLr.out.row;have := (h1.lt k e).1;omega)
      . show n - ((i : Int) + 1).toNat < n - (i : Int).toNat;omega
  . obtain rfl : i = n := by omega
    have hin' : ¬ (i : Int) < (i : Int) := by omega
    rw [Hpall.out] at hRr;have HEnd := zB (rend_ok r u bs wr hRr);have HLr := zB hLr;clear hRr hLr
    go_wp2_with fail
    refine HEnd.out.mono ?_;rintro e w8 ⟨rfl, hB8⟩
    go_wp2_with fail
    refine (xZ w8).mono ?_;rintro e w9 ⟨⟨t, rfl⟩, rfl⟩
    go_wp2_with fail
    go_ret
    have hL := HLr.out.below hB8;rw [List.take_of_length_le (by rw [HNN.out]; exact Nat.le_refl _)] at hL;exact ⟨_, rfl, hL.batch _ λ j hj => hj, hBr.trans (hB8.mono hBr.size)⟩
def fX (w : World) (t : Nat) : Prop := w.heap[t]? = some (.cells #[.pointer none, .pointer none, .int .i64 0, .map none, .slice none 0 0, .int .i64 0, .int .i64 0, .int .i64 0] 75 (0, 0))
theorem fX.cs {w : World} {t : Nat} (h : fX w t) : w.cell? ⟨t, 1, none⟩ = some (.pointer none) /\ w.cell? ⟨t, 2, none⟩ = some (.int .i64 0) /\ w.cell? ⟨t, 3, none⟩ = some (.map none) /\ w.cell? ⟨t, 4, none⟩ = some (.slice none 0 0) /\ w.cell? ⟨t, 5, none⟩ = some (.int .i64 0) /\ w.cell? ⟨t, 6, none⟩ = some (.int .i64 0) :=
 ⟨yV h 1 _ rfl, yV h 2 _ rfl, yV h 3 _ rfl, yV h 4 _ rfl, yV h 5 _ rfl, yV h 6 _ rfl⟩
theorem fX.below {w w' : World} {t : Nat} (h : fX w t) (hb : Below w.heap.size w w') : fX w' t := zK hb h
theorem commit_nil (v : Value) (w : World) : Calls Tryz.prog 23 #[.pointer none, v] w λ e w' => e = .returned (.int .i64 1) /\ w = w' := by
 go_enter Tryz.func23, Tryz.ntmps23
 go_wp2_with fail
 go_ret
 exact ⟨rfl, rfl⟩
theorem commit_plain (t : Nat) (v : Value) (w : World) (h : fX w t) : Calls Tryz.prog 23 #[.pointer (some ⟨t, 0, none⟩), v] w λ e w' => e = .returned (.int .i64 1) /\ w = w' := by
 obtain ⟨c1, -⟩ := h.cs;clear h;go_enter Tryz.func23, Tryz.ntmps23
 go_wp2_with fail
 go_ret
 exact ⟨rfl, rfl⟩
theorem flush_nil (w : World) : Calls Tryz.prog 30 #[.pointer none] w λ e w' => e = .returned (.int .i64 1) /\ w = w' := by
 go_enter Tryz.func30, Tryz.ntmps30
 go_wp2_with fail
 go_ret
 exact ⟨rfl, rfl⟩
theorem flush_plain (t : Nat) (w : World) (h : fX w t) : Calls Tryz.prog 30 #[.pointer (some ⟨t, 0, none⟩)] w λ e w' => e = .returned (.int .i64 1) /\ w = w' := by
 obtain ⟨c1, -⟩ := h.cs;clear h;go_enter Tryz.func30, Tryz.ntmps30
 go_wp2_with fail
 go_ret
 exact ⟨rfl, rfl⟩
theorem get_nil (v : Value) (w : World) : Calls Tryz.prog 31 #[.pointer none, v] w λ e w' => e = .returned (.tuple #[.slice none 0 0, .bool false]) /\ w = w' := by
 go_enter Tryz.func31, Tryz.ntmps31
 go_wp2_with fail
 go_ret2
 exact ⟨rfl, rfl⟩
theorem get_plain (t : Nat) (v : Value) (key : List Int) (w : World) (h : fX w t) (hv : Src w v (u8s key)) (hl : key.length <= 549755813888) : Calls Tryz.prog 31 #[.pointer (some ⟨t, 0, none⟩), v] w λ e w' => e = .returned (.tuple #[.slice none 0 0, .bool false]) /\ Below w.heap.size w w' := by
 obtain ⟨-, -, c3, -⟩ := h.cs;obtain ⟨a, c, rfl, hc⟩ := hv.shape;rw [zH] at hv hc ⊢;have HV := zB hv;clear h hv;go_enter Tryz.func31, Tryz.ntmps31
 go_wp2_with fail
 refine zY (λ _ => none) fol (by kernel_rfl) (λ W hW hh => ?_);clear hh;have r3 := zV hW c3;have hcv : ∀ w2, Below W.heap.size W w2 -> Sem.run Tryz.prog (convert 52 9 (.slice a key.length c)) w2 = .ok (.string (strOfNums key)) w2 := λ w2 h2 => sQ ((HV.out.below hW).below h2);have hlk : ∀ w2, Below W.heap.size W w2 -> Sem.run Tryz.prog (Instr.lookup 72 (.map none) (.string (strOfNums key)) true) w2 = .ok (.tuple #[.slice none 0 0, .bool false]) w2 := λ w2 h2 => by
  have := Maps.look_nil (P := Tryz.prog) (w := w2) true (Maps.string_keyed vZ) iF (eA w2) (rS key hl);simpa using this
 repeat ((first | refine lxM ?_ | refine lxF ?_ | refine zM rfl ?_); simp only [zD])
 refine zZ ?_;clear r3 hcv hlk
 go_wp2_with fail
 go_ret2
 exact ⟨rfl, hW⟩
theorem fV (w : World) : Calls Tryz.prog 33 #[.pointer none] w (λ e w' => e = .returned (.int .i64 0) /\ w = w') /\ Calls Tryz.prog 26 #[.pointer none] w (λ e w' => e = .returned (.int .i64 0) /\ w = w') /\ Calls Tryz.prog 17 #[.pointer none] w (λ e w' => e = .returned (.int .i64 0) /\ w = w') /\
 Calls Tryz.prog 34 #[.pointer none] w (λ e w' => e = .returned (.int .i64 0) /\ w = w') /\ Calls Tryz.prog 35 #[.pointer none] w (λ e w' => e = .returned (.int .u64 0) /\ w = w') := by
 refine ⟨?_, ?_, ?_, ?_, ?_⟩
 . go_enter Tryz.func33, Tryz.ntmps33
   go_wp2_with fail
   go_ret
   exact ⟨rfl, rfl⟩
 . go_enter Tryz.func26, Tryz.ntmps26
   go_wp2_with fail
   go_ret
   exact ⟨rfl, rfl⟩
 . go_enter Tryz.func17, Tryz.ntmps17
   go_wp2_with fail
   go_ret
   exact ⟨rfl, rfl⟩
 . go_enter Tryz.func34, Tryz.ntmps34
   go_wp2_with fail
   go_ret
   exact ⟨rfl, rfl⟩
 . go_enter Tryz.func35, Tryz.ntmps35
   go_wp2_with fail
   go_ret
   exact ⟨rfl, rfl⟩
theorem lepoch_nil (w : World) : Calls Tryz.prog 71 #[.pointer none] w (λ e w' => e = .returned (.int .u64 0) /\ w = w') := by
 go_enter Tryz.func71, Tryz.ntmps71
 go_wp2_with fail
 go_ret
 exact ⟨rfl, rfl⟩
theorem tells_plain (t : Nat) (w : World) (h : fX w t) : Calls Tryz.prog 33 #[.pointer (some ⟨t, 0, none⟩)] w (λ e w' => e = .returned (.int .i64 0) /\ w = w') /\ Calls Tryz.prog 26 #[.pointer (some ⟨t, 0, none⟩)] w (λ e w' => e = .returned (.int .i64 0) /\ w = w') /\
 Calls Tryz.prog 34 #[.pointer (some ⟨t, 0, none⟩)] w (λ e w' => e = .returned (.int .i64 0) /\ w = w') /\ Calls Tryz.prog 35 #[.pointer (some ⟨t, 0, none⟩)] w (λ e w' => e = .returned (.int .u64 0) /\ w = w') := by
 obtain ⟨c1, c2, c3, c4, c5, c6⟩ := h.cs;clear h;have HE := zB (lepoch_nil w);refine ⟨?_, ?_, ?_, ?_⟩
 . go_enter Tryz.func33, Tryz.ntmps33
   go_wp2_with fail
   go_ret
   exact ⟨rfl, rfl⟩
 . go_enter Tryz.func26, Tryz.ntmps26
   go_wp2_with fail
   go_ret
   exact ⟨rfl, rfl⟩
 . go_enter Tryz.func34, Tryz.ntmps34
   go_wp2_with fail
   go_ret
   exact ⟨rfl, rfl⟩
 . go_enter Tryz.func35, Tryz.ntmps35
   go_wp2_with fail
   refine HE.out.mono ?_;rintro e w' ⟨rfl, rfl⟩
   go_wp2_with fail
   go_ret
   exact ⟨rfl, rfl⟩
theorem room_plain (t : Nat) (w : World) (h : fX w t) : Calls Tryz.prog 17 #[.pointer (some ⟨t, 0, none⟩)] w (λ e w' => e = .returned (.int .i64 0) /\ Below w.heap.size w w') := by
 obtain ⟨-, c2, -, -, c5, -⟩ := h.cs;clear h;go_enter Tryz.func17, Tryz.ntmps17
 go_wp2_with fail
 refine zY (λ _ => none) fol (by kernel_rfl) (λ W hW hh => ?_);clear hh;have r2 := zV hW c2;have r5 := zV hW c5
 repeat ((first | refine lxM ?_ | refine lxF ?_ | refine zM rfl ?_); simp only [zD])
 refine zZ ?_;clear r2 r5
 go_wp2_with fail
 go_ret
 exact ⟨rfl, hW⟩
def nH (w : World) (F : Nat -> Prop) (v : Value) (recs : List (List Int)) : Prop := ∃ a cap, v = .slice a recs.length cap /\ ∀ i rec, recs[i]? = some rec ->
 ∃ g o u, a = some ⟨g, o, none⟩ /\ w.cell? ⟨g, o + i, none⟩ = some u /\ Src w u (u8s rec) /\ ¬ F g /\ ∀ j, u.ownBlock = some j -> j < w.heap.size /\ ¬ F j
theorem nH.ext {w w' : World} {F S : Nat -> Prop} {v : Value} {recs : List (List Int)} (h : nH w F v recs) (hX : Ext S w w') (hS : ∀ j, S j -> F j) : nH w' F v recs := by
 obtain ⟨a, cap, rfl, h⟩ := h;refine ⟨a, cap, rfl, λ i rec hr => ?_⟩;obtain ⟨g, o, u, rfl, h1, h2, h3, h4⟩ := h i rec hr;exact ⟨g, o, u, rfl, hX.cell_some h1 λ e => h3 (hS _ e), xG h2 hX λ j hj e => (h4 j hj).2 (hS _ e), h3, λ j hj => ⟨Nat.lt_of_lt_of_le (h4 j hj).1 hX.size, (h4 j hj).2⟩⟩
theorem nH.below {w w' : World} {F : Nat -> Prop} {v : Value} {recs : List (List Int)} (h : nH w F v recs) (hb : Below w.heap.size w w') : nH w' F v recs :=
 h.ext (S := λ _ => False) (Ext.of_below hb) λ _ e => e.elim
theorem nH.shape {w : World} {F : Nat -> Prop} {v : Value} {recs : List (List Int)} (h : nH w F v recs) : ∃ a cap, v = .slice a recs.length cap := by
 obtain ⟨a, cap, rfl, -⟩ := h;exact ⟨a, cap, rfl⟩
def qI (bs : List Int) (i : Nat) : List Int := (bs.drop (i * 8112)).take 8112
theorem mQ (bs : List Int) (i : Nat) : yO bs i = vQ i (yF bs.length) ++ qI bs i := rfl
theorem oA (bs : List Int) (i : Nat) : bs.take (i * 8112) ++ qI bs i = bs.take ((i + 1) * 8112) := by
 unfold qI;rw [show (i + 1) * 8112 = i * 8112 + 8112 by omega, List.take_add]
theorem take_all (bs : List Int) : bs.take (yF bs.length * 8112) = bs := by
 apply List.take_of_length_le;unfold yF;omega
def pG (bs : List Int) : List (List Int) := (List.range (yF bs.length)).map (yO bs)
theorem wP (bs : List Int) : (pG bs).length = yF bs.length := by simp [pG]
theorem ckRecs_get {bs : List Int} {i : Nat} (h : i < yF bs.length) : (pG bs)[i]? = some (yO bs i) := by simp [pG, h]
theorem jC (n : Nat) : 1 <= yF n := by unfold yF; omega
theorem textB_drop {ps : List Pr} {j : Nat} {p : Pr} (h : ps[j]? = some p) : (wI ps).drop (wI (ps.take j)).length = oD p ++ wI (ps.drop (j + 1)) := by
 obtain ⟨hj, hp⟩ := List.getElem?_eq_some_iff.1 h;have e : wI ps = wI (ps.take j) ++ (oD p ++ wI (ps.drop (j + 1))) := by
  conv => lhs; rw [<- List.take_append_drop j ps, List.drop_eq_getElem_cons hj, hp, jL]
  rfl
 conv => lhs; rw [e]
 rw [List.drop_left]
theorem put_last {ps : List Pr} {p : Pr} (hr : yQ (zS (ps ++ [p]))) : putP ps p.1 p.2 = ps ++ [p] := by
 have hall : ∀ k ∈ zS ps, klt k p.1 = true := by
  have : zS (ps ++ [p]) = zS ps ++ [p.1] := by simp [zS]
  rw [this] at hr;intro k hk;exact (List.pairwise_append.1 hr).2.2 k hk p.1 (List.mem_singleton.2 rfl)
 have hno : p.1 ∉ zS ps := λ h => by
  have := hall _ h;rw [uA] at this
  cases this
 have hpos : posK (zS ps) p.1 = (zS ps).length := rR (Nat.le_refl _) (λ q n hq hn => hall n (List.mem_of_getElem? hn)) (λ q n hq hn => by rw [List.getElem?_eq_none hq] at hn; cases hn);unfold putP;rw [if_neg hno, hpos, xM, List.take_length, List.drop_length]
end Go.Proofs.YtbjofbhhnmehgaaGreatDoor.TT
