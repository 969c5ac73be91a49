
/-
 seglog: the texts of a head and of a piece.
-/
import Derived.Test.YtbjofbhhnmehgaaGreatDoorCNIz1
import Derived.Laws.MakeOwn
import Derived.Lib.BufferWrite
import Derived.Laws.BytesArg
import Derived.Test.YtbjofbhhnmehgaaGreatDoorCNIz0
set_option linter.unusedSimpArgs false
set_option linter.unusedVariables false
set_option maxHeartbeats 1000000
set_option maxRecDepth 100000
open Go.IntWalk (toNatUp iteOmega)
namespace Go.Proofs.YtbjofbhhnmehgaaGreatDoor.TT
open Go.RowKit Go.RG Go.Hp Go.Proofs.YtbjofbhhnmehgaaGreatDoor
def tX (w : World) (g at' n : Nat) : Prop := w.cell? ⟨g, 0, none⟩ = some (.int .i64 at') /\ w.cell? ⟨g, 1, none⟩ = some (.int .i64 n)
theorem tX.below {w w' : World} {g a n : Nat} (h : tX w g a n) (hb : Below w.heap.size w w') : tX w' g a n := ⟨zG hb h.1, zG hb h.2⟩
structure Pkg (w : World) : Prop where
 tab : Tab w
 number : tX w 0 4 6
 pieceEpoch : tX w 1 10 6
 bytes : tX w 2 16 2
 index : tX w 3 18 2
 size : tX w 4 28 4
 generation : tX w 5 4 6
 headEpoch : tX w 6 10 6
 first : tX w 7 16 6
 least : tX w 8 22 6
theorem Pkg.below {w w' : World} (h : Pkg w) (hb : Below w.heap.size w w') : Pkg w' :=
 ⟨h.tab.below hb, h.number.below hb, h.pieceEpoch.below hb, h.bytes.below hb, h.index.below hb, h.size.below hb, h.generation.below hb, h.headEpoch.below hb, h.first.below hb, h.least.below hb⟩
def layB (bs : List Int) (at' : Nat) (D : List Int) : List Int := bs.take at' ++ D ++ bs.drop (at' + D.length)
theorem layB_u8s (bs : List Int) (at' : Nat) (D : List Int) : u8s (layB bs at' D) = layF (u8s bs) at' D := by
 unfold layB layF;rw [xI, xI, qF, tL]
theorem mV {bs : List Int} {at' : Nat} {D : List Int} (h : at' + D.length <= bs.length) : (layB bs at' D).length = bs.length := by
 unfold layB;simp;omega
theorem yK (v : Int) (n : Nat) : zO (zT v n) := by induction n with
 | zero => intro b hb; cases hb
 | succ n ih =>
  refine ih.append λ b hb => ?_;rw [List.mem_singleton] at hb;subst hb;exact ⟨Int.emod_nonneg _ (by decide), Int.emod_lt_of_pos _ (by decide)⟩
theorem zO.lay {bs D : List Int} {at' : Nat} (h : zO bs) (k : zO D) : zO (layB bs at' D) := ((h.take _).append k).append (h.drop _)
theorem put_b (g at' n : Nat) (v : Int) (hv0 : 0 <= v) (hv : v < 18446744073709551616) (bs : List Int) (m c : Nat) (hm : bs.length = m) (hl : at' + n <= m) (hL : m <= 1024) (hn : n <= 8) (hc : m <= c) (w : World) (h : Row w g 5 (u8s bs)) :
 Calls Tryz.prog 117 #[.agg #[.int .i64 at', .int .i64 n], .slice (some ⟨g, 0, none⟩) m c, .int .u64 v] w λ e w' => (∃ t, e = .returned t) /\ Row w' g 5 (u8s (layB bs at' (zT v n))) /\ Ext (· = g) w w' := by
 have hlen : (u8s bs).length = m := by rw [zH, hm]
 have := put_any g c at' n v hv0 hv (u8s bs) (by omega) (by omega) hn (by omega) w h;rw [hlen] at this;refine this.mono ?_;rintro e w' ⟨h1, h2, h3⟩;exact ⟨h1, by rw [layB_u8s]; exact h2, h3⟩
def yN (n : Nat) : List Int := List.replicate n 0
theorem wF (n : Nat) : (yN n).length = n := List.length_replicate
theorem uL (n : Nat) : zO (yN n) := λ b hb => by rw [List.eq_of_mem_replicate hb]; exact ⟨Int.le_refl _, by decide⟩
theorem make_bytes (n : Nat) (hn : n <= 65536) (w : World) : Sem.run Tryz.prog (Instr.makeSlice 52 (.int .i64 n) (.int .i64 n)) w = .ok (.slice (some ⟨w.heap.size, 0, none⟩) n n) (w.alloc (.cells (u8s (yN n)).toArray 5)) := by
 obtain ⟨i0, hi, hz0, hz1, hz2⟩ := info_parts tR;have := run_make (P := Tryz.prog) w 52 5 i0 (.int .u8 0) xW hi hz0 .i64 .i64 (n : Int) (n : Int) (by omega) (by omega) (by rw [hz2]; omega) (by omega);rw [this, hz1];simp only [Int.toNat_natCast, Nat.mul_one]
 congr 3
 apply Array.ext';have h2 := toList_madeCells_one (.int .u8 0) n;simpa [u8s, yN, Value.cells] using h2
theorem make_text (w : World) : Sem.run Tryz.prog (Instr.makeSlice 52 (.int .i64 124) (.int .i64 124)) w = .ok (.slice (some ⟨w.heap.size, 0, none⟩) 124 124) (w.alloc (.cells (u8s (yN 124)).toArray 5)) := make_bytes 124 (by decide) w
def yX : List Int := [104, 108, 121, 72]
def yP : List Int := [104, 108, 121, 80]
theorem copy_mark (w : World) (g : Nat) (s : ByteArray) (M : List Int) (hs : s.size = 4) (hM : Lib.byteCells s.data.toList = u8s M) (h : Row w g 5 (u8s (yN 124))) :
 Sem.run Tryz.prog (Builtin.copy_ #[52, 9] 3 #[.slice (some ⟨g, 0, none⟩) 124 124, .string s]) w = .ok (.int .i64 4) (w.setRow g (u8s (M ++ yN 120)).toArray) := by
 obtain ⟨i0, hi, hz0, hz1, hz2⟩ := info_parts tR;have h1 := Lib.run_copy_row_string (P := Tryz.prog) w 52 9 3 5 g 0 124 124 s (u8s (yN 124)).toArray 5 xW (by rw [hi, Option.map_some, hz1]) h (by omega) (by rw [hs]; simp [zH, wF]);rw [h1, hs, hM]
 congr 3
 simp only [List.take_zero, List.nil_append, Nat.zero_add, xI]
 congr 1
structure jZ (w0 w : World) (box : Obj) (bs : List Int) : Prop where
 row : Row w (w0.heap.size + 1) 5 (u8s bs)
 len : bs.length = 124
 bytes : zO bs
 below : Below w0.heap.size w0 w
 box : w.heap[w0.heap.size]? = some box
theorem jZ.put {w0 w w' : World} {box : Obj} {bs : List Int} (h : jZ w0 w box bs) (at' : Nat) (D : List Int) (hD : zO D) (hl : at' + D.length <= 124) (hr : Row w' (w0.heap.size + 1) 5 (u8s (layB bs at' D))) (hX : Ext (· = w0.heap.size + 1) w w') : jZ w0 w' box (layB bs at' D) where
 row := hr
 len := by rw [mV (by rw [h.len]; exact hl), h.len]
 bytes := h.bytes.lay hD
 below := h.below.trans (hX.to_belowAt h.below.size λ k hk => by omega)
 box := hX.heap h.box (by omega)
theorem making_new (w : World) (box : Obj) (M : List Int) (hM : M.length = 4) (hb : zO M) : jZ w (((w.alloc box).alloc (.cells (u8s (yN 124)).toArray 5)).setRow (w.heap.size + 1) (u8s (M ++ yN 120)).toArray) box (M ++ yN 120) := by
 obtain ⟨h1, h2, h3⟩ := qV w box (.cells (u8s (yN 124)).toArray 5);have hX := sF ((w.alloc box).alloc (.cells (u8s (yN 124)).toArray 5)) (w.heap.size + 1) (u8s (M ++ yN 120)).toArray;exact ⟨pV h3 _, by simp [hM, wF], hb.append (uL _), h1.trans (hX.to_belowAt h1.size λ k hk => by omega), hX.heap h2 (by omega)⟩
structure Head where
 gen : Nat
 epoch : Nat
 first : Nat
 least : Nat
def uU (h : Head) : Value := .agg #[.int .u64 h.gen, .int .u64 h.epoch, .int .u64 h.first, .int .u64 h.least]
def rU (h : Head) (size : Nat) : List Int := layB (layB (layB (layB (layB (yX ++ yN 120) 4 (zT h.gen 6)) 10 (zT h.epoch 6)) 16 (zT h.first 6)) 22 (zT h.least 6)) 28 (zT size 4)
def tM (bs : List Int) : List Int := bs ++ tN bs
theorem uN : zO yX /\ zO yP := by
 constructor <;> (intro b hb; simp [yX, yP] at hb; omega)
theorem box4 {w : World} {g : Nat} {a b c d : Value} {t : TypeId} (h : w.heap[g]? = some (.cells #[a, b, c, d] t (0, 0))) : w.cell? ⟨g, 0, none⟩ = some a /\ w.cell? ⟨g, 1, none⟩ = some b /\ w.cell? ⟨g, 2, none⟩ = some c /\ w.cell? ⟨g, 3, none⟩ = some d := by
 simp [World.cell?, h]
theorem jZ.src {w0 w : World} {box : Obj} {bs : List Int} (h : jZ w0 w box bs) : Src w (.slice (some ⟨w0.heap.size + 1, 0, none⟩) 124 124) (u8s bs) := by
 have := qH (c := 124) h.row (by rw [zH, h.len]; exact Nat.le_refl _)
 rwa [zH, h.len] at this
theorem htext_any (h : Head) (size : Nat) (hs : size <= 65536) (h1 : h.gen < 18446744073709551616) (h2 : h.epoch < 18446744073709551616) (h3 : h.first < 18446744073709551616) (h4 : h.least < 18446744073709551616) (w : World) (hP : Pkg w) :
 Calls Tryz.prog 115 #[uU h, .int .i64 size] w λ e w' => ∃ u, e = .returned u /\ w'.ownsRow w.heap.size 5 1 u 128 (u8s (tM (rU h size))) /\ Below w.heap.size w w' := by
 have hmk := make_text;obtain ⟨-, -, g2⟩ := qV w (.cells #[.int .u64 h.gen, .int .u64 h.epoch, .int .u64 h.first, .int .u64 h.least] 128) (.cells (u8s (yN 124)).toArray 5);have hcp := copy_mark _ _ ⟨#[104, 108, 121, 72]⟩ yX rfl rfl g2;have hM := making_new w (.cells #[.int .u64 h.gen, .int .u64 h.epoch, .int .u64 h.first, .int .u64 h.least] 128) yX rfl uN.1;clear g2;generalize World.setRow _ (w.heap.size + 1) (u8s (yX ++ yN 120)).toArray = W at hcp hM;unfold uU;have HP := zB hP; clear hP;obtain ⟨hg, he, hf, hl⟩ := h;simp only at h1 h2 h3 h4 hcp hM ⊢;go_enter Tryz.func115, Tryz.ntmps115;have hfld := HP.out.generation.below hM.below;have hF1 := hfld.1;have hF2 := hfld.2;obtain ⟨b0, b1, b2, b3⟩ := box4 hM.box;have HM := zB hM;clear hM hfld
 go_wp2_with fail
 refine (put_b (w.heap.size + 1) 4 6 (hg : Int) (by omega) (by omega) _ 124 124 HM.out.len (by decide) (by decide) (by decide) (by decide) _ HM.out.row).mono ?_;clear hF1 hF2 b0 b1 b2 b3;rintro e W ⟨⟨t, rfl⟩, hr, hX⟩;have hM := HM.out.put 4 (zT (hg : Int) 6) (yK _ _) (by rw [yI]; decide) hr hX;clear hr hX HM;have hfld := HP.out.headEpoch.below hM.below;have hF1 := hfld.1;have hF2 := hfld.2;obtain ⟨b0, b1, b2, b3⟩ := box4 hM.box;have HM := zB hM;clear hM hfld
 go_wp2_with fail
 refine (put_b (w.heap.size + 1) 10 6 (he : Int) (by omega) (by omega) _ 124 124 HM.out.len (by decide) (by decide) (by decide) (by decide) _ HM.out.row).mono ?_;clear hF1 hF2 b0 b1 b2 b3;rintro e W ⟨⟨t, rfl⟩, hr, hX⟩;have hM := HM.out.put 10 (zT (he : Int) 6) (yK _ _) (by rw [yI]; decide) hr hX;clear hr hX HM;have hfld := HP.out.first.below hM.below;have hF1 := hfld.1;have hF2 := hfld.2;obtain ⟨b0, b1, b2, b3⟩ := box4 hM.box;have HM := zB hM;clear hM hfld
 go_wp2_with fail
 refine (put_b (w.heap.size + 1) 16 6 (hf : Int) (by omega) (by omega) _ 124 124 HM.out.len (by decide) (by decide) (by decide) (by decide) _ HM.out.row).mono ?_;clear hF1 hF2 b0 b1 b2 b3;rintro e W ⟨⟨t, rfl⟩, hr, hX⟩;have hM := HM.out.put 16 (zT (hf : Int) 6) (yK _ _) (by rw [yI]; decide) hr hX;clear hr hX HM;have hfld := HP.out.least.below hM.below;have hF1 := hfld.1;have hF2 := hfld.2;obtain ⟨b0, b1, b2, b3⟩ := box4 hM.box;have HM := zB hM;clear hM hfld
 go_wp2_with fail
 refine (put_b (w.heap.size + 1) 22 6 (hl : Int) (by omega) (by omega) _ 124 124 HM.out.len (by decide) (by decide) (by decide) (by decide) _ HM.out.row).mono ?_;clear hF1 hF2 b0 b1 b2 b3;rintro e W ⟨⟨t, rfl⟩, hr, hX⟩;have hM := HM.out.put 22 (zT (hl : Int) 6) (yK _ _) (by rw [yI]; decide) hr hX;clear hr hX HM;have hfld := HP.out.size.below hM.below;have hF1 := hfld.1;have hF2 := hfld.2;obtain ⟨b0, b1, b2, b3⟩ := box4 hM.box;have HM := zB hM;clear hM hfld
 go_wp2_with fail
 refine (put_b (w.heap.size + 1) 28 4 (size : Int) (by omega) (by omega) _ 124 124 HM.out.len (by decide) (by decide) (by decide) (by decide) _ HM.out.row).mono ?_;clear hF1 hF2 b0 b1 b2 b3;rintro e W ⟨⟨t, rfl⟩, hr, hX⟩;have hM := HM.out.put 28 (zT (size : Int) 4) (yK _ _) (by rw [yI]; decide) hr hX;clear hr hX HM;have HM := zB hM;clear hM
 go_wp2_with fail
 refine (seal_any _ _ _ HM.out.src (HP.out.tab.below HM.out.below) (by rw [HM.out.len]; decide) HM.out.bytes).mono ?_;rintro e W' ⟨u, rfl, hown, hB⟩;rw [HM.out.len] at hown;have Hown := zB hown; clear hown
 go_wp2_with fail
 go_ret
 exact ⟨_, rfl, yC Hown.out (λ k hk => Nat.le_trans HM.out.below.size (Hown.out.lt k hk).1), HM.out.below.trans (hB.mono HM.out.below.size)⟩
structure qC where
 num : Nat
 epoch : Nat
 bytes : Nat
 index : Nat
 data : List Int
def wN (p : qC) : List Int := layB (layB (layB (layB (layB (yP ++ yN 120) 4 (zT p.num 6)) 10 (zT p.epoch 6)) 16 (zT p.bytes 2)) 18 (zT p.index 2)) 20 p.data
theorem box5 {w : World} {g : Nat} {a b c d e : Value} {t : TypeId} (h : w.heap[g]? = some (.cells #[a, b, c, d, e] t (0, 0))) : w.cell? ⟨g, 0, none⟩ = some a /\ w.cell? ⟨g, 1, none⟩ = some b /\ w.cell? ⟨g, 2, none⟩ = some c /\ w.cell? ⟨g, 3, none⟩ = some d /\ w.cell? ⟨g, 4, none⟩ = some e := by
 simp [World.cell?, h]
theorem ptext_any (p : qC) (v : Value) (h1 : p.num < 18446744073709551616) (h2 : p.epoch < 18446744073709551616) (h3 : p.bytes <= 65535) (h4 : p.index <= 65535) (hb : zO p.data) (hl : p.data.length <= 104) (w : World) (hP : Pkg w) (hv : Src w v (u8s p.data)) :
 Calls Tryz.prog 86 #[.agg #[.int .u64 p.num, .int .u64 p.epoch, .int .i64 p.bytes, .int .i64 p.index, v]] w λ e w' => ∃ u, e = .returned u /\ w'.ownsRow w.heap.size 5 1 u 128 (u8s (tM (wN p))) /\ Below w.heap.size w w' := by
 obtain ⟨pn, pe, pb, pi, pd⟩ := p;simp only at h1 h2 h3 h4 hb hl hv ⊢;have hmk := make_text;obtain ⟨ax, cx, rfl, -⟩ := hv.shape;obtain ⟨m, hm⟩ : ∃ m, (u8s pd).length = m := ⟨_, rfl⟩;rw [hm] at hv ⊢;have Hv := zB hv; clear hv;have Hm := zB hm; clear hm;have Hb := zB hb; clear hb;obtain ⟨-, -, g2⟩ := qV w (.cells #[.int .u64 pn, .int .u64 pe, .int .i64 pb, .int .i64 pi, .slice ax m cx] 138) (.cells (u8s (yN 124)).toArray 5);have hcp := copy_mark _ _ ⟨#[104, 108, 121, 80]⟩ yP rfl rfl g2;have hM := making_new w (.cells #[.int .u64 pn, .int .u64 pe, .int .i64 pb, .int .i64 pi, .slice ax m cx] 138) yP rfl uN.2;clear g2;generalize World.setRow _ (w.heap.size + 1) (u8s (yP ++ yN 120)).toArray = W at hcp hM;have HP := zB hP; clear hP;go_enter Tryz.func86, Tryz.ntmps86;have hfld := HP.out.number.below hM.below;have hF1 := hfld.1;have hF2 := hfld.2;obtain ⟨b0, b1, b2, b3, b4⟩ := box5 hM.box;have HM := zB hM;clear hM hfld
 go_wp2_with fail
 refine (put_b (w.heap.size + 1) 4 6 (pn : Int) (by omega) (by omega) _ 124 124 HM.out.len (by decide) (by decide) (by decide) (by decide) _ HM.out.row).mono ?_;clear hF1 hF2 b0 b1 b2 b3 b4;rintro e W ⟨⟨t, rfl⟩, hr, hX⟩;have hM := HM.out.put 4 (zT (pn : Int) 6) (yK _ _) (by rw [yI]; decide) hr hX;clear hr hX HM;have hfld := HP.out.pieceEpoch.below hM.below;have hF1 := hfld.1;have hF2 := hfld.2;obtain ⟨b0, b1, b2, b3, b4⟩ := box5 hM.box;have HM := zB hM;clear hM hfld
 go_wp2_with fail
 refine (put_b (w.heap.size + 1) 10 6 (pe : Int) (by omega) (by omega) _ 124 124 HM.out.len (by decide) (by decide) (by decide) (by decide) _ HM.out.row).mono ?_;clear hF1 hF2 b0 b1 b2 b3 b4;rintro e W ⟨⟨t, rfl⟩, hr, hX⟩;have hM := HM.out.put 10 (zT (pe : Int) 6) (yK _ _) (by rw [yI]; decide) hr hX;clear hr hX HM;have hfld := HP.out.bytes.below hM.below;have hF1 := hfld.1;have hF2 := hfld.2;obtain ⟨b0, b1, b2, b3, b4⟩ := box5 hM.box;have HM := zB hM;clear hM hfld
 go_wp2_with fail
 refine (put_b (w.heap.size + 1) 16 2 (pb : Int) (by omega) (by omega) _ 124 124 HM.out.len (by decide) (by decide) (by decide) (by decide) _ HM.out.row).mono ?_;clear hF1 hF2 b0 b1 b2 b3 b4;rintro e W ⟨⟨t, rfl⟩, hr, hX⟩;have hM := HM.out.put 16 (zT (pb : Int) 2) (yK _ _) (by rw [yI]; decide) hr hX;clear hr hX HM;have hfld := HP.out.index.below hM.below;have hF1 := hfld.1;have hF2 := hfld.2;obtain ⟨b0, b1, b2, b3, b4⟩ := box5 hM.box;have HM := zB hM;clear hM hfld
 go_wp2_with fail
 refine (put_b (w.heap.size + 1) 18 2 (pi : Int) (by omega) (by omega) _ 124 124 HM.out.len (by decide) (by decide) (by decide) (by decide) _ HM.out.row).mono ?_;clear hF1 hF2 b0 b1 b2 b3 b4;rintro e W ⟨⟨t, rfl⟩, hr, hX⟩;have hM := HM.out.put 18 (zT (pi : Int) 2) (yK _ _) (by rw [yI]; decide) hr hX;clear hr hX HM;obtain ⟨b0, b1, b2, b3, b4⟩ := box5 hM.box;have HM := zB hM;clear hM b0 b1 b2 b3
 go_wp2_with fail
 refine zR 4 (λ _ => none) fol (by kernel_rfl) (λ W7 hW7 hh => ?_);clear hh;have r1 : ∀ w2, Below W7.heap.size W7 w2 -> w2.cell? ⟨w.heap.size, 4, none⟩ = some (.slice ax m cx) := λ w2 h => zG (zF hW7 h) b4;simp only [fT]
 repeat ((first | refine lxM ?_ | refine lxF ?_ | refine zM rfl ?_); simp only [zD])
 refine zZ ?_;clear r1 b4;have hm : m <= 104 := by rw [<- Hm.out, zH]; exact hl
 have hr7 := HM.out.row.below hW7;have hB7 := HM.out.below.trans (hW7.mono HM.out.below.size);have hx7 := Hv.out.below hB7;obtain ⟨i0, hi, hz0, hz1, hz2⟩ := info_parts tR;refine tI rfl _ _ 52 52 rfl 5 i0 1 xW hi hz1 (some ⟨w.heap.size + 1, 20, none⟩) ax 104 104 m cx rfl rfl (w.heap.size + 1) 20 5 _ (u8s pd) hr7 ?_ ?_ ?_ (yU _) ?_
 . rw [Hm.out, Nat.mul_one]; exact (Nat.min_eq_left hm).symm
 . intro h0;refine ⟨rfl, ?_⟩;rcases hx7 with ⟨g, o, c, e1, -, hr⟩ | ⟨e1, e2⟩
   . injection e1 with e1 _ e3;exact ⟨_, e1, λ j u hu => by rw [Addr.add_lit]; exact hr j u hu⟩
   . injection e1 with e1 e2 e3;subst e2;exact absurd h0 (by decide)
 . rw [Hm.out, zH, HM.out.len]; omega
 intro W8 hr8 hX8;have hM : jZ w W8 (.cells #[.int .u64 pn, .int .u64 pe, .int .i64 pb, .int .i64 pi, .slice ax m cx] 138) (wN ⟨pn, pe, pb, pi, pd⟩) := by
  have hM7 : jZ w W7 (.cells #[.int .u64 pn, .int .u64 pe, .int .i64 pb, .int .i64 pi, .slice ax m cx] 138) _ := ⟨hr7, HM.out.len, HM.out.bytes, hB7, zK hW7 HM.out.box⟩;refine hM7.put 20 pd Hb.out (by rw [<- zH, Hm.out]; omega) ?_ hX8;rw [layB_u8s];unfold splice at hr8;unfold layF;rw [zH, <- List.append_assoc] at hr8;exact hr8
 clear hr8 hX8 hr7 hx7 hz0 hz1 hz2 hi HM;simp only [zD];have HM := zB hM;clear hM
 go_wp2_with fail
 refine (seal_any _ _ _ HM.out.src (HP.out.tab.below HM.out.below) (by rw [HM.out.len]; decide) HM.out.bytes).mono ?_;rintro e W' ⟨u, rfl, hown, hB⟩;rw [HM.out.len] at hown;have Hown := zB hown; clear hown
 go_wp2_with fail
 go_ret
 exact ⟨_, rfl, yC Hown.out (λ k hk => Nat.le_trans HM.out.below.size (Hown.out.lt k hk).1), HM.out.below.trans (hB.mono HM.out.below.size)⟩
theorem read_off (b : Bks) (x : Dsk) (i : Nat) (hi : i < x.dur.length) (w : World) (h : vK w b x) (ho : x.off = true) : Calls Tryz.prog 155 #[.pointer (some ⟨b.d, 0, none⟩), .int .i64 i] w λ e w' => e = .returned (.tuple #[.slice none 0 0, .int .i64 5]) /\ w = w' := by
 have c3 := h.cells.2.2.2.1;rw [ho] at c3;have hd : pA x (i : Int) = true := by simp [pA, hi]
 have H := zB h; clear h;go_enter Tryz.func155, Tryz.ntmps155
 go_wp2_with fail
 refine (has_any b x i w H.out).mono ?_;rintro e w' ⟨rfl, rfl⟩;rw [hd]
 go_wp2_with fail
 go_ret2
 exact ⟨rfl, rfl⟩
theorem sQ {w : World} {v : Value} {bs : List Int} (h : Src w v (u8s bs)) : Sem.run Tryz.prog (convert 52 9 v) w = .ok (.string (strOfNums bs)) w := by
 rcases h with ⟨g, o, c, rfl, -, hr⟩ | ⟨rfl, h0⟩
 . rw [zH];refine run_convert_bytes_arg w 52 5 xW (by kernel_rfl) g o bs.length c bs rfl (λ i hi => ?_) 9 (by kernel_rfl);have := hr i _ (pO (List.getElem?_eq_getElem hi));simpa [List.getD, List.getElem?_eq_getElem hi] using this
 . have : bs = [] := by simpa [u8s] using h0
   subst this;exact run_convert_bytes_nil w 52 5 xW (by kernel_rfl) 0 0 9 (by kernel_rfl)
theorem lJ {a b : List Int} (ha : zO a) (hb : zO b) (h : strOfNums a = strOfNums b) : a = b := by
 have h1 : a.map (λ n => UInt8.ofNat n.toNat) = b.map (λ n => UInt8.ofNat n.toNat) := by
  rw [<- strOfNums_data, <- strOfNums_data, h]
 have h2 := congrArg List.length h1;simp only [List.length_map] at h2;refine List.ext_getElem h2 λ i h3 h4 => ?_;have h5 : (a.map (λ n => UInt8.ofNat n.toNat))[i]'(by simpa using h3) = (b.map (λ n => UInt8.ofNat n.toNat))[i]'(by simpa using h4) := by simp only [h1]
 rw [List.getElem_map, List.getElem_map] at h5;have h6 := congrArg UInt8.toNat h5;have ba := ha _ (List.getElem_mem h3);have bb := hb _ (List.getElem_mem h4);simp only [UInt8.toNat_ofNat'] at h6;omega
theorem lK {a b : List Int} (ha : zO a) (hb : zO b) : ((strOfNums a).toList == (strOfNums b).toList) = decide (a = b) := by
 rw [ByteArray.toList_eq, ByteArray.toList_eq];by_cases h : a = b
 . subst h; simp
 . rw [decide_eq_false h, beq_eq_false_iff_ne];intro e;refine h (lJ ha hb ?_);exact ByteArray.ext (Array.toList_inj.1 e)
def Dsk.ok (x : Dsk) : Prop := (∀ s ∈ x.dur, zO s) /\ ∀ i, ∀ s ∈ x.cache i, zO s
theorem Dsk.ok.read {x : Dsk} (h : x.ok) {i : Nat} {s : List Int} (hr : xP x i = some s) : zO s := by
 unfold xP at hr
 cases hc : (x.cache i).getLast? with
 | some s' =>
  rw [hc] at hr;injection hr with hr;subst hr;exact h.2 i s' (List.mem_of_getLast? hc)
 | none =>
  rw [hc] at hr
  split at hr
  . rename_i heq; cases heq
  . split at hr
    . cases hr
    . exact h.1 s (List.mem_of_getElem? hr)
theorem wQ.read128 {w : World} {b : Bks} {x : Dsk} (h : wQ w b x) {i : Nat} {s : List Int} (hr : xP x i = some s) : s.length = 128 := by
 unfold xP at hr
 cases hc : (x.cache i).getLast? with
 | some s' =>
  rw [hc] at hr;injection hr with hr;subst hr;exact h.c128 i s' (List.mem_of_getLast? hc)
 | none =>
  rw [hc] at hr
  split at hr
  . rename_i heq; cases heq
  . split at hr
    . cases hr
    . exact h.s128 s (List.mem_of_getElem? hr)
def wZ (x : Dsk) (i : Nat) (M : List Int) : Except Int (List Int) :=
 if x.off then .error 5 else match xP x i with
 | none => .error 40
 | some s => match vM s with
  | none => .error 50
  | some t => if t.take 4 = M then .ok t else .error 50
def SealedPost (r : Except Int (List Int)) (B : Nat) (e : Ending) (w' : World) : Prop := match r with
 | .ok ts => ∃ u, e = .returned (.tuple #[u, .int .i64 0]) /\ w'.ownsRow B 5 1 u ts.length (u8s ts)
 | .error k => e = .returned (.tuple #[.slice none 0 0, .int .i64 k])
theorem sealed_any (b : Bks) (x : Dsk) (first size i : Nat) (hi : i < x.dur.length) (M : List Int) (s : ByteArray) (hs : s.size = 4) (hsM : s = strOfNums M) (hMb : zO M) (w : World) (h : wQ w b x) (hk : x.ok) (hP : Pkg w) :
 Calls Tryz.prog 135 #[vH b first size, .int .i64 i, .string s] w λ e w' => SealedPost (wZ x i M) w.heap.size e w' /\ Below w.heap.size w w' := by
 have hb := zQ w (.cells #[.pointer (some ⟨b.d, 0, none⟩), .int .i64 first, .int .i64 size] 126);have g0 := World.alloc_heap_new w (.cells #[.pointer (some ⟨b.d, 0, none⟩), .int .i64 first, .int .i64 size] 126);have H := zB h; clear h;have HP := zB hP; clear hP;have HsM := zB hsM; clear hsM;have hr : ∀ o, x.off = o -> wZ x i M = if o then .error 5 else match xP x i with
  | none => .error 40
  | some s => match vM s with
   | none => .error 50
   | some t => if t.take 4 = M then .ok t else .error 50 := λ o h => by unfold wZ; rw [h]
 have Hr := zB hr; clear hr;unfold vH;go_enter Tryz.func135, Tryz.ntmps135
 go_wp2_with fail
 generalize w.alloc (.cells #[.pointer (some ⟨b.d, 0, none⟩), .int .i64 first, .int .i64 size] 126) = w1 at hb g0 ⊢;have c0 : w1.cell? ⟨w.heap.size, 0, none⟩ = some (.pointer (some ⟨b.d, 0, none⟩)) := by simp [World.cell?, g0]
 cases ho : x.off
 . have Ho := zB ho; clear ho;have Hr2 := zB (Hr.out _ Ho.out);refine (read_any b x i hi _ (H.out.below hb) Ho.out).mono ?_;rintro e w2 ⟨hpost, hb2⟩
   cases hrd : xP x i with
   | none =>
    rw [hrd] at hpost;obtain rfl : e = _ := hpost;have hr3 : wZ x i M = .error 40 := by rw [Hr2.out, hrd]; rfl
    have Hr3 := zB hr3;clear hr3 hrd
    go_wp2_with fail
    go_ret2
    rw [Hr3.out];exact ⟨rfl, hb.trans (hb2.mono hb.size)⟩
   | some sec =>
    rw [hrd] at hpost;obtain ⟨u, rfl, hown⟩ := hpost;have hl := H.out.read128 hrd;have hsb := hk.read hrd;have hB2 := hb.trans (hb2.mono hb.size);rw [hl] at hown;have HU := zB (unseal_any u sec w2 (Src.of_owns hown) (HP.out.tab.below hB2) (by rw [hl]; decide) hsb);have Hown := zB hown;have Hsec := zB (zC hrd (zC hl hsb));clear hrd hl hsb hown
    go_wp2_with fail
    refine HU.out.mono ?_;clear HU;rintro e w3 ⟨hpost, hb3⟩;have hB3 := hB2.trans (hb3.mono hB2.size);have hr3 : wZ x i M = match vM sec with | none => .error 50 | some t => if t.take 4 = M then .ok t else .error 50 := by rw [Hr2.out, Hsec.out.1]; rfl
    cases hun : vM sec with
    | none =>
     rw [hun] at hpost hr3;obtain ⟨k, hk0, rfl⟩ := hpost;have hk1 : (k != 0) = true := by simp [hk0]
     have Hr3 := zB hr3;clear hr3 hun
     go_wp2_with fail
     go_ret2
     rw [Hr3.out];exact ⟨rfl, hB3⟩
    | some t =>
     rw [hun] at hpost hr3;obtain ⟨u2, rfl, hown2⟩ := hpost;have hlt : t.length = 124 := by
      unfold vM at hun
      split at hun
      . injection hun with hun;rw [<- hun, List.length_take, Hsec.out.2.1]; rfl
      . cases hun
     have hbt : zO t := by
      unfold vM at hun
      split at hun
      . injection hun with hun;rw [<- hun]; exact Hsec.out.2.2.take _
      . cases hun
     rw [hlt] at hown2;obtain ⟨g, c, rfl, hg, hgl, hcl, -⟩ := xB hown2 (by decide);have hsrc := src_take (Src.of_owns hown2) (m := 4) (by rw [zH, hlt]; decide) c (by omega);rw [<- qF] at hsrc;have hcv := sQ hsrc;have hne : ((strOfNums (t.take 4)).toList == s.toList) = decide (t.take 4 = M) := by rw [HsM.out]; exact lK (hbt.take _) hMb
     clear hsrc hun;have Hown2 := zB hown2; clear hown2;simp only [] at hr3;by_cases hM : t.take 4 = M
     . rw [if_pos hM] at hr3;have Hr3 := zB hr3;rw [decide_eq_true hM] at hne;have Hlt := zB hlt;clear hM hr3 hbt hlt
       go_wp2_with fail
       go_ret2
       rw [Hr3.out];refine ⟨⟨_, rfl, ?_⟩, hB3⟩;rw [Hlt.out];exact yC Hown2.out (λ k hk => Nat.le_trans hB2.size (Hown2.out.lt k hk).1)
     . rw [if_neg hM] at hr3;have Hr3 := zB hr3;rw [decide_eq_false hM] at hne;clear hM hr3 hbt hlt
       go_wp2_with fail
       go_ret2
       rw [Hr3.out];exact ⟨rfl, hB3⟩
 . have Ho := zB ho; clear ho;have Hr2 := zB (Hr.out _ Ho.out);refine (read_off b x i hi _ (H.out.below hb).head Ho.out).mono ?_;rintro e w2 ⟨rfl, rfl⟩
   go_wp2_with fail
   go_ret2
   rw [Hr2.out];exact ⟨rfl, hb⟩
end Go.Proofs.YtbjofbhhnmehgaaGreatDoor.TT
namespace Go.RG
section
variable {P : Program} {ops : Array Oper} {b : World} {q : Act -> World -> Prop} {o : Oper} {rest : List Oper} {k : Nat} {Γ : zX} {CB : World -> Prop} {kd : Nat -> Kind} {a : Act} {w : World}
theorem rl_skip (hs : kd k = .small \/ kd k = .big) (hw : Region.wanted o (yielded ops a.tmps) = false)
 (hn : oR P ops b CB kd q rest (k + 1) (Γ.set o.dst Spec.any) (a.put o.dst undef) w) : oR P ops b CB kd q (o :: rest) k Γ a w := by
 show vE _ _ _ _ _ _ _ _ _ _ _;unfold vE;rcases hs with hs | hs <;> rw [hs] <;> exact ⟨undef, .inr ⟨hw, rfl⟩, hn⟩
end
end Go.RG
namespace Go.Proofs.YtbjofbhhnmehgaaGreatDoor.TT
open Go.RowKit Go.RG Go.Hp Go.Proofs.YtbjofbhhnmehgaaGreatDoor
def getN (bs : List Int) (at' n : Nat) : Nat := (getF bs at' n).toNat
theorem getN_cast {bs : List Int} (h : zO bs) (at' n : Nat) : (getN bs at' n : Int) = getF bs at' n := Int.toNat_of_nonneg (oX ((h.drop at').take n)).1
theorem get_n (at' n : Nat) (v : Value) (bs : List Int) (hb : zO bs) (hl : at' + n <= bs.length) (hL : bs.length <= 1024) (hn : n <= 8) (w : World) (h : Src w v (u8s bs)) :
 Calls Tryz.prog 137 #[.agg #[.int .i64 at', .int .i64 n], v] w λ e w' => e = .returned (.int .u64 (getN bs at' n)) /\ Below w.heap.size w w' := by
 rw [getN_cast hb];exact get_any at' n v bs hb hl hL hn w h
def pC (t : List Int) : Head := ⟨getN t 4 6, getN t 10 6, getN t 16 6, getN t 22 6⟩
def vW : Head := ⟨0, 0, 0, 0⟩
def wX (x : Dsk) (first size k : Nat) : Head × Bool := match wZ x (first + k) yX with
 | .error _ => (vW, false)
 | .ok t => if rC (t.drop 32) = true /\ getN t 28 4 = size then (pC t, decide (0 < (pC t).gen) && decide ((pC t).gen % 2 = k)) else (vW, false)
theorem mN {x : Dsk} {i : Nat} {M : List Int} {c : Int} (h : wZ x i M = .error c) : c = 5 \/ c = 40 \/ c = 50 := by
 unfold wZ at h
 split at h
 . injection h with h; exact .inl h.symm
 . split at h
   . injection h with h; exact .inr (.inl h.symm)
   . split at h
     . injection h with h; exact .inr (.inr h.symm)
     . split at h
       . cases h
       . injection h with h; exact .inr (.inr h.symm)
theorem sealedR_ok {x : Dsk} {i : Nat} {M t : List Int} (h : wZ x i M = .ok t) : ∃ s, xP x i = some s /\ vM s = some t /\ t.take 4 = M /\ x.off = false := by
 unfold wZ at h
 split at h
 . cases h
 . rename_i ho
   split at h
   . cases h
   . rename_i s hs
     split at h
     . cases h
     . rename_i t' ht
       split at h
       . rename_i hM;injection h with h;subst h;exact ⟨s, hs, ht, hM, by simpa using ho⟩
       . cases h
theorem pN {s t : List Int} (h : vM s = some t) : 4 <= s.length /\ t = s.take (s.length - 4) /\ tN t = s.drop (s.length - 4) := by
 unfold vM at h
 split at h
 . rename_i h1;injection h with h;subst h;exact ⟨h1.1, rfl, h1.2⟩
 . cases h
theorem gC {w : World} {b : Bks} {x : Dsk} (h : wQ w b x) (hk : x.ok) {i : Nat} {M t : List Int} (hr : wZ x i M = .ok t) : t.length = 124 /\ zO t := by
 obtain ⟨s, h1, h2, -⟩ := sealedR_ok hr;obtain ⟨-, rfl, -⟩ := pN h2;have := h.read128 h1;exact ⟨by rw [List.length_take, this]; rfl, (hk.read h1).take _⟩
theorem sU {W : World} {g : Nat} {c : Array Value} {T : TypeId} (hc : c.size = 4) (a0 a1 a2 a3 : Value) (h : W.heap[g]? = some (.cells c T (0, 0))) :
 ((((W.setCell ⟨g, 0, none⟩ a0).setCell ⟨g, 1, none⟩ a1).setCell ⟨g, 2, none⟩ a2).setCell ⟨g, 3, none⟩ a3).heap[g]? = some (.cells #[a0, a1, a2, a3] T (0, 0)) := by
 have h4 := uB (i := 3) a3 (uB (i := 2) a2 (uB (i := 1) a1 (uB (i := 0) a0 h)));rw [h4]
 congr 2
 obtain ⟨l⟩ := c
 match l, hc with
 | [_, _, _, _], _ => rfl
theorem zV {w W : World} (hW : Below w.heap.size w W) {p : Addr} {v : Value} (c : w.cell? p = some v) : ∀ w2, Below W.heap.size W w2 -> w2.cell? p = some v := λ w2 h => zG (zF hW h) c
theorem slot_any (b : Bks) (x : Dsk) (first size k : Nat) (hi : first + k < x.dur.length) (hk2 : k < 2) (hsz : size <= 65536) (w : World) (h : wQ w b x) (hk : x.ok) (hP : Pkg w) :
 Calls Tryz.prog 112 #[vH b first size, .int .i64 k] w λ e w' => e = .returned (.tuple #[uU (wX x first size k).1, .bool (wX x first size k).2]) /\ Below w.heap.size w w' := by
 have hlim := h.lim;obtain ⟨hb, g0, g1⟩ := qV w (.cells #[.pointer (some ⟨b.d, 0, none⟩), .int .i64 first, .int .i64 size] 126) (.cells #[.int .u64 0, .int .u64 0, .int .u64 0, .int .u64 0] 128);unfold vH;go_enter Tryz.func112, Tryz.ntmps112
 go_wp2_with fail
 generalize World.alloc _ (.cells #[.int .u64 0, .int .u64 0, .int .u64 0, .int .u64 0] 128) = w1 at hb g0 g1 ⊢;have p0 : w1.cell? ⟨w.heap.size, 0, none⟩ = some (.pointer (some ⟨b.d, 0, none⟩)) /\ w1.cell? ⟨w.heap.size, 1, none⟩ = some (.int .i64 first) /\ w1.cell? ⟨w.heap.size, 2, none⟩ = some (.int .i64 size) := by simp [World.cell?, g0]
 obtain ⟨-, -, p2⟩ := p0;have hB1 := h.below hb;have hP1 := hP.below hb;rw [show ((first : Int) + (k : Int)) = ((first + k : Nat) : Int) by omega];refine (sealed_any b x first size (first + k) hi yX ⟨#[104, 108, 121, 72]⟩ rfl rfl uN.1 w1 hB1 hk hP1).mono ?_;rintro e w2 ⟨hpost, hb2⟩;have p2 := zG hb2 p2;have g1 := zK hb2 g1;have hB2 := hb.trans (hb2.mono hb.size);have hP2 := hP1.below hb2;have HP2 := zB hP2;have hD := hB1.below hb2;clear h hB1 hP hP1 hP2 g0
 cases hr : wZ x (first + k) yX with
 | error c =>
  rw [hr] at hpost;obtain rfl : e = _ := hpost;have hs : wX x first size k = (vW, false) := by unfold wX; rw [hr]
  have Hs := zB hs;clear hs;have hc : (c != 0) = true := by rcases mN hr with rfl | rfl | rfl <;> rfl
  clear hr
  go_wp2_with fail
  refine zY (λ _ => none) fol (by kernel_rfl) (λ W4 hW4 hh => ?_);clear hh
  repeat ((first | refine lxM ?_ | refine lxF ?_ | refine zM rfl ?_); simp only [zD])
  refine zZ ?_;have g1 := zK hW4 g1;obtain ⟨z0, z1, z2, z3⟩ := box4 g1;have f1 : ∀ j, W4.frozen? ⟨w.heap.size + 1, j, none⟩ = false := λ j => by simp [World.frozen?, g1]
  have hset := sU (by rfl) (.int .u64 0) (.int .u64 0) (.int .u64 0) (.int .u64 0) g1;have Hset := zB hset;clear hset
  go_wp2_with fail
  have hBW := hB2.trans (hW4.mono hB2.size);have hBe := (((hBW.setCell (p := ⟨w.heap.size + 1, 0, none⟩) (Nat.le_succ _) (.int .u64 0)).setCell (p := ⟨w.heap.size + 1, 1, none⟩) (Nat.le_succ _) (.int .u64 0)).setCell (p := ⟨w.heap.size + 1, 2, none⟩) (Nat.le_succ _) (.int .u64 0)).setCell (p := ⟨w.heap.size + 1, 3, none⟩) (Nat.le_succ _) (.int .u64 0);have hse := Hset.out;generalize World.setCell _ ⟨w.heap.size + 1, 3, none⟩ _ = We at hBe hse ⊢;obtain ⟨d0, d1, d2, d3⟩ := box4 hse;refine ⟨rfl, .tuple #[uU (wX x first size k).1, .bool (wX x first size k).2], ?_, rfl, hBe⟩;rw [Hs.out];simp [results, Tryz.f112, go_sem, d0, d1, d2, d3, uU, vW]
 | ok t =>
  rw [hr] at hpost;obtain ⟨u, rfl, hown⟩ := hpost;obtain ⟨hlt, hbt⟩ := gC hD hk hr;rw [hlt] at hown;obtain ⟨g, c, rfl, hg, hgl, hcl, -⟩ := xB hown (by decide);have hsT := Src.of_owns hown;have hsD := iK hsT (m := 32) (by rw [zH, hlt]; decide) (c - 32) (by rw [zH, hlt]; omega);rw [<- tL, zH, hlt, Nat.zero_add, show 124 - 32 = 92 by rfl] at hsD;have HC := zB (λ W' (h : Below w2.heap.size w2 W') => gZ _ (t.drop 32) W' (hsD.below h) (by rw [List.length_drop, hlt]; decide));have HG := zB (λ W' (h : Below w2.heap.size w2 W') at' n h1 h2 => get_n at' n _ t hbt (by rw [hlt]; exact h1) (by rw [hlt]; decide) h2 W' (hsT.below h));have hF1 := HP2.out.size.1;have hF2 := HP2.out.size.2;have hs : wX x first size k = if rC (t.drop 32) = true /\ getN t 28 4 = size then (pC t, decide (0 < (pC t).gen) && decide ((pC t).gen % 2 = k)) else (vW, false) := by unfold wX; rw [hr]
  clear hown hsT hsD hr hlt
  cases hcl : rC (t.drop 32)
  . rw [hcl, if_neg (by simp)] at hs;have Hs := zB hs;have Hcl := zB hcl;clear hs hcl
    go_wp2_with fail
    refine zY (λ i => if i = 10 then some (λ v w' => v = .bool false) else none) fol (by kernel_rfl) (λ W hW hh => ?_);clear hh;have q1 := zV hW hF1;have q2 := zV hW hF2
    repeat ((first | refine lxM ?_ | refine lxF ?_ | refine zM rfl ?_); simp only [zD])
    refine zW _ rfl (λ _ _ _ h _ => h) rfl (λ w1 hb1 hf1 => ?_) ?_
    . (unfold yE; go_simp; simp only [zN])
      refine (HC.out _ (zF hW hb1)).mono ?_;rintro e w' ⟨rfl, rfl⟩;exact ⟨_, rfl, Below.refl _ _, by rw [Hcl.out]⟩
    rintro v9 W4 hB9 rfl;simp only [zD]
    repeat ((first | refine lxM ?_ | refine lxF ?_ | refine zM rfl ?_); simp only [zD])
    refine zZ ?_;clear q1 q2 HC HG;have hW4 := zF hW hB9;have g1 := zK hW4 g1;obtain ⟨z0, z1, z2, z3⟩ := box4 g1;have f1 : ∀ j, W4.frozen? ⟨w.heap.size + 1, j, none⟩ = false := λ j => by simp [World.frozen?, g1]
    have hset := sU (by rfl) (.int .u64 0) (.int .u64 0) (.int .u64 0) (.int .u64 0) g1;have Hset := zB hset;clear hset
    go_wp2_with fail
    have hBW := hB2.trans (hW4.mono hB2.size);have hBe := (((hBW.setCell (p := ⟨w.heap.size + 1, 0, none⟩) (Nat.le_succ _) (.int .u64 0)).setCell (p := ⟨w.heap.size + 1, 1, none⟩) (Nat.le_succ _) (.int .u64 0)).setCell (p := ⟨w.heap.size + 1, 2, none⟩) (Nat.le_succ _) (.int .u64 0)).setCell (p := ⟨w.heap.size + 1, 3, none⟩) (Nat.le_succ _) (.int .u64 0);have hse := Hset.out;generalize World.setCell _ ⟨w.heap.size + 1, 3, none⟩ _ = We at hBe hse ⊢;obtain ⟨d0, d1, d2, d3⟩ := box4 hse;refine ⟨rfl, .tuple #[uU (wX x first size k).1, .bool (wX x first size k).2], ?_, rfl, hBe⟩;rw [Hs.out];simp [results, Tryz.f112, go_sem, d0, d1, d2, d3, uU, vW]
  . rw [hcl] at hs;simp only [true_and] at hs;by_cases hsz : getN t 28 4 = size
    . rw [if_pos hsz] at hs;have Hs := zB hs;have Hcl := zB hcl;have hne : ((getN t 28 4 : Int) != (size : Int)) = false := by rw [bne_eq_false_iff_eq]; omega
      clear hs hcl hsz
      go_wp2_with fail
      refine zY (λ i => if i = 10 then some (λ v w' => v = .bool true) else if i = 16 then some (λ v w' => v = .int .u64 (getN t 28 4)) else none) fol (by kernel_rfl) (λ W hW hh => ?_);clear hh;have q1 := zV hW hF1;have q2 := zV hW hF2;have q3 := zV hW p2
      repeat ((first | refine lxM ?_ | refine lxF ?_ | refine zM rfl ?_); simp only [zD])
      refine zW _ rfl (λ _ _ _ h _ => h) rfl (λ w1 hb1 hf1 => ?_) ?_
      . (unfold yE; go_simp; simp only [zN])
        refine (HC.out _ (zF hW hb1)).mono ?_;rintro e w' ⟨rfl, rfl⟩;exact ⟨_, rfl, Below.refl _ _, by rw [Hcl.out]⟩
      rintro v9 W3 hB9 rfl;simp only [zD]
      repeat ((first | refine lxM ?_ | refine lxF ?_ | refine zM rfl ?_); simp only [zD])
      refine zW _ rfl (λ _ _ _ h _ => h) rfl (λ w1 hb1 hf1 => ?_) ?_
      . (unfold yE; go_simp; simp only [zN])
        refine (HG.out _ (zF hW hb1) 28 4 (by decide) (by decide)).mono ?_;rintro e w' ⟨rfl, hbb⟩;exact ⟨_, rfl, hbb, rfl⟩
      rintro v10 W4 hB10 rfl;simp only [zD]
      repeat ((first | refine lxM ?_ | refine lxF ?_ | refine zM rfl ?_); simp only [zD])
      refine zZ ?_;clear q1 q2 q3 HC;have hW4 := zF hW (zF hB9 hB10);have hP4 := HP2.out.below hW4;obtain ⟨k1, k2⟩ := hP4.generation;obtain ⟨k3, k4⟩ := hP4.headEpoch;obtain ⟨k5, k6⟩ := hP4.first;obtain ⟨k7, k8⟩ := hP4.least;clear hP4
      go_wp2_with fail
      refine zR 14 (λ i => if i = 2 then some (λ v w' => v = .int .u64 (getN t 4 6)) else if i = 5 then some (λ v w' => v = .int .u64 (getN t 10 6)) else if i = 8 then some (λ v w' => v = .int .u64 (getN t 16 6)) else if i = 11 then some (λ v w' => v = .int .u64 (getN t 22 6)) else if i = 13 then some (λ v w' => ∃ n, v = .pointer (some ⟨n, 0, none⟩) /\ w.heap.size <= n /\ n ≠ w.heap.size + 1 /\ w'.heap[n]? = some (.cells #[.int .u64 0, .int .u64 0, .int .u64 0, .int .u64 0] 128 (0, 0))) else none) fol (by kernel_rfl) (λ V hV hh => ?_);clear hh;have q1 := zV hV k1;have q2 := zV hV k2;have q3 := zV hV k3;have q4 := zV hV k4;have q5 := zV hV k5;have q6 := zV hV k6;have q7 := zV hV k7;have q8 := zV hV k8;simp only [fT];have hWV := zF hW4 hV
      repeat ((first | refine lxM ?_ | refine lxF ?_ | refine zM rfl ?_); simp only [zD])
      refine zW _ rfl (λ _ _ _ h _ => h) rfl (λ w1 hb1 hf1 => ?_) ?_
      . (unfold yE; go_simp; simp only [zN])
        refine (HG.out _ (zF hWV hb1) 4 6 (by decide) (by decide)).mono ?_;rintro e w' ⟨rfl, hbb⟩;exact ⟨_, rfl, hbb, rfl⟩
      rintro v1 V1 hV1 rfl;simp only [zD]
      repeat ((first | refine lxM ?_ | refine lxF ?_ | refine zM rfl ?_); simp only [zD])
      refine zW _ rfl (λ _ _ _ h _ => h) rfl (λ w1 hb1 hf1 => ?_) ?_
      . (unfold yE; go_simp; simp only [zN])
        refine (HG.out _ (zF hWV hb1) 10 6 (by decide) (by decide)).mono ?_;rintro e w' ⟨rfl, hbb⟩;exact ⟨_, rfl, hbb, rfl⟩
      rintro v2 V2 hV2 rfl;simp only [zD]
      repeat ((first | refine lxM ?_ | refine lxF ?_ | refine zM rfl ?_); simp only [zD])
      refine zW _ rfl (λ _ _ _ h _ => h) rfl (λ w1 hb1 hf1 => ?_) ?_
      . (unfold yE; go_simp; simp only [zN])
        refine (HG.out _ (zF hWV hb1) 16 6 (by decide) (by decide)).mono ?_;rintro e w' ⟨rfl, hbb⟩;exact ⟨_, rfl, hbb, rfl⟩
      rintro v3 V3 hV3 rfl;simp only [zD]
      repeat ((first | refine lxM ?_ | refine lxF ?_ | refine zM rfl ?_); simp only [zD])
      refine zW _ rfl (λ _ _ _ h _ => h) rfl (λ w1 hb1 hf1 => ?_) ?_
      . (unfold yE; go_simp; simp only [zN])
        refine (HG.out _ (zF hWV hb1) 22 6 (by decide) (by decide)).mono ?_;rintro e w' ⟨rfl, hbb⟩;exact ⟨_, rfl, hbb, rfl⟩
      rintro v4 V4 hV4 rfl;simp only [zD]
      repeat ((first | refine lxM ?_ | refine lxF ?_ | refine zM rfl ?_); simp only [zD])
      refine zW _ rfl (by exact λ _ _ _ ⟨n, h1, h2, h3, h4⟩ hb => ⟨n, h1, h2, h3, zK hb h4⟩) rfl (λ w1 hb1 hf1 => ?_) ?_
      . have hsz1 := (zF hWV hb1).size;have hsz2 := zI (zK (zF hWV hb1) g1);have hs0 := hB2.size
        (unfold yE; go_simp; simp only [zN])
        exact ⟨zQ _ _, _, rfl, by omega, by omega, World.alloc_heap_new _ _⟩
      rintro v5 V5 hV5 ⟨n, rfl, hn, hn1, gn⟩;simp only [zD]
      repeat ((first | refine lxM ?_ | refine lxF ?_ | refine zM rfl ?_); simp only [zD])
      refine zZ ?_;clear q1 q2 q3 q4 q5 q6 q7 q8 HG;have hW5 := zF hWV (zF hV1 (zF hV2 (zF hV3 (zF hV4 hV5))));obtain ⟨z0, z1, z2, z3⟩ := box4 gn;have fn : ∀ j, V5.frozen? ⟨n, j, none⟩ = false := λ j => by simp [World.frozen?, gn]
      have hset := sU (by rfl) (.int .u64 (getN t 4 6)) (.int .u64 (getN t 10 6)) (.int .u64 (getN t 16 6)) (.int .u64 (getN t 22 6)) gn;have hX : Ext (· = n) V5 ((((V5.setCell ⟨n, 0, none⟩ (.int .u64 (getN t 4 6))).setCell ⟨n, 1, none⟩ (.int .u64 (getN t 10 6))).setCell ⟨n, 2, none⟩ (.int .u64 (getN t 16 6))).setCell ⟨n, 3, none⟩ (.int .u64 (getN t 22 6))) :=
       (((Ext.setCell (S := (· = n)) (p := ⟨n, 0, none⟩) rfl _).trans (Ext.setCell (S := (· = n)) (p := ⟨n, 1, none⟩) rfl _) (λ _ _ h => h)).trans (Ext.setCell (S := (· = n)) (p := ⟨n, 2, none⟩) rfl _) (λ _ _ h => h)).trans (Ext.setCell (S := (· = n)) (p := ⟨n, 3, none⟩) rfl _) (λ _ _ h => h)
      have HS := zB (zC hset hX);clear hset hX
      go_wp2_with fail
      have hset := HS.out.1;have hX := HS.out.2;clear HS z0 z1 z2 z3 fn;generalize World.setCell _ ⟨n, 3, none⟩ _ = V6 at hset hX ⊢;have hB6 : Below w.heap.size w V6 := (hB2.trans (hW5.mono hB2.size)).trans (hX.to_belowAt (hB2.trans (hW5.mono hB2.size)).size λ k hk => by omega);have g1' := hX.heap (zK hW5 g1) (λ e => hn1 e.symm);have hk' : (pC t).gen = getN t 4 6 := rfl;obtain ⟨y0, y1, y2, y3⟩ := box4 hset;by_cases h0 : 0 < getN t 4 6
      . have h0' : (0 : Int) < (getN t 4 6 : Int) := by omega
        have hsl : wX x first size k = (pC t, decide ((getN t 4 6 : Int) % 2 = (k : Int))) := by
         rw [Hs.out];rw [hk', decide_eq_true h0, Bool.true_and]
         congr 1
         rw [decide_eq_decide];omega
        clear Hs;have Hs := zB hsl; clear hsl;refine vY 13 [5, 6, 7, 8, 9, 10, 11] (λ _ => none) (λ W' => Ext (· = w.heap.size + 1) V6 W') (λ _ W' => W'.heap[w.heap.size + 1]? = some (.cells #[.int .u64 (getN t 4 6), .int .u64 (getN t 10 6), .int .u64 (getN t 16 6), .int .u64 (getN t 22 6)] 128 (0, 0))) fol (by kernel_rfl) (λ b hb1 hb2 W' hW' => (Ext.of_below hb2).trans (Ext.of_below (S := (· = w.heap.size + 1)) hW') λ _ _ h => h) (λ U hU hh => ?_);clear hh;have q0 : ∀ w2, Below U.heap.size U w2 -> w2.cell? ⟨n, 0, none⟩ = some (.int .u64 (getN t 4 6)) := zV hU y0;have q1 := zV hU y1;have q2 := zV hU y2;have q3 := zV hU y3;have e0 : ∀ w2, Ext (· = w.heap.size + 1) V6 w2 -> w2.cell? ⟨n, 0, none⟩ = some (.int .u64 (getN t 4 6)) := λ w2 h => h.cell_some y0 hn1;simp only [fT]
        repeat ((first | (refine mO _ (by first | exact .inl rfl | exact .inr rfl) (by first | exact .inl rfl | exact .inr rfl) rfl ?_) | (refine sI ?_ rfl rfl (λ w1 hb1 hf1 => ?_) ?_; rotate_left; (go_simp; (try simp (disch := omega) only [zE, toNatUp, iteOmega]); (try go_simp); rfl)) | (refine jP ?_ rfl rfl (λ w1 hcb1 => ?_) ?_; rotate_left; ((try dsimp only at hcb1); go_simp; (try simp (disch := omega) only [zE, toNatUp, iteOmega]); (try go_simp); rfl)) | (refine rl_skip (by first | exact .inl rfl | exact .inr rfl) rfl ?_)); simp only [zD])
        have gU := zK hU g1';obtain ⟨z0, z1, z2, z3⟩ := box4 gU;have fU : ∀ j, U.frozen? ⟨w.heap.size + 1, j, none⟩ = false := λ j => by simp [World.frozen?, gU]
        refine jA _ rfl rfl ?_ ?_
        . have hset := sU (by rfl) (.int .u64 (getN t 4 6)) (.int .u64 (getN t 10 6)) (.int .u64 (getN t 16 6)) (.int .u64 (getN t 22 6)) gU;have hXU : Ext (· = w.heap.size + 1) V6 ((((U.setCell ⟨w.heap.size + 1, 0, none⟩ (.int .u64 (getN t 4 6))).setCell ⟨w.heap.size + 1, 1, none⟩ (.int .u64 (getN t 10 6))).setCell ⟨w.heap.size + 1, 2, none⟩ (.int .u64 (getN t 16 6))).setCell ⟨w.heap.size + 1, 3, none⟩ (.int .u64 (getN t 22 6))) :=
           (Ext.of_below hU).trans ((((Ext.setCell (S := (· = w.heap.size + 1)) (p := ⟨w.heap.size + 1, 0, none⟩) rfl _).trans (Ext.setCell (S := (· = w.heap.size + 1)) (p := ⟨w.heap.size + 1, 1, none⟩) rfl _) (λ _ _ h => h)).trans (Ext.setCell (S := (· = w.heap.size + 1)) (p := ⟨w.heap.size + 1, 2, none⟩) rfl _) (λ _ _ h => h)).trans (Ext.setCell (S := (· = w.heap.size + 1)) (p := ⟨w.heap.size + 1, 3, none⟩) rfl _) (λ _ _ h => h)) (λ _ _ h => h)
          have HS := zB (zC hset hXU);clear hset hXU
          (unfold yE; go_simp; simp only [zN])
          exact ⟨HS.out.2, HS.out.1⟩
        rintro v9 U9 hX9 hset9;simp only [zD];refine rl_nil ?_;have hBe : Below w.heap.size w U9 := hB6.trans (hX9.to_belowAt hB6.size λ k hk => by omega);have Hset := zB hset9;clear hset9 hX9 z0 z1 z2 z3 gU fU q0 q1 q2 q3 e0 y0 y1 y2 y3
        go_wp2_with fail
        have hse := Hset.out;obtain ⟨d0, d1, d2, d3⟩ := box4 hse;refine ⟨rfl, .tuple #[uU (wX x first size k).1, .bool (wX x first size k).2], ?_, rfl, hBe⟩;rw [Hs.out];simp [results, Tryz.f112, go_sem, d0, d1, d2, d3, uU, pC] <;> rfl
      . have h0' : ¬ ((0 : Int) < (getN t 4 6 : Int)) := by omega
        have hsl : wX x first size k = (pC t, false) := by
         rw [Hs.out];rw [hk', decide_eq_false h0, Bool.false_and]
        clear Hs;have Hs := zB hsl; clear hsl;refine vY 13 [5, 6, 7, 8, 9, 10, 11] (λ _ => none) (λ W' => Ext (· = w.heap.size + 1) V6 W') (λ _ W' => W'.heap[w.heap.size + 1]? = some (.cells #[.int .u64 (getN t 4 6), .int .u64 (getN t 10 6), .int .u64 (getN t 16 6), .int .u64 (getN t 22 6)] 128 (0, 0))) fol (by kernel_rfl) (λ b hb1 hb2 W' hW' => (Ext.of_below hb2).trans (Ext.of_below (S := (· = w.heap.size + 1)) hW') λ _ _ h => h) (λ U hU hh => ?_);clear hh;have q0 : ∀ w2, Below U.heap.size U w2 -> w2.cell? ⟨n, 0, none⟩ = some (.int .u64 (getN t 4 6)) := zV hU y0;have q1 := zV hU y1;have q2 := zV hU y2;have q3 := zV hU y3;have e0 : ∀ w2, Ext (· = w.heap.size + 1) V6 w2 -> w2.cell? ⟨n, 0, none⟩ = some (.int .u64 (getN t 4 6)) := λ w2 h => h.cell_some y0 hn1;simp only [fT]
        repeat ((first | (refine mO _ (by first | exact .inl rfl | exact .inr rfl) (by first | exact .inl rfl | exact .inr rfl) rfl ?_) | (refine sI ?_ rfl rfl (λ w1 hb1 hf1 => ?_) ?_; rotate_left; (go_simp; (try simp (disch := omega) only [zE, toNatUp, iteOmega]); (try go_simp); rfl)) | (refine jP ?_ rfl rfl (λ w1 hcb1 => ?_) ?_; rotate_left; ((try dsimp only at hcb1); go_simp; (try simp (disch := omega) only [zE, toNatUp, iteOmega]); (try go_simp); rfl)) | (refine rl_skip (by first | exact .inl rfl | exact .inr rfl) rfl ?_)); simp only [zD])
        have gU := zK hU g1';obtain ⟨z0, z1, z2, z3⟩ := box4 gU;have fU : ∀ j, U.frozen? ⟨w.heap.size + 1, j, none⟩ = false := λ j => by simp [World.frozen?, gU]
        refine jA _ rfl rfl ?_ ?_
        . have hset := sU (by rfl) (.int .u64 (getN t 4 6)) (.int .u64 (getN t 10 6)) (.int .u64 (getN t 16 6)) (.int .u64 (getN t 22 6)) gU;have hXU : Ext (· = w.heap.size + 1) V6 ((((U.setCell ⟨w.heap.size + 1, 0, none⟩ (.int .u64 (getN t 4 6))).setCell ⟨w.heap.size + 1, 1, none⟩ (.int .u64 (getN t 10 6))).setCell ⟨w.heap.size + 1, 2, none⟩ (.int .u64 (getN t 16 6))).setCell ⟨w.heap.size + 1, 3, none⟩ (.int .u64 (getN t 22 6))) :=
           (Ext.of_below hU).trans ((((Ext.setCell (S := (· = w.heap.size + 1)) (p := ⟨w.heap.size + 1, 0, none⟩) rfl _).trans (Ext.setCell (S := (· = w.heap.size + 1)) (p := ⟨w.heap.size + 1, 1, none⟩) rfl _) (λ _ _ h => h)).trans (Ext.setCell (S := (· = w.heap.size + 1)) (p := ⟨w.heap.size + 1, 2, none⟩) rfl _) (λ _ _ h => h)).trans (Ext.setCell (S := (· = w.heap.size + 1)) (p := ⟨w.heap.size + 1, 3, none⟩) rfl _) (λ _ _ h => h)) (λ _ _ h => h)
          have HS := zB (zC hset hXU);clear hset hXU
          (unfold yE; go_simp; simp only [zN])
          exact ⟨HS.out.2, HS.out.1⟩
        rintro v9 U9 hX9 hset9;simp only [zD];refine rl_nil ?_;have hBe : Below w.heap.size w U9 := hB6.trans (hX9.to_belowAt hB6.size λ k hk => by omega);have Hset := zB hset9;clear hset9 hX9 z0 z1 z2 z3 gU fU q0 q1 q2 q3 e0 y0 y1 y2 y3
        go_wp2_with fail
        have hse := Hset.out;obtain ⟨d0, d1, d2, d3⟩ := box4 hse;refine ⟨rfl, .tuple #[uU (wX x first size k).1, .bool (wX x first size k).2], ?_, rfl, hBe⟩;rw [Hs.out];simp [results, Tryz.f112, go_sem, d0, d1, d2, d3, uU, pC] <;> rfl
    . rw [if_neg hsz] at hs;have Hs := zB hs;have Hcl := zB hcl;have hne : ((getN t 28 4 : Int) != (size : Int)) = true := by rw [bne_iff_ne]; omega
      clear hs hcl hsz
      go_wp2_with fail
      refine zY (λ i => if i = 10 then some (λ v w' => v = .bool true) else if i = 16 then some (λ v w' => v = .int .u64 (getN t 28 4)) else none) fol (by kernel_rfl) (λ W hW hh => ?_);clear hh;have q1 := zV hW hF1;have q2 := zV hW hF2;have q3 := zV hW p2
      repeat ((first | refine lxM ?_ | refine lxF ?_ | refine zM rfl ?_); simp only [zD])
      refine zW _ rfl (λ _ _ _ h _ => h) rfl (λ w1 hb1 hf1 => ?_) ?_
      . (unfold yE; go_simp; simp only [zN])
        refine (HC.out _ (zF hW hb1)).mono ?_;rintro e w' ⟨rfl, rfl⟩;exact ⟨_, rfl, Below.refl _ _, by rw [Hcl.out]⟩
      rintro v9 W3 hB9 rfl;simp only [zD]
      repeat ((first | refine lxM ?_ | refine lxF ?_ | refine zM rfl ?_); simp only [zD])
      refine zW _ rfl (λ _ _ _ h _ => h) rfl (λ w1 hb1 hf1 => ?_) ?_
      . (unfold yE; go_simp; simp only [zN])
        refine (HG.out _ (zF hW hb1) 28 4 (by decide) (by decide)).mono ?_;rintro e w' ⟨rfl, hbb⟩;exact ⟨_, rfl, hbb, rfl⟩
      rintro v10 W4 hB10 rfl;simp only [zD]
      repeat ((first | refine lxM ?_ | refine lxF ?_ | refine zM rfl ?_); simp only [zD])
      refine zZ ?_;clear q1 q2 q3 HC HG;have hW4 := zF hW (zF hB9 hB10);have g1 := zK hW4 g1;obtain ⟨z0, z1, z2, z3⟩ := box4 g1;have f1 : ∀ j, W4.frozen? ⟨w.heap.size + 1, j, none⟩ = false := λ j => by simp [World.frozen?, g1]
      have hset := sU (by rfl) (.int .u64 0) (.int .u64 0) (.int .u64 0) (.int .u64 0) g1;have Hset := zB hset;clear hset
      go_wp2_with fail
      have hBW := hB2.trans (hW4.mono hB2.size);have hBe := (((hBW.setCell (p := ⟨w.heap.size + 1, 0, none⟩) (Nat.le_succ _) (.int .u64 0)).setCell (p := ⟨w.heap.size + 1, 1, none⟩) (Nat.le_succ _) (.int .u64 0)).setCell (p := ⟨w.heap.size + 1, 2, none⟩) (Nat.le_succ _) (.int .u64 0)).setCell (p := ⟨w.heap.size + 1, 3, none⟩) (Nat.le_succ _) (.int .u64 0);have hse := Hset.out;generalize World.setCell _ ⟨w.heap.size + 1, 3, none⟩ _ = We at hBe hse ⊢;obtain ⟨d0, d1, d2, d3⟩ := box4 hse;refine ⟨rfl, .tuple #[uU (wX x first size k).1, .bool (wX x first size k).2], ?_, rfl, hBe⟩;rw [Hs.out];simp [results, Tryz.f112, go_sem, d0, d1, d2, d3, uU, vW]
theorem allocs3 (w : World) (o1 o2 o3 : Obj) : Below w.heap.size w (((w.alloc o1).alloc o2).alloc o3) /\ (((w.alloc o1).alloc o2).alloc o3).heap[w.heap.size]? = some o1 /\ (((w.alloc o1).alloc o2).alloc o3).heap[w.heap.size + 1]? = some o2 /\ (((w.alloc o1).alloc o2).alloc o3).heap[w.heap.size + 1 + 1]? = some o3 := by
 obtain ⟨h1, h2, h3⟩ := qV w o1 o2;have h4 := World.alloc_heap_new ((w.alloc o1).alloc o2) o3;rw [show ((w.alloc o1).alloc o2).heap.size = w.heap.size + 1 + 1 by simp] at h4;exact ⟨h1.alloc (by simp; omega) _, zK (zQ _ _) h2, zK (zQ _ _) h3, h4⟩
def kN (best : Head × Int) (k : Nat) (s : Head × Bool) : Head × Int := if s.2 = true /\ best.1.gen < s.1.gen then (s.1, (k : Int)) else best
def runR (x : Dsk) (first size : Nat) : Nat -> Head × Int
 | 0 => (vW, -1)
 | k + 1 => kN (runR x first size k) k (wX x first size k)
def yS (x : Dsk) (first size : Nat) : Head × Int := runR x first size 2
def headCells (h : Head) (T : TypeId) : Obj := .cells #[.int .u64 h.gen, .int .u64 h.epoch, .int .u64 h.first, .int .u64 h.least] T (0, 0)
theorem counts_any (b : Bks) (x : Dsk) (first size : Nat) (hi : first + 1 < x.dur.length) (hsz : size <= 65536) (w : World) (h : wQ w b x) (hk : x.ok) (hP : Pkg w) :
 Calls Tryz.prog 77 #[vH b first size] w λ e w' => e = .returned (.tuple #[uU (yS x first size).1, .int .i64 (yS x first size).2]) /\ Below w.heap.size w w' := by
 have hlim := h.lim;obtain ⟨hb, g0, g1, g2⟩ := allocs3 w (.cells #[.pointer (some ⟨b.d, 0, none⟩), .int .i64 first, .int .i64 size] 126) (.cells #[.int .u64 0, .int .u64 0, .int .u64 0, .int .u64 0] 128) (.cells #[.int .u64 0, .int .u64 0, .int .u64 0, .int .u64 0] 128);have H := zB (zC h (zC hk hP)); clear h hk hP;unfold vH;go_enter Tryz.func77, Tryz.ntmps77
 go_wp2_with fail
 generalize World.alloc (World.alloc (World.alloc w _) _) _ = w1 at hb g0 g1 g2 ⊢
 go_loopw [5, 9] (λ vat vi wr => ∃ i : Nat, vi = .int .i64 i /\ i <= 2 /\ vat = .int .i64 (runR x first size i).2 /\ Below w.heap.size w wr /\ wr.heap[w.heap.size]? = some (.cells #[.pointer (some ⟨b.d, 0, none⟩), .int .i64 first, .int .i64 size] 126 (0, 0)) /\
  wr.heap[w.heap.size + 1]? = some (.cells #[.int .u64 0, .int .u64 0, .int .u64 0, .int .u64 0] 128 (0, 0)) /\ wr.heap[w.heap.size + 1 + 1]? = some (headCells (runR x first size i).1 128)) (λ _ vi _ => 2 - (intOf vi).toNat)
 case atStart => exact ⟨0, rfl, by omega, rfl, hb, g0, g1, g2⟩
 case round =>
  obtain ⟨i, rfl, hi2, rfl, hB, k0, k1, k2⟩ := hrel;clear hb g0 g1 g2;obtain ⟨hd, at', hr⟩ : ∃ hd at', runR x first size i = (hd, at') := ⟨_, _, rfl⟩;rw [hr] at k2 ⊢;simp only [headCells] at k2;obtain ⟨hg, he, hf, hl⟩ := hd;have Hr := zB hr; clear hr;by_cases hlt : i < 2
  . have hii : (i : Int) < 2 := by omega
    have c0 : wr.cell? ⟨w.heap.size, 0, none⟩ = some (.pointer (some ⟨b.d, 0, none⟩)) /\ wr.cell? ⟨w.heap.size, 1, none⟩ = some (.int .i64 first) /\ wr.cell? ⟨w.heap.size, 2, none⟩ = some (.int .i64 size) := by simp [World.cell?, k0]
    obtain ⟨p0, p1, p2⟩ := c0
    go_wp2_with fail
    obtain ⟨hD, hk, hP⟩ := H.out;refine (slot_any b x first size i (by omega) hlt hsz wr (hD.below hB) hk (hP.below hB)).mono ?_;clear hD hk hP p0 p1 p2;rintro e w2 ⟨rfl, hb2⟩;have hB2 := hB.trans (hb2.mono hB.size);have k0 := zK hb2 k0;have k1 := zK hb2 k1;have k2 := zK hb2 k2;obtain ⟨⟨⟨sg, se, sf, sl⟩, ok⟩, hs⟩ : ∃ s, wX x first size i = s := ⟨_, rfl⟩;rw [hs];have hstep : runR x first size (i + 1) = kN (⟨hg, he, hf, hl⟩, at') i (⟨sg, se, sf, sl⟩, ok) := by
     show kN (runR x first size i) i (wX x first size i) = _;rw [Hr.out, hs]
    clear hs hb2;have Hstep := zB hstep; clear hstep;have hb3 := zQ w2 (.cells #[.int .u64 sg, .int .u64 se, .int .u64 sf, .int .u64 sl] 128);have g3 := World.alloc_heap_new w2 (.cells #[.int .u64 sg, .int .u64 se, .int .u64 sf, .int .u64 sl] 128);have k0 := zK hb3 k0;have k1 := zK hb3 k1;have k2 := zK hb3 k2;have hB3 := hB2.trans (hb3.mono hB2.size);have hs2 := hB2.size;have hs3 := zI k2;simp only [uU]
    cases ok
    . go_wp2_with fail
      have e : runR x first size (i + 1) = (⟨hg, he, hf, hl⟩, at') := by rw [Hstep.out]; unfold kN; rw [if_neg (by simp)]
      refine ⟨⟨i + 1, by simp, by omega, by rw [e], hB3, k0, k1, by rw [e]; exact k2⟩, ?_⟩;show 2 - (((i : Int) + 1).toNat) < 2 - ((i : Int).toNat);omega
    . have y0 := (box4 k2).1;obtain ⟨z0, z1, z2, z3⟩ := box4 g3;by_cases hlt2 : hg < sg
      . have hlt3 : (hg : Int) < (sg : Int) := by omega
        obtain ⟨y0, y1, y2, y3⟩ := box4 k2;have f1 : ∀ j, (w2.alloc (.cells #[.int .u64 sg, .int .u64 se, .int .u64 sf, .int .u64 sl] 128)).frozen? ⟨w.heap.size + 1 + 1, j, none⟩ = false := λ j => by simp [World.frozen?, k2]
        have hset := sU (by rfl) (.int .u64 sg) (.int .u64 se) (.int .u64 sf) (.int .u64 sl) k2;have hX : Ext (· = w.heap.size + 1 + 1) (w2.alloc (.cells #[.int .u64 sg, .int .u64 se, .int .u64 sf, .int .u64 sl] 128)) (((((w2.alloc (.cells #[.int .u64 sg, .int .u64 se, .int .u64 sf, .int .u64 sl] 128)).setCell ⟨w.heap.size + 1 + 1, 0, none⟩ (.int .u64 sg)).setCell ⟨w.heap.size + 1 + 1, 1, none⟩ (.int .u64 se)).setCell ⟨w.heap.size + 1 + 1, 2, none⟩ (.int .u64 sf)).setCell ⟨w.heap.size + 1 + 1, 3, none⟩ (.int .u64 sl)) :=
         (((Ext.setCell (S := (· = w.heap.size + 1 + 1)) (p := ⟨w.heap.size + 1 + 1, 0, none⟩) rfl _).trans (Ext.setCell (S := (· = w.heap.size + 1 + 1)) (p := ⟨w.heap.size + 1 + 1, 1, none⟩) rfl _) (λ _ _ h => h)).trans (Ext.setCell (S := (· = w.heap.size + 1 + 1)) (p := ⟨w.heap.size + 1 + 1, 2, none⟩) rfl _) (λ _ _ h => h)).trans (Ext.setCell (S := (· = w.heap.size + 1 + 1)) (p := ⟨w.heap.size + 1 + 1, 3, none⟩) rfl _) (λ _ _ h => h)
        have HS := zB (zC hset hX);clear hset hX
        go_wp2_with fail
        have hset := HS.out.1;have hX := HS.out.2;clear HS y0 y1 y2 y3 z0 z1 z2 z3 f1;generalize World.setCell _ ⟨w.heap.size + 1 + 1, 3, none⟩ _ = We at hset hX ⊢;have e : runR x first size (i + 1) = (⟨sg, se, sf, sl⟩, (i : Int)) := by rw [Hstep.out]; unfold kN; rw [if_pos ⟨rfl, hlt2⟩]
        refine ⟨⟨i + 1, by simp, by omega, by rw [e], hB3.trans (hX.to_belowAt hB3.size λ k hk => by omega), hX.heap k0 (by omega), hX.heap k1 (by omega), by rw [e]; exact hset⟩, ?_⟩;show 2 - (((i : Int) + 1).toNat) < 2 - ((i : Int).toNat);omega
      . have hlt3 : ¬ ((hg : Int) < (sg : Int)) := by omega
        go_wp2_with fail
        have e : runR x first size (i + 1) = (⟨hg, he, hf, hl⟩, at') := by rw [Hstep.out]; unfold kN; rw [if_neg (by rintro ⟨-, h⟩; exact hlt2 h)]
        refine ⟨⟨i + 1, by simp, by omega, by rw [e], hB3, k0, k1, by rw [e]; exact k2⟩, ?_⟩;show 2 - (((i : Int) + 1).toNat) < 2 - ((i : Int).toNat);omega
  . obtain rfl : i = 2 := by omega
    obtain ⟨z0, z1, z2, z3⟩ := box4 k1;obtain ⟨y0, y1, y2, y3⟩ := box4 k2;have f1 : ∀ j, wr.frozen? ⟨w.heap.size + 1, j, none⟩ = false := λ j => by simp [World.frozen?, k1]
    have hset := sU (by rfl) (.int .u64 hg) (.int .u64 he) (.int .u64 hf) (.int .u64 hl) k1;have Hset := zB hset;clear hset
    go_wp2_with fail
    have hBe := (((hB.setCell (p := ⟨w.heap.size + 1, 0, none⟩) (Nat.le_succ _) (.int .u64 hg)).setCell (p := ⟨w.heap.size + 1, 1, none⟩) (Nat.le_succ _) (.int .u64 he)).setCell (p := ⟨w.heap.size + 1, 2, none⟩) (Nat.le_succ _) (.int .u64 hf)).setCell (p := ⟨w.heap.size + 1, 3, none⟩) (Nat.le_succ _) (.int .u64 hl);have hse := Hset.out;generalize World.setCell _ ⟨w.heap.size + 1, 3, none⟩ _ = We at hBe hse ⊢;obtain ⟨d0, d1, d2, d3⟩ := box4 hse;refine ⟨rfl, .tuple #[uU (yS x first size).1, .int .i64 (yS x first size).2], ?_, rfl, hBe⟩;rw [show yS x first size = _ from Hr.out];simp [results, Tryz.f77, go_sem, d0, d1, d2, d3, uU]
structure DOk (x : Dsk) (N : Nat) : Prop where
 ok : x.ok
 fuse : x.fuse <= 9223372036854775807 /\ -1 <= x.fuse
 vers : ∀ i, (x.cache i).length <= N
theorem DOk.mono {x : Dsk} {N M : Nat} (h : DOk x N) (hm : N <= M) : DOk x M := ⟨h.ok, h.fuse, λ i => Nat.le_trans (h.vers i) hm⟩
theorem uI (x : Dsk) : (vJ x).dur = x.dur /\ (vJ x).torn = x.torn /\ (vJ x).ks = x.ks /\ (vJ x).cache = x.cache := by
 unfold vJ; split
 . exact ⟨rfl, rfl, rfl, rfl⟩
 . split
   . exact ⟨rfl, rfl, rfl, rfl⟩
   . split <;> exact ⟨rfl, rfl, rfl, rfl⟩
theorem DOk.goes {x : Dsk} {N : Nat} (h : DOk x N) : DOk (vJ x) N := by
 obtain ⟨h1, -, -, h4⟩ := uI x;refine ⟨⟨by rw [h1]; exact h.ok.1, by rw [h4]; exact h.ok.2⟩, ?_, by rw [h4]; exact h.vers⟩;have hf := h.fuse;unfold vJ; split
 . exact hf
 . split
   . exact ⟨show (-1 : Int) <= _ by decide, Int.le_refl _⟩
   . split
     . show x.fuse - 1 <= _ /\ -1 <= x.fuse - 1;omega
     . exact hf
theorem DOk.wrote {x : Dsk} {N : Nat} (h : DOk x N) (i : Int) {bs : List Int} (hb : zO bs) : DOk (uP x i bs) (N + 1) := by
 refine ⟨⟨h.ok.1, λ j s hs => ?_⟩, h.fuse, λ j => ?_⟩
 . simp only [uP] at hs;by_cases hj : j = i
   . rw [if_pos hj] at hs;rcases List.mem_append.1 hs with hs | hs
     . exact h.ok.2 _ s hs
     . rw [List.mem_singleton.1 hs]; exact hb
   . rw [if_neg hj] at hs;exact h.ok.2 _ s hs
 . simp only [uP];by_cases hj : j = i
   . rw [if_pos hj, List.length_append, List.length_singleton];exact Nat.succ_le_succ (h.vers i)
   . rw [if_neg hj];exact Nat.le_succ_of_le (h.vers j)
theorem DOk.flushed {x : Dsk} {N : Nat} (h : DOk x N) : DOk (vT x) 0 := by
 refine ⟨⟨λ s hs => ?_, λ j s hs => by cases hs⟩, h.fuse, λ j => Nat.le_refl _⟩;simp only [vT, kW] at hs;obtain ⟨i, hi, rfl⟩ := List.mem_mapIdx.1 hs;by_cases hk : (decide ((i : Int) ∈ x.ks)) = true
 . rw [if_pos hk]
   cases hl : (x.cache i).getLast? with
   | none => exact h.ok.1 _ (List.getElem_mem _)
   | some t => exact h.ok.2 i t (List.mem_of_getLast? hl)
 . rw [if_neg hk];exact h.ok.1 _ (List.getElem_mem _)
structure Sys (w : World) (b : Bks) (x : Dsk) (N : Nat) : Prop where
 dsk : wQ w b x
 ok : DOk x N
 pkg : Pkg w
 far : ∀ k, b.all k -> 10 <= k
theorem Sys.below {w w' : World} {b : Bks} {x : Dsk} {N : Nat} (h : Sys w b x N) (hb : Below w.heap.size w w') : Sys w' b x N := ⟨h.dsk.below hb, h.ok, h.pkg.below hb, h.far⟩
theorem Sys.mono {w : World} {b : Bks} {x : Dsk} {N M : Nat} (h : Sys w b x N) (hm : N <= M) : Sys w b x M := ⟨h.dsk, h.ok.mono hm, h.pkg, h.far⟩
theorem Pkg.lt {w : World} (h : Pkg w) : 10 <= w.heap.size := block_lt_of_cell (a := ⟨9, 0, none⟩) (h.tab 0 (by decide))
theorem Pkg.ext {w w' : World} {S : Nat -> Prop} (h : Pkg w) (hX : Ext S w w') (hS : ∀ k, S k -> 10 <= k) : Pkg w' := by
 have hn : ∀ k, k < 10 -> ¬ S k := λ k hk hs => by have := hS k hs; omega
 have hf : ∀ {g a n}, g < 10 -> tX w g a n -> tX w' g a n := λ hg h => ⟨hX.cell_some h.1 (hn _ hg), hX.cell_some h.2 (hn _ hg)⟩;exact ⟨λ j hj => hX.cell_some (h.tab j hj) (hn 9 (by decide)), hf (by decide) h.number, hf (by decide) h.pieceEpoch, hf (by decide) h.bytes, hf (by decide) h.index, hf (by decide) h.size, hf (by decide) h.generation, hf (by decide) h.headEpoch, hf (by decide) h.first, hf (by decide) h.least⟩
theorem wQ.ext {w w' : World} {b : Bks} {x : Dsk} {S : Nat -> Prop} (h : wQ w b x) (hX : Ext S w w') (hS : ∀ k, b.all k -> ¬ S k) : wQ w' b x := h.keep λ k hk => hX.block k (h.lt k hk) (hS k hk)
theorem Sys.ext {w w' : World} {b : Bks} {x : Dsk} {N : Nat} {S : Nat -> Prop} (h : Sys w b x N) (hX : Ext S w w') (hS : ∀ k, S k -> 10 <= k /\ ¬ b.all k) : Sys w' b x N :=
 ⟨h.dsk.ext hX λ k hk hs => (hS k hs).2 hk, h.ok, h.pkg.ext hX λ k hk => (hS k hk).1, h.far⟩
def wH (w : World) (b : Bks) (x' : Dsk) (N : Nat) (w' : World) : Prop := ∃ b' : Bks, b'.d = b.d /\ (∀ k, b'.all k -> b.all k \/ w.heap.size <= k) /\ Ext b.all w w' /\ Sys w' b' x' N
theorem wH.trans {w w1 w2 : World} {b b1 : Bks} {x2 : Dsk} {N2 : Nat} (hd : b1.d = b.d) (ha : ∀ k, b1.all k -> b.all k \/ w.heap.size <= k) (hX : Ext b.all w w1) (h2 : wH w1 b1 x2 N2 w2) : wH w b x2 N2 w2 := by
 obtain ⟨b2, d2, a2, X2, S2⟩ := h2;refine ⟨b2, d2.trans hd, λ k hk => ?_, hX.trans X2 λ k hk h => ?_, S2⟩
 . rcases a2 k hk with h | h
   . exact ha k h
   . exact .inr (Nat.le_trans hX.size h)
 . rcases ha k h with h | h
   . exact h
   . omega
theorem wH.of_below {w w1 w2 : World} {b : Bks} {x2 : Dsk} {N2 : Nat} (hb : Below w.heap.size w w1) (h2 : wH w1 b x2 N2 w2) : wH w b x2 N2 w2 :=
 .trans rfl (λ k h => .inl h) (Ext.of_below hb) h2
theorem wH.same {w w' : World} {b : Bks} {x : Dsk} {N : Nat} (h : Sys w b x N) (hb : Below w.heap.size w w') : wH w b x N w' := ⟨b, rfl, λ k h => .inl h, Ext.of_below hb, h.below hb⟩
theorem wH.mono {w w' : World} {b : Bks} {x : Dsk} {N M : Nat} (h : wH w b x N w') (hm : N <= M) : wH w b x M w' := by
 obtain ⟨b', h1, h2, h3, h4⟩ := h;exact ⟨b', h1, h2, h3, h4.mono hm⟩
def vP (x : Dsk) (i : Nat) (bs : List Int) : Dsk := if vC x then uP (vJ x) i bs else vJ x
def uO (x : Dsk) : Int := if vC x then 0 else 5
def uC (x : Dsk) : Dsk := if vC x then vT (vJ x) else vJ x
theorem iW (b : Bks) (x : Dsk) (N i : Nat) (hi : i < x.dur.length) (v : Value) (bs : List Int) (hl : bs.length = 128) (hb : zO bs) (w : World) (h : Sys w b x N) (hN : N <= 1099511627775) (hs : Src w v (u8s bs)) :
 Calls Tryz.prog 79 #[.pointer (some ⟨b.d, 0, none⟩), .int .i64 i, v] w λ e w' => e = .returned (.int .i64 (uO x)) /\ wH w b (vP x i bs) (N + 1) w' := by
 refine (write_any b x i hi v bs hl w h.dsk h.ok.fuse hs (Nat.le_trans (h.ok.vers i) hN)).mono ?_;rintro e w' ⟨b', hd, ha, hX, (⟨hg, rfl, hD⟩ | ⟨hg, rfl, hD⟩)⟩
 . refine ⟨by simp [uO, hg], b', hd, ha, hX, ?_⟩;have : vP x i bs = uP (vJ x) i bs := by simp [vP, hg]
   rw [this];exact ⟨hD, h.ok.goes.wrote _ hb, h.pkg.ext hX h.far, λ k hk => (ha k hk).elim (h.far k) λ h2 => Nat.le_trans h.pkg.lt h2⟩
 . refine ⟨by simp [uO, hg], b', hd, ha, hX, ?_⟩;have : vP x i bs = vJ x := by simp [vP, hg]
   rw [this];exact ⟨hD, h.ok.goes.mono (Nat.le_succ _), h.pkg.ext hX h.far, λ k hk => (ha k hk).elim (h.far k) λ h2 => Nat.le_trans h.pkg.lt h2⟩
def mC (x : Dsk) (N : Nat) : Nat := if vC x then 0 else N
theorem gS (b : Bks) (x : Dsk) (N : Nat) (w : World) (h : Sys w b x N) :
 Calls Tryz.prog 80 #[.pointer (some ⟨b.d, 0, none⟩)] w λ e w' => e = .returned (.int .i64 (uO x)) /\ wH w b (uC x) (mC x N) w' := by
 refine (flush_any b x w h.dsk h.ok.fuse).mono ?_;rintro e w' ⟨b', hd, ha, hX, (⟨hg, rfl, hD⟩ | ⟨hg, rfl, hD⟩)⟩
 . refine ⟨by simp [uO, hg], b', hd, λ k hk => .inl (ha k hk), hX, ?_⟩;have : uC x = vT (vJ x) := by simp [uC, hg]
   rw [this, show mC x N = 0 by simp [mC, hg]];exact ⟨hD, h.ok.goes.flushed, h.pkg.ext hX h.far, λ k hk => h.far k (ha k hk)⟩
 . refine ⟨by simp [uO, hg], b', hd, λ k hk => .inl (ha k hk), hX, ?_⟩;have : uC x = vJ x := by simp [uC, hg]
   rw [this, show mC x N = N by simp [mC, hg]];exact ⟨hD, h.ok.goes, h.pkg.ext hX h.far, λ k hk => h.far k (ha k hk)⟩
theorem nJ (x : Dsk) (i : Nat) (bs : List Int) : (vP x i bs).dur = x.dur := by
 unfold vP; split
 . exact (uI x).1
 . exact (uI x).1
theorem sE (x : Dsk) : (uC x).dur.length = x.dur.length := by
 unfold uC; split
 . simp [vT, kW, (uI x).1]
 . rw [(uI x).1]
def layX (x : Dsk) (i : Nat) (bs : List Int) : Dsk := if vC x then uC (vP x i bs) else vP x i bs
def layE (x : Dsk) (i : Nat) (bs : List Int) : Int := if vC x then uO (vP x i bs) else 5
def layN (x : Dsk) (i : Nat) (bs : List Int) (N : Nat) : Nat := if layE x i bs = 0 then 0 else N + 1
theorem sL (x : Dsk) (i : Nat) (bs : List Int) : (layX x i bs).dur.length = x.dur.length := by
 unfold layX; split
 . rw [sE, nJ]
 . rw [nJ]
theorem lay_any (b : Bks) (x : Dsk) (N first size i : Nat) (hi : i < x.dur.length) (v : Value) (bs : List Int) (hl : bs.length = 128) (hb : zO bs) (w : World) (h : Sys w b x N) (hN : N <= 1099511627775) (hs : Src w v (u8s bs)) :
 Calls Tryz.prog 78 #[vH b first size, .int .i64 i, v] w λ e w' => e = .returned (.int .i64 (layE x i bs)) /\ wH w b (layX x i bs) (layN x i bs N) w' := by
 have hb0 := zQ w (.cells #[.pointer (some ⟨b.d, 0, none⟩), .int .i64 first, .int .i64 size] 126);have g0 := World.alloc_heap_new w (.cells #[.pointer (some ⟨b.d, 0, none⟩), .int .i64 first, .int .i64 size] 126);have HW := zB (iW b x N i hi v bs hl hb _ (h.below hb0) hN (hs.below hb0));have hfar := h.far;have hlt := h.dsk.lt;have Hsame := zB h;clear hs h;unfold vH;go_enter Tryz.func78, Tryz.ntmps78
 go_wp2_with fail
 generalize w.alloc (.cells #[.pointer (some ⟨b.d, 0, none⟩), .int .i64 first, .int .i64 size] 126) = w1 at hb0 g0 HW ⊢;have c0 : w1.cell? ⟨w.heap.size, 0, none⟩ = some (.pointer (some ⟨b.d, 0, none⟩)) := by simp [World.cell?, g0]
 refine HW.out.mono ?_;rintro e w2 ⟨rfl, b2, hd2, ha2, hX2, hS2⟩;have hnw : ¬ b.all w.heap.size := λ h => Nat.lt_irrefl _ (hlt _ h);have c0 := hX2.cell_some c0 hnw
 cases hg : vC x
 . have e1 : uO x = 5 := by simp [uO, hg]
   have e2 : layE x i bs = 5 := by simp [layE, hg]
   have e3 : layX x i bs = vP x i bs := by simp [layX, hg]
   have HE := zB (zC e2 e3);rw [e1];have HS2 := zB hS2;clear e1 e2 e3 hg hS2
   go_wp2_with fail
   go_ret
   rw [HE.out.1, HE.out.2, show layN x i bs N = N + 1 by simp [layN, HE.out.1]];exact ⟨rfl, .of_below hb0 ⟨b2, hd2, ha2, hX2, HS2.out⟩⟩
 . have e1 : uO x = 0 := by simp [uO, hg]
   have e2 : layE x i bs = uO (vP x i bs) := by simp [layE, hg]
   have e3 : layX x i bs = uC (vP x i bs) := by simp [layX, hg]
   have HE := zB (zC e2 e3);rw [e1];have HF := zB (gS b2 (vP x i bs) (N + 1) w2 hS2);rw [hd2] at HF;clear e1 e2 e3 hg hS2
   go_wp2_with fail
   refine HF.out.mono ?_;rintro e w3 ⟨rfl, hP3⟩
   go_wp2_with fail
   go_ret
   rw [HE.out.1, HE.out.2];refine ⟨rfl, .of_below hb0 (.trans hd2 ha2 hX2 (hP3.mono ?_))⟩;unfold layN mC;rw [HE.out.1];unfold uO
   cases vC (vP x i bs) <;> simp
def Head.ok (h : Head) : Prop := h.gen < 18446744073709551616 /\ h.epoch < 18446744073709551616 /\ h.first < 18446744073709551616 /\ h.least < 18446744073709551616
def yR (h : Head) (size : Nat) : List Int := tM (rU h size)
theorem mB (bs : List Int) : zO (tN bs) := by
 have hr := crc_range bs;intro b hb;simp only [tN, List.mem_cons, List.not_mem_nil, or_false] at hb;omega
theorem pU (bs : List Int) : (tN bs).length = 4 := rfl
theorem headRaw_ok (h : Head) (size : Nat) : (rU h size).length = 124 /\ zO (rU h size) := by
 have h0 : (yX ++ yN 120).length = 124 := by simp [yX, wF]
 have b0 : zO (yX ++ yN 120) := uN.1.append (uL _);unfold rU;refine ⟨?_, ((((b0.lay (yK _ _)).lay (yK _ _)).lay (yK _ _)).lay (yK _ _)).lay (yK _ _)⟩;have s1 : ∀ {bs : List Int} {at' : Nat} {D : List Int}, bs.length = 124 -> at' + D.length <= 124 -> (layB bs at' D).length = 124 := λ h1 h2 => by rw [mV (by omega), h1]
 refine s1 (s1 (s1 (s1 (s1 h0 ?_) ?_) ?_) ?_) ?_ <;> rw [yI] <;> decide
theorem gQ (h : Head) (size : Nat) : (yR h size).length = 128 /\ zO (yR h size) :=
 ⟨by simp [yR, tM, (headRaw_ok h size).1, pU], (headRaw_ok h size).2.append (mB _)⟩
theorem kR (b : Bks) (x : Dsk) (N first size : Nat) (hd : Head) (hh : hd.ok) (hi : first + 1 < x.dur.length) (hs : size <= 65536) (w : World) (h : Sys w b x N) (hN : N <= 1099511627775) :
 Calls Tryz.prog 81 #[vH b first size, uU hd] w λ e w' => e = .returned (.int .i64 (layE x (first + hd.gen % 2) (yR hd size))) /\ wH w b (layX x (first + hd.gen % 2) (yR hd size)) (layN x (first + hd.gen % 2) (yR hd size) N) w' := by
 have hlim := h.dsk.lim;have hlt := h.dsk.lt;have H := zB h;obtain ⟨h1, h2, h3, h4⟩ := hh;have HT := zB λ w' (hw : Below w.heap.size w w') => htext_any hd size hs h1 h2 h3 h4 w' (h.pkg.below hw);obtain ⟨hg, he, hf, hl⟩ := hd;obtain ⟨hb, g0, g1⟩ := qV w (.cells #[.pointer (some ⟨b.d, 0, none⟩), .int .i64 first, .int .i64 size] 126) (.cells #[.int .u64 hg, .int .u64 he, .int .u64 hf, .int .u64 hl] 128);have hm : first + hg % 2 < x.dur.length := by omega
 have hm1 : (hg : Int) % 2 < 2 := Int.emod_lt_of_pos _ (by decide);have hm0 : 0 <= (hg : Int) % 2 := Int.emod_nonneg _ (by decide);have q2 := IntWalk.i64_in ((hg : Int) % 2) (by omega);clear h;unfold vH uU;simp only at h1 h2 h3 h4 hm hm0 hm1 HT q2 ⊢;unfold uU at HT;simp only at HT;go_enter Tryz.func81, Tryz.ntmps81
 go_wp2_with fail
 generalize World.alloc (World.alloc w _) _ = w1 at hb g0 g1 ⊢;have c0 : w1.cell? ⟨w.heap.size, 0, none⟩ = some (.pointer (some ⟨b.d, 0, none⟩)) /\ w1.cell? ⟨w.heap.size, 1, none⟩ = some (.int .i64 first) /\ w1.cell? ⟨w.heap.size, 2, none⟩ = some (.int .i64 size) := by simp [World.cell?, g0]
 obtain ⟨p0, p1, p2⟩ := c0;obtain ⟨k0, k1, k2, k3⟩ := box4 g1;refine zR 12 (λ i => if i = 11 then some (λ v w' => ∃ ad c, v = .slice ad 128 c /\ Src w' v (u8s (yR ⟨hg, he, hf, hl⟩ size))) else none) fol (by kernel_rfl) (λ W hW hh => ?_);clear hh;have q10 := zV hW p0;have q11 := zV hW p1;have q12 := zV hW p2;have q20 := zV hW k0;have q21 := zV hW k1;have q22 := zV hW k2;have q23 := zV hW k3;simp only [fT]
 repeat ((first | refine lxM ?_ | refine lxF ?_ | refine zM rfl ?_); simp only [zD])
 refine zW _ rfl (by exact λ _ _ _ ⟨ad, c, h1, h2⟩ hb => ⟨ad, c, h1, h2.below hb⟩) rfl (λ w1 hb1 hf1 => ?_) ?_
 . (unfold yE; go_simp; simp only [zN])
   refine (HT.out _ (zF hb (zF hW hb1))).mono ?_;rintro e w' ⟨u, rfl, hown, hbb⟩;obtain ⟨g, c, rfl, -⟩ := xB hown (by decide);exact ⟨_, rfl, hbb, ⟨_, _, rfl⟩, Src.of_owns hown⟩
 rintro v9 W4 hB9 ⟨ad, c, rfl, hsrc⟩;simp only [zD]
 repeat ((first | refine lxM ?_ | refine lxF ?_ | refine zM rfl ?_); simp only [zD])
 refine zZ ?_;have hB4 : Below w.heap.size w W4 := zF hb (zF hW hB9);have HL := zB (lay_any b x N first size (first + hg % 2) hm (.slice ad 128 c) (yR ⟨hg, he, hf, hl⟩ size) (gQ _ _).1 (gQ _ _).2 W4 (H.out.below hB4) hN hsrc);unfold vH at HL;clear q10 q11 q12 q20 q21 q22 q23 hsrc
 go_wp2_with fail
 rw [show (first : Int) + (hg : Int) % 2 = ((first + hg % 2 : Nat) : Int) by omega];refine HL.out.mono ?_;rintro e w' ⟨rfl, hP⟩
 go_wp2_with fail
 go_ret
 exact ⟨rfl, .of_below hB4 hP⟩
end Go.Proofs.YtbjofbhhnmehgaaGreatDoor.TT
