/-
  What the walk of the law PagesBlind goes by.
-/
import Derived.Test.YtagcohpghgnalaaCW7U
import Derived.Test.YtagcohpghgnalaaCW7S
import Derived.Test.YtagcohpghgnalaaCGB
import Derived.Test.YtagcohpghgnalaaCGC
set_option linter.unusedSimpArgs false
set_option linter.unusedVariables false
namespace Go.Proofs.Ytagcohpghgnalaa.LB
open Go.RowKit Go.RG Go.Hp Go.Pg Go.Proofs.Ytagcohpghgnalaa



theorem num_any (e : Int) (w : World) : Calls Try.prog 18 #[.int .i64 e] w fun e' w' => e' = .returned (.int .i64 e) ∧ w = w' := by
  go_enter Try.func18, Try.ntmps18
  go_wp2
  go_ret
  exact ⟨rfl, rfl⟩

/-- the text of a number's low byte -/
def txt (v : Int) : Value := .string ⟨#[UInt8.ofNat (v % 256).toNat]⟩
theorem txt_neq (x : Int) (w : World) : (binOp .neq 9 (txt x) (txt x)).run Try.prog w = .ok (.bool false) w := by
  unfold txt
  rw [binOp_string_neq, beq_self_eq_true]
  rfl
theorem txt_guard (x : Int) (a b : Operand) (w : World) : (eqGuard .neq 9 a b (txt x) (txt x)).run Try.prog w = .ok () w := by
  unfold txt
  rfl
theorem conv_one (W : World) (b : Nat) (hb : b = W.heap.size) (v : Int) :
    (convert 43 9 (.slice (some ⟨b, 0, none⟩) 1 1)).run Try.prog (W.alloc (.cells #[.int .u8 (v % 256)] 5)) = .ok (txt v) (W.alloc (.cells #[.int .u8 (v % 256)] 5)) := by
  subst hb
  refine run_convert_bytes_back (P := Try.prog) _ 43 9 5 ⟨W.heap.size, 0, none⟩ 1 [UInt8.ofNat (v % 256).toNat] (by kernel_rfl) (by kernel_rfl) (by kernel_rfl) fun j hj => ?_
  obtain rfl : j = 0 := by simpa using hj
  have hr : Row (W.alloc (.cells #[.int .u8 (v % 256)] 5)) W.heap.size 5 [.int .u8 (v % 256)] := row_new W _ _
  rw [Addr.add_lit, Nat.zero_add, hr.cell]
  have e : ((UInt8.ofNat (v % 256).toNat).toNat : Int) = v % 256 := by
    have h1 := Int.emod_nonneg v (show (256 : Int) ≠ 0 by decide)
    have h2 := Int.emod_lt_of_pos v (show (0 : Int) < 256 by decide)
    rw [UInt8.toNat_ofNat', Nat.mod_eq_of_lt (by omega)]
    omega
  show some (Value.int .u8 (v % 256)) = some (.int .u8 (((UInt8.ofNat (v % 256).toNat).toNat : Nat) : Int))
  rw [e]

/-- a call of a script -/
structure Opd where
  kind : Int
  s : St
  v : Int
def OpsAt (w : World) (a : Option Addr) (n : Nat) (ops : Nat → Opd) : Prop := ∀ i, i < n → ∃ pb po, a = some ⟨pb, po, none⟩ ∧
  w.cell? ⟨pb, po + i * 4, none⟩ = some (.int .i64 (ops i).kind) ∧ w.cell? ⟨pb, po + i * 4 + 1, none⟩ = some (.int .u64 (ops i).s.t) ∧ w.cell? ⟨pb, po + i * 4 + 2, none⟩ = some (.int .u64 (ops i).s.s) ∧ w.cell? ⟨pb, po + i * 4 + 3, none⟩ = some (.int .u64 (ops i).v)

/-- what the loop asks of the two indexes (x: numbers, y: texts), kept by I: behind so many calls, with S the blocks that may change -/
structure Duo (B : Nat) (xv yv : Value) (I : (Nat → Prop) → Nat → World → Prop) : Prop where
  own : ∀ S i w, I S i w → ∀ k, S k → B ≤ k ∧ k < w.heap.size
  keep : ∀ S i w w', I S i w → Below w.heap.size w w' → I S i w'
  more : ∀ S i w, I S i w → I S (i + 1) w
  put : ∀ S i w s v, I S i w → i < 1099511 → Calls Try.prog 24 #[xv, St.v s, .int .u64 v] w fun e w1 => ∃ b, e = .returned (.bool b) ∧ Ext S w w1 ∧
    Calls Try.prog 25 #[yv, St.v s, txt v] w1 fun e w2 => e = .returned (.bool b) ∧ Ext S w1 w2 ∧ ∃ S', I S' (i + 1) w2
  rem : ∀ S i w s, I S i w → i < 1099511 → Calls Try.prog 26 #[xv, St.v s] w fun e w1 => ∃ a b, e = .returned (.tuple #[a, .bool b]) ∧ Ext S w w1 ∧
    Calls Try.prog 27 #[yv, St.v s] w1 fun e w2 => ∃ a', e = .returned (.tuple #[a', .bool b]) ∧ Ext S w1 w2 ∧ ∃ S', I S' (i + 1) w2
  get : ∀ S i w s, I S i w → i < 1099511 → ∃ x b, (Calls Try.prog 28 #[xv, St.v s] w fun e w1 => e = .returned (.tuple #[.int .u64 x, .bool b]) ∧ Below w.heap.size w w1) ∧
    ∀ w1, Below w.heap.size w w1 → Calls Try.prog 29 #[yv, St.v s] w1 fun e w2 => e = .returned (.tuple #[if b then txt x else .string .empty, .bool b]) ∧ Below w1.heap.size w1 w2
  plc : ∀ S i w s, I S i w → i < 1099511 → ∃ p q b, (Calls Try.prog 30 #[xv, St.v s] w fun e w1 => e = .returned (.tuple #[.int .i64 p, .int .i64 q, .bool b]) ∧ Below w.heap.size w w1) ∧
    ∀ w1, Below w.heap.size w w1 → Calls Try.prog 31 #[yv, St.v s] w1 fun e w2 => e = .returned (.tuple #[.int .i64 p, .int .i64 q, .bool b]) ∧ Below w1.heap.size w1 w2
  pgs : ∀ S i w, I S i w → i < 1099511 → ∃ l : List Int, l.length ≤ 1099511 ∧ (Calls Try.prog 32 #[xv] w fun e w1 => ∃ v, e = .returned v ∧ w1.ownsRow w.heap.size 3 1 v l.length (l.map fun x => .int .i64 x) ∧ Below w.heap.size w w1) ∧
    ∀ w1, Below w.heap.size w w1 → Calls Try.prog 33 #[yv] w1 fun e w2 => ∃ v, e = .returned v ∧ w2.ownsRow w1.heap.size 3 1 v l.length (l.map fun x => .int .i64 x) ∧ Below w1.heap.size w1 w2
  len : ∀ S i w, I S i w → i < 1099511 → ∃ m : Int, (Calls Try.prog 34 #[xv] w fun e w1 => e = .returned (.int .i64 m) ∧ w = w1) ∧ (Calls Try.prog 35 #[yv] w fun e w1 => e = .returned (.int .i64 m) ∧ w = w1)

/-- between the two Puts -/
def PutMid (I : (Nat → Prop) → Nat → World → Prop) (S : Nat → Prop) (X : World) (yv : Value) (s : St) (v : Int) (i : Nat) : RG.Spec := fun u w1 => ∃ b, u = .bool b ∧ Ext S X w1 ∧
  Calls Try.prog 25 #[yv, .agg #[.int .u64 s.t, .int .u64 s.s], txt v] w1 fun e w2 => e = .returned (.bool b) ∧ Ext S w1 w2 ∧ ∃ S', I S' (i + 1) w2
end Go.Proofs.Ytagcohpghgnalaa.LB
