/- What the machine's small parts answer on floats and on their words. -/
import Derived.Test.YtchmioacjkbfcaaGreatMe
import Derived.Test.YtchmioacjkbfcaaGreatMd
namespace Go.Proofs.YtchmioacjkbfcaaGreat.AI
open Go
set_option linter.unusedVariables false
set_option linter.unusedSimpArgs false

def fEq (a b : Nat) : Bool := decide (¬isN a ∧ ¬isN b ∧ fval a = fval b)
theorem fEq_self (a : Nat) : fEq a a = decide (¬isN a) := by unfold fEq; congr 1; apply propext; constructor <;> intro h <;> simp_all
section
variable (P : Program) (t : TypeId) (x y : Operand) (a b : Nat)
theorem eqGuard_float (op : BinOp) : eqGuard op t x y (.float .f64 a) (.float .f64 b) = pure () := by
  cases op <;> rfl
@[simp] theorem binV_flss : binV P .lss t x y (.float .f64 a) (.float .f64 b) = some (.bool (fLess a b)) := by
  unfold binV
  rw [eqGuard_float]
  show one (some (Value.bool (Ieee.double.order a b == some .lt))) = _
  rw [f_lt]; rfl
@[simp] theorem binV_fgtr : binV P .gtr t x y (.float .f64 a) (.float .f64 b) = some (.bool (fLess b a)) := by
  unfold binV
  rw [eqGuard_float]
  show one (some (Value.bool (Ieee.double.order a b == some .gt))) = _
  rw [f_gt]
  unfold fLess
  show some (Value.bool _) = _
  congr 2
  apply decide_eq_decide.mpr
  constructor <;> (rintro ⟨h1, h2, h3⟩; exact ⟨h2, h1, h3⟩)
@[simp] theorem binV_feql : binV P .eql t x y (.float .f64 a) (.float .f64 b) = some (.bool (fEq a b)) := by
  unfold binV
  rw [eqGuard_float]
  show one (some (Value.bool (Ieee.double.order a b == some .eq))) = _
  rw [f_eq]; rfl
@[simp] theorem binV_fneq : binV P .neq t x y (.float .f64 a) (.float .f64 b) = some (.bool (!fEq a b)) := by
  unfold binV
  rw [eqGuard_float]
  show one (some (Value.bool (!(Ieee.double.order a b == some .eq)))) = _
  rw [f_eq]; rfl
@[simp] theorem binV_fleq : binV P .leq t x y (.float .f64 a) (.float .f64 b) = some (.bool (fLess a b || fEq a b)) := by
  unfold binV
  rw [eqGuard_float]
  show one (some (Value.bool (Ieee.double.order a b == some .lt || Ieee.double.order a b == some .eq))) = _
  rw [f_eq, f_lt]; rfl
end
/-! ### words -/
section
variable (P : Program) (t : TypeId) (x y : Operand)
theorem wrapu64_nat (n : Nat) (h : n < 18446744073709551616) : IntKind.u64.wrap (n : Int) = n := wrapu64 (by omega) (by omega)
theorem binV_or_top (n : Nat) (h : n < 9223372036854775808) : binV P .or t x y (.int .u64 (n : Int)) (.int .u64 9223372036854775808) = some (.int .u64 ((n + 9223372036854775808 : Nat) : Int)) := by
  rw [binV_or]
  show some (Value.int .u64 (IntKind.u64.wrap ((BitVec.ofInt 64 (n : Int) ||| BitVec.ofInt 64 9223372036854775808).toNat : Nat))) = _
  rw [bv_or_top n h, wrapu64_nat _ (by omega)]
theorem binV_and_lo (n : Nat) (h : n < 9223372036854775808) : binV P .and t x y (.int .u64 (n : Int)) (.int .u64 9223372036854775808) = some (.int .u64 0) := by
  rw [binV_and]
  show some (Value.int .u64 (IntKind.u64.wrap ((BitVec.ofInt 64 (n : Int) &&& BitVec.ofInt 64 9223372036854775808).toNat : Nat))) = _
  rw [bv_and_top_lo n h]
  rfl
theorem binV_and_hi (n : Nat) (h : 9223372036854775808 ≤ n) (h' : n < 18446744073709551616) : binV P .and t x y (.int .u64 (n : Int)) (.int .u64 9223372036854775808) = some (.int .u64 9223372036854775808) := by
  rw [binV_and]
  show some (Value.int .u64 (IntKind.u64.wrap ((BitVec.ofInt 64 (n : Int) &&& BitVec.ofInt 64 9223372036854775808).toNat : Nat))) = _
  rw [bv_and_top_hi n h h']
  rfl
theorem binV_clear (n : Nat) (h : n < 18446744073709551616) : binV P .andNot t x y (.int .u64 (n : Int)) (.int .u64 9223372036854775808) = some (.int .u64 ((n % 9223372036854775808 : Nat) : Int)) := by
  rw [binV_int P t x y .u64 (n : Int) 9223372036854775808 .andNot (by decide) (by decide)]
  show some (Value.int .u64 (IntKind.u64.wrap ((BitVec.ofInt 64 (n : Int) &&& ~~~(BitVec.ofInt 64 9223372036854775808)).toNat : Nat))) = _
  rw [bv_clear_top n h, wrapu64_nat _ (by omega)]
theorem bv_not (n : Nat) (h : n < 18446744073709551616) : (BitVec.ofInt 64 18446744073709551615 ^^^ BitVec.ofInt 64 (n : Int)).toNat = 18446744073709551615 - n := by
  have e : BitVec.ofInt 64 18446744073709551615 = BitVec.allOnes 64 := by decide
  rw [e, BitVec.allOnes_xor, BitVec.toNat_not, BitVec.toNat_ofInt]
  have e1 : (((n : Int) % ((2 ^ 64 : Nat) : Int)).toNat) = n := by omega
  rw [e1]
theorem unV_not64 (n : Nat) (h : n < 18446744073709551616) : unV P .xor (.int .u64 (n : Int)) = some (.int .u64 ((18446744073709551615 - n : Nat) : Int)) := by
  show some (Value.int .u64 (IntKind.u64.wrap ((BitVec.ofInt 64 18446744073709551615 ^^^ BitVec.ofInt 64 (n : Int)).toNat : Nat))) = _
  rw [bv_not n h, wrapu64_nat _ (by omega)]
/-- A float turned. -/
def nw (w : Nat) : Nat := if w < 9223372036854775808 then w + 9223372036854775808 else w - 9223372036854775808
theorem xor_top (w : Nat) (h : w < 18446744073709551616) : w ^^^ 2 ^ 63 = nw w := by
  unfold nw
  by_cases h1 : w < 9223372036854775808
  · rw [if_pos h1]
    have e : w + 9223372036854775808 = 2 ^ 63 * 1 + w := by omega
    rw [e, Nat.two_pow_add_eq_or_of_lt (by omega)]
    apply Nat.eq_of_testBit_eq
    intro i
    rw [Nat.testBit_xor, Nat.testBit_or, Nat.mul_one, Nat.testBit_two_pow]
    by_cases hi : 63 = i
    · subst hi
      rw [Nat.testBit_lt_two_pow (by omega)]
      rfl
    · simp [hi]
  · rw [if_neg h1]
    obtain ⟨m, rfl⟩ : ∃ m, w = 2 ^ 63 * 1 + m := ⟨w - 2 ^ 63, by omega⟩
    have e : 2 ^ 63 * 1 + m - 9223372036854775808 = m := by omega
    rw [e, Nat.two_pow_add_eq_or_of_lt (by omega)]
    apply Nat.eq_of_testBit_eq
    intro i
    rw [Nat.testBit_xor, Nat.testBit_or, Nat.mul_one, Nat.testBit_two_pow]
    by_cases hi : 63 = i
    · subst hi
      rw [Nat.testBit_lt_two_pow (show m < 2 ^ 63 by omega)]
      rfl
    · simp [hi]
theorem unV_fneg (w : Nat) (h : w < 18446744073709551616) : unV P .neg (.float .f64 w) = some (.float .f64 (nw w)) := by
  rw [← xor_top w h]; rfl
end
theorem nearest_lt (n : Int) : FloatKind.f64.nearest n < 18446744073709551616 := by
  have e1 : Ieee.double.signWeight = 9223372036854775808 := by decide
  have e3 : Ieee.double.infRung = 9218868437227405312 := by decide
  have hw : ∀ (s : Bool) (r : Nat), r ≤ 9218868437227405312 → Ieee.double.word s r < 18446744073709551616 := by
    intro s r hr
    unfold Ieee.Format.word
    rw [e1]
    split <;> omega
  have key : ∀ (s : Bool) (m : Nat) (p : Int), Ieee.double.nearest s m p < 18446744073709551616 := by
    intro s m p
    unfold Ieee.Format.nearest
    split
    · exact hw _ _ (by omega)
    · rw [e3]
      exact hw _ _ (Nat.min_le_right _ _)
  exact key (decide (n < 0)) n.natAbs 0
end Go.Proofs.YtchmioacjkbfcaaGreat.AI
