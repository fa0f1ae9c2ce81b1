/- The key of a float: bits by numbers; which keys are a float's. No program in sight. -/
import Derived.Test.YtalnoedhacobkaaFlo
import GoSem.Core.View
namespace Go.Proofs.Ytalnoedhacobkaa.AI
open Go
set_option linter.unusedVariables false
set_option linter.unusedSimpArgs false

/-! ### the highest bit of a word -/
theorem bv_or_top (n : Nat) (h : n < 9223372036854775808) : (BitVec.ofInt 64 (n : Int) ||| BitVec.ofInt 64 9223372036854775808).toNat = n + 9223372036854775808 := by
  rw [BitVec.toNat_or, BitVec.toNat_ofInt, BitVec.toNat_ofInt]
  have e1 : (((n : Int) % ((2 ^ 64 : Nat) : Int)).toNat) = n := by omega
  have e2 : (((9223372036854775808 : Int) % ((2 ^ 64 : Nat) : Int)).toNat) = 2 ^ 63 * 1 := by decide
  rw [e1, e2, Nat.or_comm, ← Nat.two_pow_add_eq_or_of_lt (by simpa using h)]
  omega
theorem bv_and_top_lo (n : Nat) (h : n < 9223372036854775808) : (BitVec.ofInt 64 (n : Int) &&& BitVec.ofInt 64 9223372036854775808).toNat = 0 := by
  rw [BitVec.toNat_and, BitVec.toNat_ofInt, BitVec.toNat_ofInt]
  have e1 : (((n : Int) % ((2 ^ 64 : Nat) : Int)).toNat) = n := by omega
  have e2 : (((9223372036854775808 : Int) % ((2 ^ 64 : Nat) : Int)).toNat) = 2 ^ 63 := by decide
  rw [e1, e2]
  apply Nat.eq_of_testBit_eq
  intro i
  rw [Nat.testBit_and, Nat.testBit_two_pow, Nat.zero_testBit]
  by_cases hi : 63 = i
  · subst hi
    rw [Nat.testBit_lt_two_pow (by simpa using h)]
    rfl
  · simp [hi]
theorem bv_and_top_hi (n : Nat) (h : 9223372036854775808 ≤ n) (h' : n < 18446744073709551616) : (BitVec.ofInt 64 (n : Int) &&& BitVec.ofInt 64 9223372036854775808).toNat = 9223372036854775808 := by
  rw [BitVec.toNat_and, BitVec.toNat_ofInt, BitVec.toNat_ofInt]
  have e1 : (((n : Int) % ((2 ^ 64 : Nat) : Int)).toNat) = n := by omega
  have e2 : (((9223372036854775808 : Int) % ((2 ^ 64 : Nat) : Int)).toNat) = 2 ^ 63 := by decide
  have e3 : (9223372036854775808 : Nat) = 2 ^ 63 := by decide
  rw [e1, e2]
  conv => rhs; rw [e3]
  obtain ⟨m, rfl⟩ : ∃ m, n = 2 ^ 63 * 1 + m := ⟨n - 2 ^ 63, by omega⟩
  rw [Nat.two_pow_add_eq_or_of_lt (by omega)]
  apply Nat.eq_of_testBit_eq
  intro i
  rw [Nat.testBit_and, Nat.testBit_or, Nat.mul_one, Nat.testBit_two_pow]
  by_cases hi : 63 = i
  · subst hi; simp
  · simp [hi]
theorem bv_clear_top (n : Nat) (h' : n < 18446744073709551616) : (BitVec.ofInt 64 (n : Int) &&& ~~~(BitVec.ofInt 64 9223372036854775808)).toNat = n % 9223372036854775808 := by
  have e2 : (~~~(BitVec.ofInt 64 9223372036854775808)).toNat = 2 ^ 63 - 1 := by decide
  rw [BitVec.toNat_and, BitVec.toNat_ofInt, e2, Nat.and_two_pow_sub_one_eq_mod]
  have e1 : (((n : Int) % ((2 ^ 64 : Nat) : Int)).toNat) = n := by omega
  rw [e1]
/-! ### keys -/
/-- The key of a word. -/
def kw (w : Nat) : Nat := if isN w then 18444492273895866369 else if w < 9223372036854775808 then w + 9223372036854775808 else 18446744073709551615 - w
/-- The word that a key would have. -/
def wk (k : Nat) : Nat := if k < 9223372036854775808 then 18446744073709551615 - k else k - 9223372036854775808
def ofOk (k : Nat) : Bool := decide (kw (wk k) = k)
theorem ofOk_iff (k : Nat) (h : k < 18446744073709551616) : ofOk k = decide ((4503599627370495 ≤ k ∧ k ≤ 18442240474082181120) ∨ k = 18444492273895866369) := by
  unfold ofOk kw wk isN
  congr 1
  apply propext
  constructor
  · intro h1
    repeat' split at h1
    all_goals omega
  · intro h1
    repeat' split
    all_goals omega
theorem kw_lt (w : Nat) (h : w < 18446744073709551616) : kw w < 18446744073709551616 := by
  unfold kw; repeat' split
  all_goals omega
theorem wk_lt (k : Nat) (h : k < 18446744073709551616) : wk k < 18446744073709551616 := by
  unfold wk; split <;> omega
theorem wk_kw {w : Nat} (h : w < 18446744073709551616) (hn : ¬isN w) : wk (kw w) = w := by
  unfold kw
  rw [if_neg hn]
  unfold wk
  repeat' split
  all_goals omega
theorem isN_wk_kw {w : Nat} (hn : isN w) : isN (wk (kw w)) := by
  unfold kw
  rw [if_pos hn]
  decide
theorem kw_wk_kw (w : Nat) (h : w < 18446744073709551616) : kw (wk (kw w)) = kw w := by
  by_cases hn : isN w
  · unfold kw
    rw [if_pos hn]
    decide
  · rw [wk_kw h hn]
/-- Where a float stands, as the document tells it. -/
def place (w : Nat) : Int := if isN w then 6 else if w = 9218868437227405312 then 5 else if w = 18442240474082181120 then 0 else if w = 9223372036854775808 then 2 else if w = 0 then 3 else if w < 9223372036854775808 then 4 else 1
def fLess (a b : Nat) : Bool := decide (¬isN a ∧ ¬isN b ∧ fval a < fval b)
def rLess (a b : Nat) : Bool := if place a = place b then fLess a b else decide (place a < place b)
theorem fval_lo {w : Nat} (h : w < 9223372036854775808) : fval w = w := by
  unfold fval; rw [if_neg (by omega), Nat.mod_eq_of_lt h]
theorem fval_hi {w : Nat} (h : 9223372036854775808 ≤ w) (h' : w < 18446744073709551616) : fval w = 9223372036854775808 - (w : Int) := by
  unfold fval; rw [if_pos (by omega)]; omega
theorem rLess_kw {a b : Nat} (ha : a < 18446744073709551616) (hb : b < 18446744073709551616) : rLess a b = decide (kw a < kw b) := by
  unfold rLess fLess
  have na : isN a ↔ 9218868437227405312 < a % 9223372036854775808 := Iff.rfl
  have nb : isN b ↔ 9218868437227405312 < b % 9223372036854775808 := Iff.rfl
  by_cases h1 : isN a
  · by_cases h2 : isN b
    · simp [place, kw, h1, h2]
    · have : place b ≠ 6 ∧ place b < 6 := by unfold place; rw [if_neg h2]; (repeat' split) <;> omega
      have p : place a = 6 := by unfold place; rw [if_pos h1]
      rw [p, if_neg (fun e => this.1 e.symm)]
      unfold kw
      rw [if_pos h1, if_neg h2]
      rw [nb] at h2
      split <;> simp <;> omega
  · by_cases h2 : isN b
    · have : place a ≠ 6 ∧ place a < 6 := by unfold place; rw [if_neg h1]; (repeat' split) <;> omega
      have p : place b = 6 := by unfold place; rw [if_pos h2]
      rw [p, if_neg this.1]
      unfold kw
      rw [if_neg h1, if_pos h2]
      rw [na] at h1
      split <;> simp <;> omega
    · simp only [h1, h2, not_false_eq_true, true_and]
      unfold kw
      rw [if_neg h1, if_neg h2]
      rw [na] at h1
      rw [nb] at h2
      have pa : place a = if a = 9218868437227405312 then 5 else if a = 18442240474082181120 then 0 else if a = 9223372036854775808 then 2 else if a = 0 then 3 else if a < 9223372036854775808 then 4 else 1 := by unfold place; rw [if_neg (show ¬isN a from h1)]
      have pb : place b = if b = 9218868437227405312 then 5 else if b = 18442240474082181120 then 0 else if b = 9223372036854775808 then 2 else if b = 0 then 3 else if b < 9223372036854775808 then 4 else 1 := by unfold place; rw [if_neg (show ¬isN b from h2)]
      by_cases la : a < 9223372036854775808
      · rw [fval_lo la, if_pos la]
        by_cases lb : b < 9223372036854775808
        · rw [fval_lo lb, if_pos lb]
          have qa : place a = if a = 9218868437227405312 then 5 else if a = 0 then 3 else 4 := by rw [pa]; (repeat' split) <;> omega
          have qb : place b = if b = 9218868437227405312 then 5 else if b = 0 then 3 else 4 := by rw [pb]; (repeat' split) <;> omega
          rw [qa, qb]
          repeat' split
          all_goals first | (congr 1; apply propext; omega) | omega
        · rw [fval_hi (by omega) hb, if_neg lb]
          have qa : 3 ≤ place a := by rw [pa]; (repeat' split) <;> omega
          have qb : place b ≤ 2 := by rw [pb]; (repeat' split) <;> omega
          rw [if_neg (by omega)]
          congr 1; apply propext; omega
      · rw [fval_hi (by omega) ha, if_neg la]
        by_cases lb : b < 9223372036854775808
        · rw [fval_lo lb, if_pos lb]
          have qa : place a ≤ 2 := by rw [pa]; (repeat' split) <;> omega
          have qb : 3 ≤ place b := by rw [pb]; (repeat' split) <;> omega
          rw [if_neg (by omega)]
          congr 1; apply propext; omega
        · rw [fval_hi (by omega) hb, if_neg lb]
          have qa : place a = if a = 18442240474082181120 then 0 else if a = 9223372036854775808 then 2 else 1 := by rw [pa]; (repeat' split) <;> omega
          have qb : place b = if b = 18442240474082181120 then 0 else if b = 9223372036854775808 then 2 else 1 := by rw [pb]; (repeat' split) <;> omega
          rw [qa, qb]
          repeat' split
          all_goals first | (congr 1; apply propext; omega) | omega
end Go.Proofs.Ytalnoedhacobkaa.AI
