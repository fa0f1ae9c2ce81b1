/- Long division by two digits of 32 bits. No program in sight. -/
namespace Go.Proofs.Ytalnoedhacobkaa.AI
set_option linter.unusedVariables false
set_option linter.unusedSimpArgs false

theorem dig_iff {y1 y0 u d q r : Nat} (hqr : q * y1 + r = u) : q * (y1 * 4294967296 + y0) ≤ u * 4294967296 + d ↔ q * y0 ≤ 4294967296 * r + d := by
  have e : q * (y1 * 4294967296 + y0) = q * y1 * 4294967296 + q * y0 := by rw [Nat.mul_add, Nat.mul_assoc]
  rw [e, ← hqr]
  generalize q * y1 = A
  generalize q * y0 = C
  constructor <;> intro h <;> omega
theorem dig_le {y1 y0 u d q r : Nat} (hy : 0 < y1 * 4294967296 + y0) (hqr : q * y1 + r = u) : q ≤ (u * 4294967296 + d) / (y1 * 4294967296 + y0) ↔ q * y0 ≤ 4294967296 * r + d := by
  rw [Nat.le_div_iff_mul_le hy]
  exact dig_iff hqr
theorem dig_lt {y u d : Nat} (hu : u < y) (hd : d < 4294967296) : (u * 4294967296 + d) / y < 4294967296 := by
  rw [Nat.div_lt_iff_lt_mul (by omega)]
  have h : (u + 1) * 4294967296 ≤ 4294967296 * y := by rw [Nat.mul_comm]; exact Nat.mul_le_mul (Nat.le_refl _) hu
  omega
/-- The first guess is not too small. -/
theorem dig_first {y1 y0 u d : Nat} (h1 : 0 < y1) (hd : d < 4294967296) : (u * 4294967296 + d) / (y1 * 4294967296 + y0) ≤ u / y1 := by
  rw [Nat.le_div_iff_mul_le h1]
  have h := Nat.div_mul_le_self (u * 4294967296 + d) (y1 * 4294967296 + y0)
  generalize (u * 4294967296 + d) / (y1 * 4294967296 + y0) = t at *
  rw [Nat.mul_add, ← Nat.mul_assoc] at h
  generalize t * y1 = A at *
  generalize t * y0 = C at *
  omega
theorem dig_guess {y1 y0 u : Nat} (h1 : 2147483648 ≤ y1) (h0 : y0 < 4294967296) (hu : u < y1 * 4294967296 + y0) : u / y1 ≤ 4294967297 := by
  have : u / y1 < 4294967298 := by
    rw [Nat.div_lt_iff_lt_mul (by omega)]
    omega
  omega
/-- Where a step comes to a great rest the guess is right. -/
theorem dig_exit {y1 y0 u d q r : Nat} (hy : 0 < y1 * 4294967296 + y0) (h0 : y0 < 4294967296) (hqr : q * y1 + r = u) (hq : q ≤ 4294967296) (hr : 4294967296 ≤ r) : q ≤ (u * 4294967296 + d) / (y1 * 4294967296 + y0) := by
  rw [dig_le hy hqr]
  have h1 : q * y0 ≤ 4294967296 * 4294967296 := Nat.mul_le_mul hq (by omega)
  omega
theorem mod_small {a b : Nat} (hb : b < 4294967296) (h : 0 < b) : a % b < 4294967296 := by
  exact Nat.lt_trans (Nat.mod_lt a h) hb
/-- Two digits of a quotient. -/
theorem two_digits (B u y : Nat) (hy : 0 < y) : (u * B / y) * B + ((u * B - (u * B / y) * y) * B) / y = u * (B * B) / y := by
  have h2 : u * B - u * B / y * y = u * B % y := by
    have h1 := Nat.div_add_mod (u * B) y
    rw [Nat.mul_comm y] at h1
    omega
  have h3 : u * (B * B) = u * B % y * B + y * (u * B / y * B) := by
    have h1 := Nat.div_add_mod (u * B) y
    rw [← Nat.mul_assoc]
    conv => lhs; rw [← h1]
    rw [Nat.add_mul, Nat.mul_assoc]
    omega
  rw [h2, h3, Nat.add_mul_div_left _ _ hy]
  omega
/-- How many bits a number has. -/
def Bl (x n : Nat) : Prop := x < 2 ^ n ∧ (n = 0 ∨ 2 ^ (n - 1) ≤ x)
theorem Bl.up {x k n : Nat} (h : Bl (x / 2 ^ k) n) (hx : 2 ^ k ≤ x) : Bl x (n + k) := by
  obtain ⟨h1, h2⟩ := h
  have hp := Nat.two_pow_pos k
  have hn : n ≠ 0 := by
    intro e
    subst e
    have : 1 ≤ x / 2 ^ k := (Nat.one_le_div_iff hp).mpr hx
    simp at h1
    omega
  refine ⟨?_, .inr ?_⟩
  · rw [Nat.pow_add]
    exact (Nat.div_lt_iff_lt_mul hp).mp h1
  · have h3 := h2.resolve_left hn
    rw [show n + k - 1 = (n - 1) + k by omega, Nat.pow_add]
    exact (Nat.le_div_iff_mul_le hp).mp h3
end Go.Proofs.Ytalnoedhacobkaa.AI
