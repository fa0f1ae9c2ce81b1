/- Floats of 64 bits: how two words stand to each other. No program in sight. -/
import GoSem.Core.Float
namespace Go.Proofs.Ytalnoedhacobkaa.AI
open Ieee
set_option linter.unusedVariables false
set_option linter.unusedSimpArgs false

/-- A word that is no number. -/
def isN (x : Nat) : Prop := 9218868437227405312 < x % 9223372036854775808
instance (x : Nat) : Decidable (isN x) := by unfold isN; infer_instance
/-- A word's place in the row, of words that are numbers: the two zeros are one. -/
def fval (x : Nat) : Int := if x / 9223372036854775808 % 2 = 1 then -((x % 9223372036854775808 : Nat) : Int) else ((x % 9223372036854775808 : Nat) : Int)
/-- A rung's magnitude. -/
def magR (r : Nat) : Nat := if r < 4503599627370496 then r else (4503599627370496 + r % 4503599627370496) * 2 ^ (r / 4503599627370496 - 1)
theorem magR_lt {a b : Nat} (h : a < b) : magR a < magR b := by
  unfold magR
  by_cases ha : a < 4503599627370496
  · rw [if_pos ha]
    by_cases hb : b < 4503599627370496
    · rw [if_pos hb]; exact h
    · rw [if_neg hb]
      have h1 : 1 ≤ 2 ^ (b / 4503599627370496 - 1) := Nat.one_le_two_pow
      have h2 := Nat.mul_le_mul (Nat.le_refl (4503599627370496 + b % 4503599627370496)) h1
      omega
  · have hb : ¬b < 4503599627370496 := by omega
    rw [if_neg ha, if_neg hb]
    by_cases hq : a / 4503599627370496 = b / 4503599627370496
    · rw [hq]
      have hr : a % 4503599627370496 < b % 4503599627370496 := by omega
      exact Nat.mul_lt_mul_of_pos_right (by omega) (Nat.two_pow_pos _)
    · have hq' : a / 4503599627370496 < b / 4503599627370496 := by omega
      have h1 : (4503599627370496 + a % 4503599627370496) * 2 ^ (a / 4503599627370496 - 1) < (2 * 4503599627370496) * 2 ^ (a / 4503599627370496 - 1) := by
        have : a % 4503599627370496 < 4503599627370496 := Nat.mod_lt _ (by omega)
        exact Nat.mul_lt_mul_of_pos_right (by omega) (Nat.two_pow_pos _)
      have h2 : 2 ^ (a / 4503599627370496 - 1) * 2 = 2 ^ (a / 4503599627370496) := by
        rw [← Nat.pow_succ]
        congr 1
        omega
      have h3 : 2 ^ (a / 4503599627370496) ≤ 2 ^ (b / 4503599627370496 - 1) := Nat.pow_le_pow_right (by omega) (by omega)
      have h4 : 4503599627370496 * 2 ^ (b / 4503599627370496 - 1) ≤ (4503599627370496 + b % 4503599627370496) * 2 ^ (b / 4503599627370496 - 1) := Nat.mul_le_mul (by omega) (Nat.le_refl _)
      have h5 : (2 * 4503599627370496) * 2 ^ (a / 4503599627370496 - 1) = 4503599627370496 * 2 ^ (a / 4503599627370496) := by
        rw [← h2]; generalize 2 ^ (a / 4503599627370496 - 1) = z; omega
      have h6 := Nat.mul_le_mul (Nat.le_refl 4503599627370496) h3
      omega
theorem magR_inj {a b : Nat} (h : magR a = magR b) : a = b := by
  rcases Nat.lt_trichotomy a b with h' | h' | h'
  · have := magR_lt h'; omega
  · exact h'
  · have := magR_lt h'; omega
theorem magR_0 : magR 0 = 0 := rfl
theorem cmp_int (a b : Int) : compare a b = if a < b then .lt else if a = b then .eq else .gt := rfl
theorem cmp_nat (a b : Nat) : compare a b = if a < b then .lt else if a = b then .eq else .gt := rfl
theorem cmp_scale (a b : Int) {c : Int} (hc : 0 < c) : compare a b = compare (a * c) (b * c) := by
  rw [cmp_int, cmp_int]
  have h1 : a * c < b * c ↔ a < b := Int.mul_lt_mul_right hc
  have h2 : a * c = b * c ↔ a = b := ⟨fun h => Int.eq_of_mul_eq_mul_right (by omega) h, fun h => by rw [h]⟩
  simp only [h1, h2]
/-- A finite word's number, its place lifted to the least one. -/
theorem read_fin {x : Nat} (h : x % 9223372036854775808 < 9218868437227405312) : ∃ (m i : Nat), double.read x = .number (x / 9223372036854775808 % 2 == 1) m (-1074 + i) ∧ m * 2 ^ i = magR (x % 9223372036854775808) := by
  have e1 : double.signWeight = 9223372036854775808 := by decide
  have e2 : double.binade = 4503599627370496 := by decide
  have e3 : double.infRung = 9218868437227405312 := by decide
  have e4 : double.leastPlace = -1074 := by decide
  unfold Format.read
  simp only [e1, e2, e3, e4]
  unfold magR
  by_cases hb : x % 9223372036854775808 < 4503599627370496
  · rw [if_pos hb, if_pos hb]
    exact ⟨_, 0, rfl, by simp⟩
  · rw [if_neg hb, if_neg hb, if_pos h]
    exact ⟨_, _, rfl, rfl⟩
theorem read_inf {x : Nat} (h : x % 9223372036854775808 = 9218868437227405312) : double.read x = .infinity (x / 9223372036854775808 % 2 == 1) := by
  have e1 : double.signWeight = 9223372036854775808 := by decide
  have e2 : double.binade = 4503599627370496 := by decide
  have e3 : double.infRung = 9218868437227405312 := by decide
  unfold Format.read
  simp only [e1, e2, e3]
  rw [if_neg (by omega), if_neg (by omega), if_pos h]
theorem read_nan {x : Nat} (h : isN x) : ∃ s t, double.read x = .nan s t := by
  unfold isN at h
  have e1 : double.signWeight = 9223372036854775808 := by decide
  have e2 : double.binade = 4503599627370496 := by decide
  have e3 : double.infRung = 9218868437227405312 := by decide
  unfold Format.read
  simp only [e1, e2, e3]
  rw [if_neg (by omega), if_neg (by omega), if_neg (by omega)]
  exact ⟨_, _, rfl⟩
theorem order_nan_l {x y : Nat} (h : isN x) : double.order x y = none := by
  obtain ⟨s, t, e⟩ := read_nan h
  unfold Format.order
  rw [e]
  rfl
theorem order_nan_r {x y : Nat} (h : isN y) : double.order x y = none := by
  obtain ⟨s, t, e⟩ := read_nan h
  unfold Format.order
  rw [e]
  cases double.read x <;> rfl
/-- A signed magnitude. -/
def sg (s : Bool) (m : Int) : Int := if s then -m else m
theorem cmp_sg (s t : Bool) (a b : Nat) : compare (sg s (magR a)) (sg t (magR b)) = compare (sg s (a : Int)) (sg t (b : Int)) := by
  have h1 : magR a < magR b ↔ a < b := by
    constructor
    · intro h
      rcases Nat.lt_trichotomy a b with h' | h' | h'
      · exact h'
      · subst h'; omega
      · have := magR_lt h'; omega
    · exact magR_lt
  have h2 : magR a = magR b ↔ a = b := ⟨magR_inj, fun h => by rw [h]⟩
  have h3 : magR a = 0 ↔ a = 0 := ⟨fun h => magR_inj (b := 0) (by rw [h, magR_0]), fun h => by rw [h, magR_0]⟩
  have h4 : magR b = 0 ↔ b = 0 := ⟨fun h => magR_inj (b := 0) (by rw [h, magR_0]), fun h => by rw [h, magR_0]⟩
  rw [cmp_int, cmp_int]
  cases s <;> cases t <;> simp only [sg, if_true, if_false, Bool.false_eq_true]
  · have c1 : ((magR a : Nat) : Int) < (magR b : Nat) ↔ (a : Int) < b := by omega
    have c2 : ((magR a : Nat) : Int) = (magR b : Nat) ↔ (a : Int) = b := by omega
    simp only [c1, c2]
  · have c1 : ((magR a : Nat) : Int) < -(magR b : Nat) ↔ (a : Int) < -(b : Int) := by omega
    have c2 : ((magR a : Nat) : Int) = -(magR b : Nat) ↔ (a : Int) = -(b : Int) := by omega
    simp only [c1, c2]
  · have c1 : -((magR a : Nat) : Int) < (magR b : Nat) ↔ -(a : Int) < (b : Int) := by omega
    have c2 : -((magR a : Nat) : Int) = (magR b : Nat) ↔ -(a : Int) = (b : Int) := by omega
    simp only [c1, c2]
  · have c1 : -((magR a : Nat) : Int) < -(magR b : Nat) ↔ -(a : Int) < -(b : Int) := by omega
    have c2 : -((magR a : Nat) : Int) = -(magR b : Nat) ↔ -(a : Int) = -(b : Int) := by omega
    simp only [c1, c2]
theorem fval_sg (x : Nat) : fval x = sg (x / 9223372036854775808 % 2 == 1) ((x % 9223372036854775808 : Nat) : Int) := by
  unfold fval sg
  by_cases h : x / 9223372036854775808 % 2 = 1 <;> simp [h]
theorem signed_sg (s : Bool) (m k : Nat) : Ieee.signed s m k = sg s ((m * 2 ^ k : Nat) : Int) := by
  unfold Ieee.signed sg
  rw [Nat.shiftLeft_eq]
  try (cases s <;> rfl)
theorem order_fin {x y : Nat} (hx : x % 9223372036854775808 < 9218868437227405312) (hy : y % 9223372036854775808 < 9218868437227405312) : double.order x y = some (compare (fval x) (fval y)) := by
  obtain ⟨m, i, e1, e2⟩ := read_fin hx
  obtain ⟨n, j, f1, f2⟩ := read_fin hy
  unfold Format.order
  rw [e1, f1]
  simp only [Datum.order]
  rw [fval_sg, fval_sg, ← cmp_sg, ← e2, ← f2, signed_sg, signed_sg]
  congr 1
  have hc : (0 : Int) < ((2 ^ (min i j) : Nat) : Int) := by have := Nat.two_pow_pos (min i j); omega
  rw [cmp_scale _ _ hc]
  have p1 : (-1074 + (i : Int) - min (-1074 + (i : Int)) (-1074 + (j : Int))).toNat + min i j = i := by omega
  have p2 : (-1074 + (j : Int) - min (-1074 + (i : Int)) (-1074 + (j : Int))).toNat + min i j = j := by omega
  have q : ∀ (s : Bool) (m k c : Nat), sg s ((m * 2 ^ k : Nat) : Int) * ((2 ^ c : Nat) : Int) = sg s ((m * 2 ^ (k + c) : Nat) : Int) := by
    intro s m k c
    rw [Nat.pow_add, ← Nat.mul_assoc]
    cases s
    · simp only [sg, Bool.false_eq_true, if_false]; rw [← Int.natCast_mul]
    · simp only [sg, if_true]; rw [Int.neg_mul, ← Int.natCast_mul]
  rw [q, q, p1, p2]
theorem order_num {x y : Nat} (hx : ¬isN x) (hy : ¬isN y) : double.order x y = some (compare (fval x) (fval y)) := by
  unfold isN at hx hy
  by_cases ix : x % 9223372036854775808 = 9218868437227405312
  · by_cases iy : y % 9223372036854775808 = 9218868437227405312
    · unfold Format.order
      rw [read_inf ix, read_inf iy]
      simp only [Datum.order]
      rw [fval_sg, fval_sg, ix, iy]
      cases (x / 9223372036854775808 % 2 == 1) <;> cases (y / 9223372036854775808 % 2 == 1) <;> decide
    · obtain ⟨n, j, f1, f2⟩ := read_fin (x := y) (by omega)
      unfold Format.order
      rw [read_inf ix, f1]
      simp only [Datum.order]
      rw [fval_sg, fval_sg, ix, cmp_int]
      generalize y % 9223372036854775808 = r at *
      cases (x / 9223372036854775808 % 2 == 1) <;> cases (y / 9223372036854775808 % 2 == 1) <;> simp only [sg, if_true, if_false, Bool.false_eq_true]
      · rw [if_neg (by omega), if_neg (by omega)]
      · rw [if_neg (by omega), if_neg (by omega)]
      · rw [if_pos (by omega)]
      · rw [if_pos (by omega)]
  · by_cases iy : y % 9223372036854775808 = 9218868437227405312
    · obtain ⟨n, j, f1, f2⟩ := read_fin (x := x) (by omega)
      unfold Format.order
      rw [read_inf iy, f1]
      simp only [Datum.order]
      rw [fval_sg, fval_sg, iy, cmp_int]
      generalize x % 9223372036854775808 = r at *
      cases (x / 9223372036854775808 % 2 == 1) <;> cases (y / 9223372036854775808 % 2 == 1) <;> simp only [sg, if_true, if_false, Bool.false_eq_true]
      · rw [if_pos (by omega)]
      · rw [if_neg (by omega), if_neg (by omega)]
      · rw [if_pos (by omega)]
      · rw [if_neg (by omega), if_neg (by omega)]
    · exact order_fin (by omega) (by omega)
/-- The comparisons. -/
theorem f_eq (x y : Nat) : (double.order x y == some .eq) = decide (¬isN x ∧ ¬isN y ∧ fval x = fval y) := by
  by_cases hx : isN x
  · rw [order_nan_l hx]; simp [hx]
  · by_cases hy : isN y
    · rw [order_nan_r hy]; simp [hy]
    · rw [order_num hx hy, cmp_int]
      rcases Int.lt_trichotomy (fval x) (fval y) with h | h | h
      · have : ¬(fval x = fval y) := by omega
        simp [hx, hy, h, this]
      · have : ¬(fval x < fval y) := by omega
        simp [hx, hy, h]
      · have h1 : ¬(fval x < fval y) := by omega
        have h2 : ¬(fval x = fval y) := by omega
        simp [hx, hy, h1, h2]
theorem f_lt (x y : Nat) : (double.order x y == some .lt) = decide (¬isN x ∧ ¬isN y ∧ fval x < fval y) := by
  by_cases hx : isN x
  · rw [order_nan_l hx]; simp [hx]
  · by_cases hy : isN y
    · rw [order_nan_r hy]; simp [hy]
    · rw [order_num hx hy, cmp_int]
      rcases Int.lt_trichotomy (fval x) (fval y) with h | h | h
      · simp [hx, hy, h]
      · have : ¬(fval x < fval y) := by omega
        simp [hx, hy, h]
      · have h1 : ¬(fval x < fval y) := by omega
        have h2 : ¬(fval x = fval y) := by omega
        simp [hx, hy, h1, h2]
theorem f_gt (x y : Nat) : (double.order x y == some .gt) = decide (¬isN x ∧ ¬isN y ∧ fval y < fval x) := by
  by_cases hx : isN x
  · rw [order_nan_l hx]; simp [hx]
  · by_cases hy : isN y
    · rw [order_nan_r hy]; simp [hy]
    · rw [order_num hx hy, cmp_int]
      rcases Int.lt_trichotomy (fval x) (fval y) with h | h | h
      · have h1 : ¬(fval y < fval x) := by omega
        simp [hx, hy, h, h1]
      · have : ¬(fval y < fval x) := by omega
        simp [hx, hy, h]
      · have h1 : ¬(fval x < fval y) := by omega
        have h2 : ¬(fval x = fval y) := by omega
        simp [hx, hy, h1, h2, h]
end Go.Proofs.Ytalnoedhacobkaa.AI
