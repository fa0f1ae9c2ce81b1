/- Floats in a row: the law's floats; the document's answers; three laws. -/
import Derived.Test.YtdmpcbealegicaaTotalA
namespace Go.Proofs.Ytdmpcbealegicaa.AI
open Go
set_option linter.unusedVariables false
set_option linter.unusedSimpArgs false

theorem fsub0 (x y : Operand) : binV Go.Proofs.Try.prog .sub 24 x y (.float .f64 (FloatKind.f64.nearest 0)) (.float .f64 4602678819172646912) = some (.float .f64 13826050856027422720) := by kernel_rfl
theorem fsub1 (x y : Operand) : binV Go.Proofs.Try.prog .sub 24 x y (.float .f64 (FloatKind.f64.nearest 1)) (.float .f64 4602678819172646912) = some (.float .f64 4602678819172646912) := by kernel_rfl
/-- A float of the law: some word. -/
theorem run_float (n e : Int) (hn : 0 ≤ n ∧ n < 18446744073709551616) (he : 0 ≤ e ∧ e < 256) : ∃ w, w < 18446744073709551616 ∧ ∀ hp, run cxX 16 [.sc (.int .u64 n), .sc (.int .u8 e)] hp = some (fl w, hp) := by
  have m8 : ∀ x y, binV Go.Proofs.Try.prog .rem 5 x y (.int .u8 e) (.int .u8 8) = some (.int .u8 (e % 8)) := by
    intro x y; rw [binV_rem _ _ _ _ _ _ _ (by omega), tmod_pos he.1]
  have m2 : ∀ x y, binV Go.Proofs.Try.prog .rem 22 x y (.int .u64 n) (.int .u64 2) = some (.int .u64 (n % 2)) := by
    intro x y; rw [binV_rem _ _ _ _ _ _ _ (by omega), tmod_pos hn.1]
  have m3 : ∀ x y, binV Go.Proofs.Try.prog .rem 22 x y (.int .u64 n) (.int .u64 2001) = some (.int .u64 (n % 2001)) := by
    intro x y; rw [binV_rem _ _ _ _ _ _ _ (by omega), tmod_pos hn.1]
  have w2 : IntKind.i64.wrap (n % 2) = n % 2 := wrap64 (by omega) (by omega)
  have w3 : IntKind.i64.wrap (n % 2001) = n % 2001 := wrap64 (by omega) (by omega)
  have w4 : IntKind.i64.wrap (n % 2001 - 1000) = n % 2001 - 1000 := wrap64 (by omega) (by omega)
  have w5 : IntKind.i64.wrap (2 * (n % 2)) = 2 * (n % 2) := wrap64 (by omega) (by omega)
  have w5' : IntKind.i64.wrap (n % 2 * 2) = n % 2 * 2 := wrap64 (by omega) (by omega)
  have w6 : IntKind.i64.wrap (n % 2 * 2 - 1) = n % 2 * 2 - 1 := wrap64 (by omega) (by omega)
  have b10 : ∀ hp, B16_10 (.int .u64 n) hp = some (fl (FloatKind.f64.nearest (n % 2001 - 1000)), hp) := by
    intro hp
    rw [B16_10_eq]
    simp [m3, cv_22_2, w3, w4, cv_2_24]
  have b11 : ∀ hp, B16_11 (.int .u64 n) hp = some (fl n.toNat, hp) := by
    intro hp
    rw [B16_11_eq]
    simp [x_from]
  by_cases h0 : e % 8 = 0
  · refine ⟨9221120237041090561, by decide, fun hp => ?_⟩
    rw [E16]
    simp [m8, h0, run_nan]
  · by_cases h1 : e % 8 = 1
    · refine ⟨if 0 ≤ n % 2 * 2 - 1 then 9218868437227405312 else 18442240474082181120, by split <;> decide, fun hp => ?_⟩
      rw [E16]
      simp [m8, h1, m2, cv_22_3, w2, w5', w6, run_inf]
    · by_cases h2 : e % 8 = 2
      · rcases Int.emod_two_eq n with q | q
        · refine ⟨9223372036854775808, by decide, fun hp => ?_⟩
          rw [E16]
          simp [m8, h2, m2, q, cv_22_24, fsub0, run_cs0_mhalf]
        · refine ⟨0, by decide, fun hp => ?_⟩
          rw [E16]
          simp [m8, h2, m2, q, cv_22_24, fsub1, run_cs0_half]
      · by_cases h3 : e % 8 = 3
        · refine ⟨_, nearest_lt (n % 2001 - 1000), fun hp => ?_⟩
          rw [E16]
          simp [m8, h3, b10]
        · by_cases h4 : e % 8 = 4
          · refine ⟨_, nearest_lt (n % 2001 - 1000), fun hp => ?_⟩
            rw [E16]
            simp [m8, h4, b10]
          · refine ⟨n.toNat, by omega, fun hp => ?_⟩
            rw [E16]
            simp [m8, h0, h1, h2, h3, h4, b11]
/-! ### the document's answers -/
theorem run_rkey (w : Nat) (h : w < 18446744073709551616) (hp : Hp) : run cxX 17 [fl w] hp = some (.sc (.int .u64 (kw w : Int)), hp) := by
  rw [E17]
  unfold kw
  by_cases hn : isN w
  · simp [fEq_self, hn]
  · by_cases hl : w < 9223372036854775808
    · have hl' : ¬(9223372036854775808 ≤ w) := by omega
      have e : IntKind.u64.wrap ((w : Int) + 9223372036854775808) = (w : Int) + 9223372036854775808 := wrapu64 (by omega) (by omega)
      have hl2 : ¬((9223372036854775808 : Int) ≤ (w : Int)) := by omega
      simp [fEq_self, x_bits, hn, hl, hl2, e]
    · have hl2 : (9223372036854775808 : Int) ≤ (w : Int) := by omega
      have e : IntKind.u64.wrap (18446744073709551615 - (w : Int)) = ((18446744073709551615 - w : Nat) : Int) := by rw [wrapu64] <;> omega
      simp [fEq_self, x_bits, hn, hl, hl2, e]
theorem fdiv_p (x y : Operand) : binV Go.Proofs.Try.prog .quo 24 x y (.float .f64 4607182418800017408) (.float .f64 0) = some (.float .f64 9218868437227405312) := by kernel_rfl
theorem fdiv_m (x y : Operand) : binV Go.Proofs.Try.prog .quo 24 x y (.float .f64 4607182418800017408) (.float .f64 9223372036854775808) = some (.float .f64 18442240474082181120) := by kernel_rfl
theorem run_place (w : Nat) (h : w < 18446744073709551616) (hp : Hp) : run cxX 25 [fl w] hp = some (.sc (.int .i64 (place w)), hp) := by
  rw [E25]
  unfold place
  by_cases hn : isN w
  · simp [fEq_self, hn]
  · have n1 : ¬isN 9218868437227405311 := by decide
    have n2 : ¬isN 18442240474082181119 := by decide
    have n3 : ¬isN 0 := by decide
    have v1 : fval 9218868437227405311 = 9218868437227405311 := by decide
    have v2 : fval 18442240474082181119 = -9218868437227405311 := by decide
    have v3 : fval 0 = 0 := by decide
    have hn' := hn
    unfold isN at hn'
    have c1 : fLess 9218868437227405311 w = decide (w = 9218868437227405312) := by
      unfold fLess
      rw [v1]
      apply decide_eq_decide.mpr
      constructor
      · rintro ⟨_, _, h3⟩
        unfold fval at h3
        split at h3 <;> omega
      · intro h3
        subst h3
        exact ⟨n1, by decide, by decide⟩
    have c2 : fLess w 18442240474082181119 = decide (w = 18442240474082181120) := by
      unfold fLess
      rw [v2]
      apply decide_eq_decide.mpr
      constructor
      · rintro ⟨_, _, h3⟩
        unfold fval at h3
        split at h3 <;> omega
      · intro h3
        subst h3
        exact ⟨by decide, n2, by decide⟩
    have c3 : fEq w 0 = decide (w = 0 ∨ w = 9223372036854775808) := by
      unfold fEq
      rw [v3]
      apply decide_eq_decide.mpr
      constructor
      · rintro ⟨_, _, h3⟩
        unfold fval at h3
        split at h3 <;> omega
      · intro h3
        rcases h3 with rfl | rfl
        · exact ⟨n3, n3, by decide⟩
        · exact ⟨by decide, n3, by decide⟩
    have c4 : fLess 0 w = decide (0 < w ∧ w < 9223372036854775808) := by
      unfold fLess
      rw [v3]
      apply decide_eq_decide.mpr
      constructor
      · rintro ⟨_, _, h3⟩
        unfold fval at h3
        split at h3 <;> omega
      · intro h3
        refine ⟨n3, hn, ?_⟩
        unfold fval
        split <;> omega
    have c5 : fLess 18442240474082181120 0 = true := by decide
    have c6 : fLess 9218868437227405312 0 = false := by decide
    by_cases h1 : w = 9218868437227405312
    · subst h1
      simp [fEq_self, hn, c1]
    · by_cases h2 : w = 18442240474082181120
      · subst h2
        simp [fEq_self, hn, c1, c2]
      · by_cases h3 : w = 9223372036854775808
        · subst h3
          simp [fEq_self, hn, c1, c2, c3, fdiv_m, c5]
        · by_cases h4 : w = 0
          · subst h4
            simp [fEq_self, hn, c1, c2, c3, fdiv_p, c6]
          · by_cases h5 : w < 9223372036854775808
            · have h6 : 0 < w := by omega
              simp [fEq_self, hn, c1, h1, c2, h2, c3, h3, h4, c4, h5, h6]
            · simp [fEq_self, hn, c1, h1, c2, h2, c3, h3, h4, c4, h5]
theorem run_rless (a b : Nat) (ha : a < 18446744073709551616) (hb : b < 18446744073709551616) (hp : Hp) : run cxX 19 [fl a, fl b] hp = some (.sc (.bool (decide (kw a < kw b))), hp) := by
  rw [← rLess_kw ha hb, E19]
  unfold rLess
  by_cases h : place a = place b
  · simp [run_place a ha, run_place b hb, h]
  · simp [run_place a ha, run_place b hb, h]
end Go.Proofs.Ytdmpcbealegicaa.AI
