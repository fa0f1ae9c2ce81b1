/- Floats in a row: keys, the float of a key, which comes ahead, which edge a float is; the floats of the laws. -/
import Derived.Test.YtchmioacjkbfcaaGreatEqTotal
import Derived.Test.YtchmioacjkbfcaaGreatEqMath
import Derived.Test.YtchmioacjkbfcaaGreatEqRef09
import Derived.Test.YtchmioacjkbfcaaGreatEqLaw09
import Derived.Test.YtchmioacjkbfcaaGreatFl
import Derived.Test.YtchmioacjkbfcaaGreatMe
import Derived.KernelRfl
namespace Go.Proofs.YtchmioacjkbfcaaGreat.AI
open Go
set_option linter.unusedVariables false
set_option linter.unusedSimpArgs false
set_option maxRecDepth 100000

/-- A float. -/
abbrev fl (w : Nat) : AV := .sc (.float .f64 w)
theorem x_bits (w : Nat) : one (extX Go.Proofs.Tryz.prog 142 [.float .f64 w]) = some (.int .u64 (w : Int)) := by kernel_rfl
theorem x_from (n : Int) : one (extX Go.Proofs.Tryz.prog 169 [.int .u64 n]) = some (.float .f64 n.toNat) := by kernel_rfl
theorem beq_tt (x y : Operand) : binV Go.Proofs.Tryz.prog .eql 4 x y (.bool true) (.bool true) = some (.bool true) := by kernel_rfl
theorem beq_tf (x y : Operand) : binV Go.Proofs.Tryz.prog .eql 4 x y (.bool true) (.bool false) = some (.bool false) := by kernel_rfl
theorem beq_ft (x y : Operand) : binV Go.Proofs.Tryz.prog .eql 4 x y (.bool false) (.bool true) = some (.bool false) := by kernel_rfl
theorem beq_ff (x y : Operand) : binV Go.Proofs.Tryz.prog .eql 4 x y (.bool false) (.bool false) = some (.bool true) := by kernel_rfl
@[simp] theorem beq_bb (x y : Operand) (a b : Bool) : binV Go.Proofs.Tryz.prog .eql 4 x y (.bool a) (.bool b) = some (.bool (decide (a = b))) := by
  cases a <;> cases b
  · exact beq_ff x y
  · exact beq_ft x y
  · exact beq_tf x y
  · exact beq_tt x y
theorem run_isnan (w : Nat) (hp : Hp) : run cxX 143 [fl w] hp = some (.sc (.bool (decide (isN w))), hp) := by
  rw [E143]
  simp [fEq_self]
/-- The key. -/
theorem run_key (w : Nat) (h : w < 18446744073709551616) (hp : Hp) : run cxX 92 [fl w] hp = some (.sc (.int .u64 (kw w : Int)), hp) := by
  rw [E92]
  unfold kw
  by_cases hn : isN w
  · simp [x_bits, run_isnan, hn, B92_7_eq]
  · by_cases hl : w < 9223372036854775808
    · have e := binV_or_top Go.Proofs.Tryz.prog 76 (Go.Operand.tmp 6) (Go.Operand.const (.int .u64 (Int.ofNat 9223372036854775808))) w hl
      have e' := binV_and_lo Go.Proofs.Tryz.prog 76 (Go.Operand.tmp 12) (Go.Operand.const (.int .u64 (Int.ofNat 9223372036854775808))) w hl
      simp at e e'
      simp [x_bits, run_isnan, hn, hl, e, e', B92_7_eq]
    · have e' := binV_and_hi Go.Proofs.Tryz.prog 76 (Go.Operand.tmp 12) (Go.Operand.const (.int .u64 (Int.ofNat 9223372036854775808))) w (by omega) h
      have e := unV_not64 Go.Proofs.Tryz.prog w h
      simp at e e'
      simp [x_bits, run_isnan, hn, hl, e, e', B92_7_eq]
/-- The float of a key. -/
theorem run_of (k : Nat) (h : k < 18446744073709551616) (hp : Hp) : run cxX 155 [.sc (.int .u64 (k : Int))] hp = some (.tup [fl (wk k), .sc (.bool (ofOk k))], hp) := by
  have e4 : ∀ hp, B155_4 (.int .u64 (k : Int)) (.int .u64 (wk k : Int)) hp = some (.tup [fl (wk k), .sc (.bool (ofOk k))], hp) := by
    intro hp
    rw [B155_4_eq]
    have hk := fun hp => run_key (wk k) (wk_lt k h) hp
    have hd : decide ((kw (wk k) : Int) = (k : Int)) = ofOk k := by
      unfold ofOk
      apply decide_eq_decide.mpr
      omega
    simp [x_from, hk, hd]
  rw [E155]
  have c := binV_clear Go.Proofs.Tryz.prog 76 (Go.Operand.tmp 6) (Go.Operand.const (.int .u64 (Int.ofNat 9223372036854775808))) k h
  have n := unV_not64 Go.Proofs.Tryz.prog k h
  by_cases hl : k < 9223372036854775808
  · have e' := binV_and_lo Go.Proofs.Tryz.prog 76 (Go.Operand.tmp 8) (Go.Operand.const (.int .u64 (Int.ofNat 9223372036854775808))) k hl
    have w : wk k = 18446744073709551615 - k := by unfold wk; rw [if_pos hl]
    rw [w] at e4
    rw [← w] at e4
    rw [← w] at n
    simp at c n e'
    simp [c, n, e', e4]
  · have e' := binV_and_hi Go.Proofs.Tryz.prog 76 (Go.Operand.tmp 8) (Go.Operand.const (.int .u64 (Int.ofNat 9223372036854775808))) k (by omega) h
    have w : wk k = k % 9223372036854775808 := by unfold wk; rw [if_neg hl]; omega
    rw [← w] at c
    simp at c e'
    simp [c, e', e4]
theorem run_less (a b : Nat) (ha : a < 18446744073709551616) (hb : b < 18446744073709551616) (hp : Hp) : run cxX 123 [fl a, fl b] hp = some (.sc (.bool (decide (kw a < kw b))), hp) := by
  rw [E123]
  simp [run_key a ha, run_key b hb]
theorem run_fsame (a b : Nat) (ha : a < 18446744073709551616) (hb : b < 18446744073709551616) (hp : Hp) : run cxX 167 [fl a, fl b] hp = some (.sc (.bool (decide (kw a = kw b))), hp) := by
  rw [E167]
  simp [run_key a ha, run_key b hb]
  omega
/-- The one that comes ahead, the one that doesn't. -/
def fmin (a b : Nat) : Nat := if kw b < kw a then b else a
def fmax (a b : Nat) : Nat := if kw a < kw b then b else a
theorem fmin_lt {a b : Nat} (ha : a < 18446744073709551616) (hb : b < 18446744073709551616) : fmin a b < 18446744073709551616 := by unfold fmin; split <;> assumption
theorem fmax_lt {a b : Nat} (ha : a < 18446744073709551616) (hb : b < 18446744073709551616) : fmax a b < 18446744073709551616 := by unfold fmax; split <;> assumption
theorem run_fmin (a b : Nat) (ha : a < 18446744073709551616) (hb : b < 18446744073709551616) (hp : Hp) : run cxX 170 [fl a, fl b] hp = some (fl (fmin a b), hp) := by
  rw [E170]
  unfold fmin
  by_cases h : kw b < kw a <;> simp [run_less b a hb ha, h]
theorem run_fmax (a b : Nat) (ha : a < 18446744073709551616) (hb : b < 18446744073709551616) (hp : Hp) : run cxX 171 [fl a, fl b] hp = some (fl (fmax a b), hp) := by
  rw [E171]
  unfold fmax
  by_cases h : kw a < kw b <;> simp [run_less a b ha hb, h]
/-- One float with another one's sign. -/
theorem run_nan (hp : Hp) : run cxX 173 [] hp = some (fl 9221120237041090561, hp) := by
  rw [E173]
  simp [x_from]
theorem run_inf (s : Int) (hp : Hp) : run cxX 130 [.sc (.int .i64 s)] hp = some (fl (if 0 ≤ s then 9218868437227405312 else 18442240474082181120), hp) := by
  rw [E130]
  by_cases h : 0 ≤ s <;> simp [h, B130_5_eq, x_from]
theorem run_cs0_neg (hp : Hp) : run cxX 174 [fl 0, fl 13830554455654793216] hp = some (fl 9223372036854775808, hp) := (E174 _ _ _).trans (by kernel_rfl)
theorem run_cs0_mhalf (hp : Hp) : run cxX 174 [fl 0, fl 13826050856027422720] hp = some (fl 9223372036854775808, hp) := (E174 _ _ _).trans (by kernel_rfl)
theorem run_cs0_half (hp : Hp) : run cxX 174 [fl 0, fl 4602678819172646912] hp = some (fl 0, hp) := (E174 _ _ _).trans (by kernel_rfl)
theorem fsub0 (x y : Operand) : binV Go.Proofs.Tryz.prog .sub 50 x y (.float .f64 (FloatKind.f64.nearest 0)) (.float .f64 4602678819172646912) = some (.float .f64 13826050856027422720) := by kernel_rfl
theorem fsub1 (x y : Operand) : binV Go.Proofs.Tryz.prog .sub 50 x y (.float .f64 (FloatKind.f64.nearest 1)) (.float .f64 4602678819172646912) = some (.float .f64 4602678819172646912) := by kernel_rfl
/-- A float of the law: some word. -/
theorem run_float (n e : Int) (hn : 0 ≤ n ∧ n < 18446744073709551616) (he : 0 ≤ e ∧ e < 256) : ∃ w, w < 18446744073709551616 ∧ ∀ hp, run cxX 133 [.sc (.int .u64 n), .sc (.int .u8 e)] hp = some (fl w, hp) := by
  have m8 : ∀ x y, binV Go.Proofs.Tryz.prog .rem 5 x y (.int .u8 e) (.int .u8 8) = some (.int .u8 (e % 8)) := by
    intro x y; rw [binV_rem _ _ _ _ _ _ _ (by omega), tmod_pos he.1]
  have m2 : ∀ x y, binV Go.Proofs.Tryz.prog .rem 76 x y (.int .u64 n) (.int .u64 2) = some (.int .u64 (n % 2)) := by
    intro x y; rw [binV_rem _ _ _ _ _ _ _ (by omega), tmod_pos hn.1]
  have m3 : ∀ x y, binV Go.Proofs.Tryz.prog .rem 76 x y (.int .u64 n) (.int .u64 2001) = some (.int .u64 (n % 2001)) := by
    intro x y; rw [binV_rem _ _ _ _ _ _ _ (by omega), tmod_pos hn.1]
  have w2 : IntKind.i64.wrap (n % 2) = n % 2 := wrap64 (by omega) (by omega)
  have w3 : IntKind.i64.wrap (n % 2001) = n % 2001 := wrap64 (by omega) (by omega)
  have w4 : IntKind.i64.wrap (n % 2001 - 1000) = n % 2001 - 1000 := wrap64 (by omega) (by omega)
  have w5 : IntKind.i64.wrap (2 * (n % 2)) = 2 * (n % 2) := wrap64 (by omega) (by omega)
  have w5' : IntKind.i64.wrap (n % 2 * 2) = n % 2 * 2 := wrap64 (by omega) (by omega)
  have w6 : IntKind.i64.wrap (n % 2 * 2 - 1) = n % 2 * 2 - 1 := wrap64 (by omega) (by omega)
  have b10 : ∀ hp, B133_10 (.int .u64 n) hp = some (fl (FloatKind.f64.nearest (n % 2001 - 1000)), hp) := by
    intro hp
    rw [B133_10_eq]
    simp [m3, cv_76_2, w3, w4, cv_2_50]
  have b11 : ∀ hp, B133_11 (.int .u64 n) hp = some (fl n.toNat, hp) := by
    intro hp
    rw [B133_11_eq]
    simp [x_from]
  by_cases h0 : e % 8 = 0
  · refine ⟨9221120237041090561, by decide, fun hp => ?_⟩
    rw [E133]
    simp [m8, h0, run_nan]
  · by_cases h1 : e % 8 = 1
    · refine ⟨if 0 ≤ n % 2 * 2 - 1 then 9218868437227405312 else 18442240474082181120, by split <;> decide, fun hp => ?_⟩
      rw [E133]
      simp [m8, h1, m2, cv_76_3, w2, w5', w6, run_inf]
    · by_cases h2 : e % 8 = 2
      · rcases Int.emod_two_eq n with q | q
        · refine ⟨9223372036854775808, by decide, fun hp => ?_⟩
          rw [E133]
          simp [m8, h2, m2, q, cv_76_50, fsub0, run_cs0_mhalf]
        · refine ⟨0, by decide, fun hp => ?_⟩
          rw [E133]
          simp [m8, h2, m2, q, cv_76_50, fsub1, run_cs0_half]
      · by_cases h3 : e % 8 = 3
        · refine ⟨_, nearest_lt (n % 2001 - 1000), fun hp => ?_⟩
          rw [E133]
          simp [m8, h3, b10]
        · by_cases h4 : e % 8 = 4
          · refine ⟨_, nearest_lt (n % 2001 - 1000), fun hp => ?_⟩
            rw [E133]
            simp [m8, h4, b10]
          · refine ⟨n.toNat, by omega, fun hp => ?_⟩
            rw [E133]
            simp [m8, h0, h1, h2, h3, h4, b11]
/-! ### the document's answers -/
theorem run_rkey (w : Nat) (h : w < 18446744073709551616) (hp : Hp) : run cxX 115 [fl w] hp = some (.sc (.int .u64 (kw w : Int)), hp) := by
  rw [E115]
  unfold kw
  by_cases hn : isN w
  · simp [fEq_self, hn]
  · by_cases hl : w < 9223372036854775808
    · have hl' : ¬(9223372036854775808 ≤ w) := by omega
      have e : IntKind.u64.wrap ((w : Int) + 9223372036854775808) = (w : Int) + 9223372036854775808 := wrapu64 (by omega) (by omega)
      have hl2 : ¬((9223372036854775808 : Int) ≤ (w : Int)) := by omega
      simp [fEq_self, x_bits, hn, hl, hl2, e]
    · have hl2 : (9223372036854775808 : Int) ≤ (w : Int) := by omega
      have e : IntKind.u64.wrap (18446744073709551615 - (w : Int)) = ((18446744073709551615 - w : Nat) : Int) := by rw [wrapu64] <;> omega
      simp [fEq_self, x_bits, hn, hl, hl2, e]
theorem fdiv_p (x y : Operand) : binV Go.Proofs.Tryz.prog .quo 50 x y (.float .f64 4607182418800017408) (.float .f64 0) = some (.float .f64 9218868437227405312) := by kernel_rfl
theorem fdiv_m (x y : Operand) : binV Go.Proofs.Tryz.prog .quo 50 x y (.float .f64 4607182418800017408) (.float .f64 9223372036854775808) = some (.float .f64 18442240474082181120) := by kernel_rfl
/-! ### a float turned -/
theorem nw_lt {w : Nat} (h : w < 18446744073709551616) : nw w < 18446744073709551616 := by unfold nw; split <;> omega
theorem isN_nw {w : Nat} (h : w < 18446744073709551616) : isN (nw w) ↔ isN w := by
  unfold isN nw
  split <;> omega
theorem kw_nw {w : Nat} (h : w < 18446744073709551616) (hn : ¬isN w) : kw (nw w) = 18446744073709551615 - kw w := by
  have hn' : ¬isN (nw w) := fun e => hn ((isN_nw h).mp e)
  unfold kw
  rw [if_neg hn, if_neg hn']
  unfold nw
  repeat' split
  all_goals omega
theorem kw_num_lt {w : Nat} (h : w < 18446744073709551616) (hn : ¬isN w) : kw w < 18444492273895866369 := by
  unfold kw
  rw [if_neg hn]
  unfold isN at hn
  split <;> omega
theorem kw_nan {w : Nat} (hn : isN w) : kw w = 18444492273895866369 := by
  unfold kw
  rw [if_pos hn]
/-! ### which edge -/
theorem run_isinf_m (w : Nat) (h : w < 18446744073709551616) (hn : ¬isN w) (hp : Hp) : run cxX 181 [fl w, .sc (.int .i64 (-1))] hp = some (.sc (.bool (decide (w = 18442240474082181120))), hp) := by
  have e := unV_fneg Go.Proofs.Tryz.prog w h
  have c : fLess 9218868437227405311 (nw w) = decide (w = 18442240474082181120) := by
    unfold fLess
    have v1 : fval 9218868437227405311 = 9218868437227405311 := by decide
    rw [v1]
    have hn' : ¬isN (nw w) := fun e => hn ((isN_nw h).mp e)
    have hn2 := hn
    unfold isN at hn2
    apply decide_eq_decide.mpr
    constructor
    · rintro ⟨_, _, h3⟩
      unfold fval nw at h3
      repeat' split at h3
      all_goals omega
    · intro h3
      subst h3
      exact ⟨by decide, by decide, by decide⟩
  rw [E181]
  simp [e, B181_5_eq, c]
theorem run_isinf_p (w : Nat) (h : w < 18446744073709551616) (hn : ¬isN w) (hp : Hp) : run cxX 181 [fl w, .sc (.int .i64 1)] hp = some (.sc (.bool (decide (w = 9218868437227405312))), hp) := by
  have c : fLess 9218868437227405311 w = decide (w = 9218868437227405312) := by
    unfold fLess
    have v1 : fval 9218868437227405311 = 9218868437227405311 := by decide
    rw [v1]
    have hn2 := hn
    unfold isN at hn2
    apply decide_eq_decide.mpr
    constructor
    · rintro ⟨_, _, h3⟩
      unfold fval at h3
      split at h3 <;> omega
    · intro h3
      subst h3
      exact ⟨by decide, by decide, by decide⟩
  rw [E181]
  simp [B181_5_eq, c]
theorem run_signbit (w : Nat) (h : w < 18446744073709551616) (hp : Hp) : run cxX 182 [fl w] hp = some (.sc (.bool (decide (9223372036854775808 ≤ w))), hp) := by
  have c : decide (IntKind.i64.wrap (w : Int) < 0) = decide (9223372036854775808 ≤ w) := by
    apply decide_eq_decide.mpr
    rw [IntKind.wrap_i64]
    omega
  rw [E182]
  simp [x_bits, cv_76_2]
  rw [IntKind.wrap_i64]
  omega
/-- Which edge a float is. -/
def edge (w : Nat) : Int := if isN w then 1 else if w = 18442240474082181120 then 2 else if w = 9218868437227405312 then 3 else if w = 9223372036854775808 then 4 else if w = 0 then 5 else 0
theorem fEq_zero {w : Nat} (h : w < 18446744073709551616) (hn : ¬isN w) : fEq w 0 = decide (w = 0 ∨ w = 9223372036854775808) := by
  unfold fEq
  have v3 : fval 0 = 0 := by decide
  rw [v3]
  apply decide_eq_decide.mpr
  constructor
  · rintro ⟨_, _, h3⟩
    unfold fval at h3
    split at h3 <;> omega
  · intro h3
    rcases h3 with rfl | rfl
    · exact ⟨by decide, by decide, by decide⟩
    · exact ⟨by decide, by decide, by decide⟩
theorem run_edge (w : Nat) (h : w < 18446744073709551616) (hp : Hp) : run cxX 172 [fl w] hp = some (.sc (.int .u8 (edge w)), hp) := by
  rw [E172]
  unfold edge
  by_cases hn : isN w
  · simp [fEq_self, hn]
  · have i1 := fun hp => run_isinf_m w h hn hp
    have i2 := fun hp => run_isinf_p w h hn hp
    have z := fEq_zero h hn
    have s := fun hp => run_signbit w h hp
    have b9 : ∀ hp, B172_9 (.float .f64 w) hp = some (.sc (.int .u8 (if w = 0 ∨ w = 9223372036854775808 then 5 else 0)), hp) := by
      intro hp
      rw [B172_9_eq]
      by_cases h0 : w = 0 ∨ w = 9223372036854775808 <;> simp [z, h0]
    by_cases h1 : w = 18442240474082181120
    · subst h1
      simp at i1
      simp [fEq_self, hn, i1]
    · by_cases h2 : w = 9218868437227405312
      · subst h2
        simp at i1 i2
        simp [fEq_self, hn, i1, i2]
      · simp only [h1, h2, decide_false] at i1 i2
        by_cases h3 : w = 9223372036854775808
        · subst h3
          simp at s z
          simp [fEq_self, hn, i1, i2, z, s, B172_8_eq]
        · by_cases h4 : w = 0
          · subst h4
            simp at s z b9
            simp [fEq_self, hn, i1, i2, z, s, b9]
          · simp [h3, h4] at z b9
            simp [fEq_self, hn, i1, i2, z, b9, h1, h2, h3, h4]
end Go.Proofs.YtchmioacjkbfcaaGreat.AI
