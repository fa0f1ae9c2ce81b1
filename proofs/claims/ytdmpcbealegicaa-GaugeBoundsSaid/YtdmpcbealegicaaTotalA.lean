/- Floats in a row: keys, the float of a key, which comes ahead. -/
import Derived.Test.YtdmpcbealegicaaTEq
import Derived.Test.YtdmpcbealegicaaFl
import Derived.Test.YtdmpcbealegicaaArg
import Derived.KernelRfl
namespace Go.Proofs.Ytdmpcbealegicaa.AI
open Go
set_option linter.unusedVariables false
set_option linter.unusedSimpArgs false

/-- A float. -/
abbrev fl (w : Nat) : AV := .sc (.float .f64 w)
theorem x_bits (w : Nat) : one (extX Go.Proofs.Try.prog 18 [.float .f64 w]) = some (.int .u64 (w : Int)) := by kernel_rfl
theorem x_from (n : Int) : one (extX Go.Proofs.Try.prog 40 [.int .u64 n]) = some (.float .f64 n.toNat) := by kernel_rfl
theorem beq_tt (x y : Operand) : binV Go.Proofs.Try.prog .eql 4 x y (.bool true) (.bool true) = some (.bool true) := by kernel_rfl
theorem beq_tf (x y : Operand) : binV Go.Proofs.Try.prog .eql 4 x y (.bool true) (.bool false) = some (.bool false) := by kernel_rfl
theorem beq_ft (x y : Operand) : binV Go.Proofs.Try.prog .eql 4 x y (.bool false) (.bool true) = some (.bool false) := by kernel_rfl
theorem beq_ff (x y : Operand) : binV Go.Proofs.Try.prog .eql 4 x y (.bool false) (.bool false) = some (.bool true) := by kernel_rfl
@[simp] theorem beq_bb (x y : Operand) (a b : Bool) : binV Go.Proofs.Try.prog .eql 4 x y (.bool a) (.bool b) = some (.bool (decide (a = b))) := by
  cases a <;> cases b
  · exact beq_ff x y
  · exact beq_ft x y
  · exact beq_tf x y
  · exact beq_tt x y
theorem cv_5_22 (n : Int) : cvV Go.Proofs.Try.prog 5 22 (.int .u8 n) = some (.int .u64 (IntKind.u64.wrap n)) := by kernel_rfl
theorem cv_22_3 (n : Int) : cvV Go.Proofs.Try.prog 22 3 (.int .u64 n) = some (.int .i64 (IntKind.i64.wrap n)) := by kernel_rfl
theorem cv_22_2 (n : Int) : cvV Go.Proofs.Try.prog 22 2 (.int .u64 n) = some (.int .i64 (IntKind.i64.wrap n)) := by kernel_rfl
theorem cv_22_24 (n : Int) : cvV Go.Proofs.Try.prog 22 24 (.int .u64 n) = some (.float .f64 (FloatKind.f64.nearest n)) := by kernel_rfl
theorem cv_2_24 (n : Int) : cvV Go.Proofs.Try.prog 2 24 (.int .i64 n) = some (.float .f64 (FloatKind.f64.nearest n)) := by kernel_rfl
theorem run_isnan (w : Nat) (hp : Hp) : run cxX 41 [fl w] hp = some (.sc (.bool (decide (isN w))), hp) := by
  rw [E41]
  simp [fEq_self]
/-- The key. -/
theorem run_key (w : Nat) (h : w < 18446744073709551616) (hp : Hp) : run cxX 15 [fl w] hp = some (.sc (.int .u64 (kw w : Int)), hp) := by
  rw [E15]
  unfold kw
  by_cases hn : isN w
  · simp [x_bits, run_isnan, hn, B15_7_eq]
  · by_cases hl : w < 9223372036854775808
    · have e := binV_or_top Go.Proofs.Try.prog 22 (Go.Operand.tmp 6) (Go.Operand.const (.int .u64 (Int.ofNat 9223372036854775808))) w hl
      have e' := binV_and_lo Go.Proofs.Try.prog 22 (Go.Operand.tmp 12) (Go.Operand.const (.int .u64 (Int.ofNat 9223372036854775808))) w hl
      simp at e e'
      simp [x_bits, run_isnan, hn, hl, e, e', B15_7_eq]
    · have e' := binV_and_hi Go.Proofs.Try.prog 22 (Go.Operand.tmp 12) (Go.Operand.const (.int .u64 (Int.ofNat 9223372036854775808))) w (by omega) h
      have e := unV_not64 Go.Proofs.Try.prog w h
      simp at e e'
      simp [x_bits, run_isnan, hn, hl, e, e', B15_7_eq]
/-- The float of a key. -/
theorem run_of (k : Nat) (h : k < 18446744073709551616) (hp : Hp) : run cxX 14 [.sc (.int .u64 (k : Int))] hp = some (.tup [fl (wk k), .sc (.bool (ofOk k))], hp) := by
  have e4 : ∀ hp, B14_4 (.int .u64 (k : Int)) (.int .u64 (wk k : Int)) hp = some (.tup [fl (wk k), .sc (.bool (ofOk k))], hp) := by
    intro hp
    rw [B14_4_eq]
    have hk := fun hp => run_key (wk k) (wk_lt k h) hp
    have hd : decide ((kw (wk k) : Int) = (k : Int)) = ofOk k := by
      unfold ofOk
      apply decide_eq_decide.mpr
      omega
    simp [x_from, hk, hd]
  rw [E14]
  have c := binV_clear Go.Proofs.Try.prog 22 (Go.Operand.tmp 6) (Go.Operand.const (.int .u64 (Int.ofNat 9223372036854775808))) k h
  have n := unV_not64 Go.Proofs.Try.prog k h
  by_cases hl : k < 9223372036854775808
  · have e' := binV_and_lo Go.Proofs.Try.prog 22 (Go.Operand.tmp 8) (Go.Operand.const (.int .u64 (Int.ofNat 9223372036854775808))) k hl
    have w : wk k = 18446744073709551615 - k := by unfold wk; rw [if_pos hl]
    rw [w] at e4
    rw [← w] at e4
    rw [← w] at n
    simp at c n e'
    simp [c, n, e', e4]
  · have e' := binV_and_hi Go.Proofs.Try.prog 22 (Go.Operand.tmp 8) (Go.Operand.const (.int .u64 (Int.ofNat 9223372036854775808))) k (by omega) h
    have w : wk k = k % 9223372036854775808 := by unfold wk; rw [if_neg hl]; omega
    rw [← w] at c
    simp at c e'
    simp [c, e', e4]
theorem run_less (a b : Nat) (ha : a < 18446744073709551616) (hb : b < 18446744073709551616) (hp : Hp) : run cxX 20 [fl a, fl b] hp = some (.sc (.bool (decide (kw a < kw b))), hp) := by
  rw [E20]
  simp [run_key a ha, run_key b hb]
theorem run_fsame (a b : Nat) (ha : a < 18446744073709551616) (hb : b < 18446744073709551616) (hp : Hp) : run cxX 21 [fl a, fl b] hp = some (.sc (.bool (decide (kw a = kw b))), hp) := by
  rw [E21]
  simp [run_key a ha, run_key b hb]
  omega
/-- The one that comes ahead, the one that doesn't. -/
def fmin (a b : Nat) : Nat := if kw b < kw a then b else a
def fmax (a b : Nat) : Nat := if kw a < kw b then b else a
theorem fmin_lt {a b : Nat} (ha : a < 18446744073709551616) (hb : b < 18446744073709551616) : fmin a b < 18446744073709551616 := by unfold fmin; split <;> assumption
theorem fmax_lt {a b : Nat} (ha : a < 18446744073709551616) (hb : b < 18446744073709551616) : fmax a b < 18446744073709551616 := by unfold fmax; split <;> assumption
theorem run_fmin (a b : Nat) (ha : a < 18446744073709551616) (hb : b < 18446744073709551616) (hp : Hp) : run cxX 22 [fl a, fl b] hp = some (fl (fmin a b), hp) := by
  rw [E22]
  unfold fmin
  by_cases h : kw b < kw a <;> simp [run_less b a hb ha, h]
theorem run_fmax (a b : Nat) (ha : a < 18446744073709551616) (hb : b < 18446744073709551616) (hp : Hp) : run cxX 23 [fl a, fl b] hp = some (fl (fmax a b), hp) := by
  rw [E23]
  unfold fmax
  by_cases h : kw a < kw b <;> simp [run_less a b ha hb, h]
/-- One float with another one's sign. -/
theorem run_nan (hp : Hp) : run cxX 42 [] hp = some (fl 9221120237041090561, hp) := by
  rw [E42]
  simp [x_from]
theorem run_inf (s : Int) (hp : Hp) : run cxX 33 [.sc (.int .i64 s)] hp = some (fl (if 0 ≤ s then 9218868437227405312 else 18442240474082181120), hp) := by
  rw [E33]
  by_cases h : 0 ≤ s <;> simp [h, B33_5_eq, x_from]
theorem run_cs0_neg (hp : Hp) : run cxX 39 [fl 0, fl 13830554455654793216] hp = some (fl 9223372036854775808, hp) := (E39 _ _ _).trans (by kernel_rfl)
theorem run_cs0_mhalf (hp : Hp) : run cxX 39 [fl 0, fl 13826050856027422720] hp = some (fl 9223372036854775808, hp) := (E39 _ _ _).trans (by kernel_rfl)
theorem run_cs0_half (hp : Hp) : run cxX 39 [fl 0, fl 4602678819172646912] hp = some (fl 0, hp) := (E39 _ _ _).trans (by kernel_rfl)
theorem run_tawake (hp : Hp) : run cxX 13 [] hp = some (.sc (.bool true), hp) := by
  rw [E13]
  have h1 : kw 0 = 9223372036854775808 := by decide
  have h2 : kw 9223372036854775808 = 9223372036854775807 := by decide
  have k := fun hp => run_key 0 (by decide) hp
  have l := fun hp => run_less 9223372036854775808 0 (by decide) (by decide) hp
  have c := run_cs0_neg
  rw [h1] at k
  rw [h1, h2] at l
  simp at k l c
  simp [k, l, c]
end Go.Proofs.Ytdmpcbealegicaa.AI
