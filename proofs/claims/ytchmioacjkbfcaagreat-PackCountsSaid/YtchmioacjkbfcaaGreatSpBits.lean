/- The bits' library: how many bits a number has; a number of 128 bits divided. -/
import Derived.Test.YtchmioacjkbfcaaGreatEqLibbits
import Derived.Test.YtchmioacjkbfcaaGreatMe
import Derived.Test.YtchmioacjkbfcaaGreatMd
import Derived.KernelRfl
namespace Go.Proofs.YtchmioacjkbfcaaGreat.AI
open Go
set_option linter.unusedVariables false
set_option linter.unusedSimpArgs false
set_option maxRecDepth 100000

/-- 2^63 has 64 bits. -/
theorem run_len_top (hp : Hp) : run cxX 180 [.sc (.int .u64 9223372036854775808)] hp = some (.sc (.int .i64 64), hp) := by
  have h1 : run cxX 180 [.sc (.int .u64 9223372036854775808)] hp = B180_4 (.int .u64 2147483648) (.int .i64 32) hp := (E180 _ _).trans (by kernel_rfl)
  have h2 : B180_4 (.int .u64 2147483648) (.int .i64 32) hp = B180_7 (.int .u64 32768) (.int .i64 48) hp := (B180_4_eq _ _ _).trans (by kernel_rfl)
  have h3 : B180_7 (.int .u64 32768) (.int .i64 48) hp = B180_10 (.int .u64 128) (.int .i64 56) hp := (B180_7_eq _ _ _).trans (by kernel_rfl)
  have h4 : B180_10 (.int .u64 128) (.int .i64 56) hp = some (.sc (.int .i64 64), hp) := (B180_10_eq _ _ _).trans (by kernel_rfl)
  rw [h1, h2, h3, h4]
theorem run_lz_top (hp : Hp) : run cxX 168 [.sc (.int .u64 9223372036854775808)] hp = some (.sc (.int .i64 0), hp) := by
  rw [E168]
  simp [run_len_top]
noncomputable def tab8 : Value := .string ⟨#[0, 1, 2, 2, 3, 3, 3, 3, 4, 4, 4, 4, 4, 4, 4, 4, 5, 5, 5, 5, 5, 5, 5, 5, 5, 5, 5, 5, 5, 5, 5, 5, 6, 6, 6, 6, 6, 6, 6, 6, 6, 6, 6, 6, 6, 6, 6, 6, 6, 6, 6, 6, 6, 6, 6, 6, 6, 6, 6, 6, 6, 6, 6, 6, 7, 7, 7, 7, 7, 7, 7, 7, 7, 7, 7, 7, 7, 7, 7, 7, 7, 7, 7, 7, 7, 7, 7, 7, 7, 7, 7, 7, 7, 7, 7, 7, 7, 7, 7, 7, 7, 7, 7, 7, 7, 7, 7, 7, 7, 7, 7, 7, 7, 7, 7, 7, 7, 7, 7, 7, 7, 7, 7, 7, 7, 7, 7, 7, 8, 8, 8, 8, 8, 8, 8, 8, 8, 8, 8, 8, 8, 8, 8, 8, 8, 8, 8, 8, 8, 8, 8, 8, 8, 8, 8, 8, 8, 8, 8, 8, 8, 8, 8, 8, 8, 8, 8, 8, 8, 8, 8, 8, 8, 8, 8, 8, 8, 8, 8, 8, 8, 8, 8, 8, 8, 8, 8, 8, 8, 8, 8, 8, 8, 8, 8, 8, 8, 8, 8, 8, 8, 8, 8, 8, 8, 8, 8, 8, 8, 8, 8, 8, 8, 8, 8, 8, 8, 8, 8, 8, 8, 8, 8, 8, 8, 8, 8, 8, 8, 8, 8, 8, 8, 8, 8, 8, 8, 8, 8, 8, 8, 8, 8, 8, 8, 8, 8, 8, 8, 8, 8, 8, 8, 8, 8, 8]⟩
theorem B180_10' (v0 v2 : Value) (hp : Hp) : B180_10 v0 v2 hp = (cvV Go.Proofs.Tryz.prog 76 5 v0).bind fun y12 => (ixV Go.Proofs.Tryz.prog 9 tab8 y12).bind fun y13 => (cvV Go.Proofs.Tryz.prog 5 3 y13).bind fun y14 => (binV Go.Proofs.Tryz.prog .add 3 (.tmp 19) (.tmp 23) v2 y14).bind fun y15 => some (.sc y15, hp) :=
  (B180_10_eq _ _ _).trans (by kernel_rfl)
noncomputable def tabOk (x : Nat) : Bool :=
  match ixV Go.Proofs.Tryz.prog 9 tab8 (.int .u8 (x : Int)) with
  | some (.int .u8 (.ofNat n)) => decide (n ≤ 8) && decide (x < 2 ^ n) && (decide (n = 0) || decide (2 ^ (n - 1) ≤ x))
  | _ => false
theorem tab_all : (List.range 256).all tabOk = true := by kernel_rfl
theorem tab_ok (x : Nat) (h : x < 256) : ∃ n : Nat, n ≤ 8 ∧ Bl x n ∧ ixV Go.Proofs.Tryz.prog 9 tab8 (.int .u8 (x : Int)) = some (.int .u8 (n : Int)) := by
  have hx := List.all_eq_true.mp tab_all x (List.mem_range.mpr h)
  unfold tabOk at hx
  split at hx
  · rename_i n e
    simp only [Bool.and_eq_true, Bool.or_eq_true, decide_eq_true_eq] at hx
    exact ⟨n, hx.1.1, ⟨hx.1.2, hx.2⟩, e⟩
  · cases hx
theorem cv8 (n : Int) : cvV Go.Proofs.Tryz.prog 5 3 (.int .u8 n) = some (.int .i64 (IntKind.i64.wrap n)) := cv_5_3 n
theorem wrap64n (n : Nat) (h : n < 1000000) : IntKind.i64.wrap (n : Int) = n := wrap64 (by omega) (by omega)
theorem len10 (x v : Nat) (h : x < 256) (hv : v ≤ 100) : ∃ n, n ≤ 8 ∧ Bl x n ∧ ∀ hp, B180_10 (.int .u64 (x : Int)) (.int .i64 (v : Int)) hp = some (.sc (.int .i64 ((n + v : Nat) : Int)), hp) := by
  obtain ⟨n, h1, h2, h3⟩ := tab_ok x h
  refine ⟨n, h1, h2, fun hp => ?_⟩
  have w : IntKind.u8.wrap (x : Int) = x := wrapu8 (by omega) (by omega)
  have w2 : IntKind.i64.wrap (n : Int) = n := wrap64n n (by omega)
  have w3 : IntKind.i64.wrap ((v : Int) + (n : Int)) = ((n + v : Nat) : Int) := by rw [wrap64] <;> omega
  rw [B180_10']
  simp [cv_76_5, w, h3, cv8, w2, w3]
theorem shr_nat (x k : Nat) (hk : k ≤ 64) (o o' : Operand) (K : IntKind) : binV Go.Proofs.Tryz.prog .shr 76 o o' (.int .u64 (x : Int)) (.int K (k : Int)) = some (.int .u64 ((x / 2 ^ k : Nat) : Int)) := by
  rw [binV_shr _ _ _ _ _ _ _ _ (by omega)]
  have e : min ((k : Int)).toNat IntKind.u64.bits = k := by
    have : IntKind.u64.bits = 64 := rfl
    rw [this]; omega
  rw [e, Int.fdiv_eq_ediv_of_nonneg _ (by exact_mod_cast Nat.zero_le (2 ^ k))]
  congr 2
theorem len7 (x v : Nat) (h : x < 65536) (hv : v ≤ 90) : ∃ n, n ≤ 16 ∧ Bl x n ∧ ∀ hp, B180_7 (.int .u64 (x : Int)) (.int .i64 (v : Int)) hp = some (.sc (.int .i64 ((n + v : Nat) : Int)), hp) := by
  by_cases hx : 256 ≤ x
  · obtain ⟨n, h1, h2, h3⟩ := len10 (x / 2 ^ 8) (v + 8) (by omega) (by omega)
    refine ⟨n + 8, by omega, h2.up (by omega), fun hp => ?_⟩
    have s := shr_nat x 8 (by omega) (.tmp 15) (.const (.int .u64 8)) .u64
    have c : (256 : Int) ≤ (x : Int) := by omega
    have w : IntKind.i64.wrap ((v : Int) + 8) = ((v + 8 : Nat) : Int) := by rw [wrap64] <;> omega
    have e : n + (v + 8) = n + 8 + v := by omega
    rw [e] at h3
    rw [B180_7_eq]
    simp at s w h3
    simp [c, s, w, h3]
  · obtain ⟨n, h1, h2, h3⟩ := len10 x v (by omega) (by omega)
    refine ⟨n, by omega, h2, fun hp => ?_⟩
    have c : ¬((256 : Int) ≤ (x : Int)) := by omega
    rw [B180_7_eq]
    simp at h3
    simp [c, h3]
theorem len4 (x v : Nat) (h : x < 4294967296) (hv : v ≤ 70) : ∃ n, n ≤ 32 ∧ Bl x n ∧ ∀ hp, B180_4 (.int .u64 (x : Int)) (.int .i64 (v : Int)) hp = some (.sc (.int .i64 ((n + v : Nat) : Int)), hp) := by
  by_cases hx : 65536 ≤ x
  · obtain ⟨n, h1, h2, h3⟩ := len7 (x / 2 ^ 16) (v + 16) (by omega) (by omega)
    refine ⟨n + 16, by omega, h2.up (by omega), fun hp => ?_⟩
    have s := shr_nat x 16 (by omega) (.tmp 9) (.const (.int .u64 16)) .u64
    have c : (65536 : Int) ≤ (x : Int) := by omega
    have w : IntKind.i64.wrap ((v : Int) + 16) = ((v + 16 : Nat) : Int) := by rw [wrap64] <;> omega
    have e : n + (v + 16) = n + 16 + v := by omega
    rw [e] at h3
    rw [B180_4_eq]
    simp at s w h3
    simp [c, s, w, h3]
  · obtain ⟨n, h1, h2, h3⟩ := len7 x v (by omega) (by omega)
    refine ⟨n, by omega, h2, fun hp => ?_⟩
    have c : ¬((65536 : Int) ≤ (x : Int)) := by omega
    rw [B180_4_eq]
    simp at h3
    simp [c, h3]
theorem run_len64 (x : Nat) (h : x < 18446744073709551616) : ∃ n, n ≤ 64 ∧ Bl x n ∧ ∀ hp, run cxX 180 [.sc (.int .u64 (x : Int))] hp = some (.sc (.int .i64 (n : Int)), hp) := by
  by_cases hx : 4294967296 ≤ x
  · obtain ⟨n, h1, h2, h3⟩ := len4 (x / 2 ^ 32) 32 (by omega) (by omega)
    refine ⟨n + 32, by omega, h2.up (by omega), fun hp => ?_⟩
    have s := shr_nat x 32 (by omega) (.tmp 5) (.const (.int .u64 32)) .u64
    have c : (4294967296 : Int) ≤ (x : Int) := by omega
    rw [E180]
    simp at s h3
    simp [c, s, h3]
  · obtain ⟨n, h1, h2, h3⟩ := len4 x 0 (by omega) (by omega)
    refine ⟨n, by omega, h2, fun hp => ?_⟩
    have c : ¬((4294967296 : Int) ≤ (x : Int)) := by omega
    rw [E180]
    simp at h3
    simp [c, h3]
/-- How many noughts a number begins with. -/
theorem run_lz (x : Nat) (h : x < 18446744073709551616) (h0 : 0 < x) : ∃ s : Nat, s ≤ 63 ∧ x * 2 ^ s < 18446744073709551616 ∧ 9223372036854775808 ≤ x * 2 ^ s ∧ ∀ hp, run cxX 168 [.sc (.int .u64 (x : Int))] hp = some (.sc (.int .i64 (s : Int)), hp) := by
  obtain ⟨n, h1, ⟨h2, h3⟩, h4⟩ := run_len64 x h
  have hn : n ≠ 0 := by
    intro e
    subst e
    simp at h2
    omega
  have h3 := h3.resolve_left hn
  refine ⟨64 - n, by omega, ?_, ?_, fun hp => ?_⟩
  · have : x * 2 ^ (64 - n) < 2 ^ n * 2 ^ (64 - n) := Nat.mul_lt_mul_of_pos_right h2 (Nat.two_pow_pos _)
    rw [← Nat.pow_add, show n + (64 - n) = 64 by omega] at this
    exact this
  · have : 2 ^ (n - 1) * 2 ^ (64 - n) ≤ x * 2 ^ (64 - n) := Nat.mul_le_mul h3 (Nat.le_refl _)
    rw [← Nat.pow_add, show n - 1 + (64 - n) = 63 by omega] at this
    exact this
  · have w : IntKind.i64.wrap (64 - (n : Int)) = ((64 - n : Nat) : Int) := by rw [wrap64] <;> omega
    rw [E168]
    simp [h4, w]
    try omega
/-! ### a digit -/
theorem wmul (a b : Nat) (h : a * b < 18446744073709551616) : IntKind.u64.wrap ((a : Int) * (b : Int)) = ((a * b : Nat) : Int) := by
  rw [← Int.natCast_mul]
  exact wrapu64 (by omega) (by omega)
theorem wsub (a b : Nat) (h : b ≤ a) (ha : a < 18446744073709551616) : IntKind.u64.wrap ((a : Int) - (b : Int)) = ((a - b : Nat) : Int) := by
  rw [wrapu64] <;> omega
theorem wadd (a b : Nat) (h : a + b < 18446744073709551616) : IntKind.u64.wrap ((a : Int) + (b : Int)) = ((a + b : Nat) : Int) := by
  rw [wrapu64] <;> omega
theorem shl_nat (x k : Nat) (hk : k ≤ 64) (h : x * 2 ^ k < 18446744073709551616) (o o' : Operand) (K : IntKind) : binV Go.Proofs.Tryz.prog .shl 76 o o' (.int .u64 (x : Int)) (.int K (k : Int)) = some (.int .u64 ((x * 2 ^ k : Nat) : Int)) := by
  rw [binV_shl _ _ _ _ _ _ _ _ (by omega)]
  have e : min ((k : Int)).toNat IntKind.u64.bits = k := by
    have : IntKind.u64.bits = 64 := rfl
    rw [this]; omega
  rw [e]
  have e2 : (x : Int) * 2 ^ k = ((x * 2 ^ k : Nat) : Int) := by
    rw [Int.natCast_mul, Int.natCast_pow]; rfl
  rw [e2, wrapu64 (by omega) (by omega)]
theorem and_nat (x : Nat) (h : x < 18446744073709551616) (o o' : Operand) : binV Go.Proofs.Tryz.prog .and 76 o o' (.int .u64 (x : Int)) (.int .u64 ((4294967295 : Nat) : Int)) = some (.int .u64 ((x % 4294967296 : Nat) : Int)) := by
  rw [binV_and]
  have e : (BitVec.ofInt 64 (x : Int) &&& BitVec.ofInt 64 ((4294967295 : Nat) : Int)).toNat = x % 4294967296 := by
    rw [BitVec.toNat_and, BitVec.toNat_ofInt, BitVec.toNat_ofInt]
    have e1 : (((x : Int) % ((2 ^ 64 : Nat) : Int)).toNat) = x := by omega
    have e2 : ((((4294967295 : Nat) : Int) % ((2 ^ 64 : Nat) : Int)).toNat) = 2 ^ 32 - 1 := by decide
    rw [e1, e2, Nat.and_two_pow_sub_one_eq_mod]
  show some (Value.int .u64 (IntKind.u64.wrap ((BitVec.ofInt 64 (x : Int) &&& BitVec.ofInt 64 ((4294967295 : Nat) : Int)).toNat : Nat))) = _
  rw [e, wrapu64 (by omega) (by omega)]
theorem or_zero (x : Nat) (h : x < 18446744073709551616) (o o' : Operand) : binV Go.Proofs.Tryz.prog .or 76 o o' (.int .u64 (x : Int)) (.int .u64 ((0 : Nat) : Int)) = some (.int .u64 (x : Int)) := by
  rw [binV_or]
  have e : (BitVec.ofInt 64 (x : Int) ||| BitVec.ofInt 64 ((0 : Nat) : Int)).toNat = x := by
    rw [BitVec.toNat_or, BitVec.toNat_ofInt, BitVec.toNat_ofInt]
    have e1 : (((x : Int) % ((2 ^ 64 : Nat) : Int)).toNat) = x := by omega
    have e2 : ((((0 : Nat) : Int) % ((2 ^ 64 : Nat) : Int)).toNat) = 0 := by decide
    rw [e1, e2, Nat.or_zero]
  show some (Value.int .u64 (IntKind.u64.wrap ((BitVec.ofInt 64 (x : Int) ||| BitVec.ofInt 64 ((0 : Nat) : Int)).toNat : Nat))) = _
  rw [e, wrapu64 (by omega) (by omega)]
theorem wnat (n : Nat) (h : n < 18446744073709551616) : IntKind.u64.wrap (n : Int) = n := wrapu64 (by omega) (by omega)
theorem quo_nat (x y : Nat) (hy : 0 < y) (h : x < 18446744073709551616) (o o' : Operand) : binV Go.Proofs.Tryz.prog .quo 76 o o' (.int .u64 (x : Int)) (.int .u64 (y : Int)) = some (.int .u64 ((x / y : Nat) : Int)) := by
  rw [binV_quo _ _ _ _ _ _ _ (by omega), Int.tdiv_eq_ediv_of_nonneg (by omega), ← Int.natCast_ediv]
  rw [wnat _ (Nat.lt_of_le_of_lt (Nat.div_le_self x y) h)]
theorem rem_nat (x y : Nat) (hy : 0 < y) (o o' : Operand) : binV Go.Proofs.Tryz.prog .rem 76 o o' (.int .u64 (x : Int)) (.int .u64 (y : Int)) = some (.int .u64 ((x % y : Nat) : Int)) := by
  rw [binV_rem _ _ _ _ _ _ _ (by omega), tmod_pos (by omega), ← Int.natCast_emod]
theorem mul_nat (x y : Nat) (h : x * y < 18446744073709551616) (o o' : Operand) : binV Go.Proofs.Tryz.prog .mul 76 o o' (.int .u64 (x : Int)) (.int .u64 (y : Int)) = some (.int .u64 ((x * y : Nat) : Int)) := by
  rw [binV_mul, wmul x y h]
theorem sub_nat (x y : Nat) (h : y ≤ x) (hx : x < 18446744073709551616) (o o' : Operand) (t : TypeId) : binV Go.Proofs.Tryz.prog .sub t o o' (.int .u64 (x : Int)) (.int .u64 (y : Int)) = some (.int .u64 ((x - y : Nat) : Int)) := by
  rw [binV_sub, wsub x y h hx]
theorem add_nat (x y : Nat) (h : x + y < 18446744073709551616) (o o' : Operand) : binV Go.Proofs.Tryz.prog .add 76 o o' (.int .u64 (x : Int)) (.int .u64 (y : Int)) = some (.int .u64 ((x + y : Nat) : Int)) := by
  rw [binV_add, wadd x y h]
/-- The rest behind the first digit. -/
theorem rest_nat (u y t : Nat) (h : t * y ≤ u * 4294967296) (h2 : u * 4294967296 - t * y < y) (hy : y < 18446744073709551616) (o1 o2 o3 o4 o5 o6 o7 o8 : Operand) :
    ((binV Go.Proofs.Tryz.prog .mul 76 o1 o2 (.int .u64 (u : Int)) (.int .u64 ((4294967296 : Nat) : Int))).bind fun y38 => (binV Go.Proofs.Tryz.prog .add 76 o3 o4 y38 (.int .u64 ((0 : Nat) : Int))).bind fun y39 => (binV Go.Proofs.Tryz.prog .mul 76 o5 o6 (.int .u64 (t : Int)) (.int .u64 (y : Int))).bind fun y40 =>
      binV Go.Proofs.Tryz.prog .sub 76 o7 o8 y39 y40) = some (.int .u64 ((u * 4294967296 - t * y : Nat) : Int)) := by
  simp only [binV_mul, binV_add, binV_sub, Option.bind_some]
  congr 2
  rw [IntKind.wrap_u64, IntKind.wrap_u64, IntKind.wrap_u64, IntKind.wrap_u64, ← Int.natCast_mul, ← Int.natCast_mul]
  generalize t * y = z at *
  generalize u * 4294967296 = v at *
  omega
/-! ### the same with a letter for 2^32 -/
section
variable {B : Nat} (hB : B = 4294967296)
include hB
theorem dig_firstB {y1 y0 u Y : Nat} (hY : y1 * B + y0 = Y) (h1 : 0 < y1) : u * B / Y ≤ u / y1 := by
  subst hB
  have h := dig_first (y1 := y1) (y0 := y0) (u := u) (d := 0) h1 (by omega)
  rw [hY, Nat.add_zero] at h
  exact h
theorem dig_guessB {y1 y0 u Y : Nat} (hY : y1 * B + y0 = Y) (h1 : 2147483648 ≤ y1) (h0 : y0 < B) (hu : u < Y) : u / y1 ≤ 4294967297 := by
  subst hB
  exact dig_guess (y0 := y0) h1 h0 (by rw [hY]; exact hu)
theorem dig_ltB {u Y : Nat} (hu : u < Y) : u * B / Y < B := by
  subst hB
  have h := dig_lt (y := Y) (u := u) (d := 0) hu (by omega)
  rw [Nat.add_zero] at h
  exact h
theorem rest_natB (u y t : Nat) (h : t * y ≤ u * B) (h2 : u * B - t * y < y) (hy : y < 18446744073709551616) (o1 o2 o3 o4 o5 o6 o7 o8 : Operand) :
    ((binV Go.Proofs.Tryz.prog .mul 76 o1 o2 (.int .u64 (u : Int)) (.int .u64 ((4294967296 : Nat) : Int))).bind fun y38 => (binV Go.Proofs.Tryz.prog .add 76 o3 o4 y38 (.int .u64 ((0 : Nat) : Int))).bind fun y39 => (binV Go.Proofs.Tryz.prog .mul 76 o5 o6 (.int .u64 (t : Int)) (.int .u64 (y : Int))).bind fun y40 =>
      binV Go.Proofs.Tryz.prog .sub 76 o7 o8 y39 y40) = some (.int .u64 ((u * B - t * y : Nat) : Int)) := by
  subst hB
  exact rest_nat u y t h h2 hy o1 o2 o3 o4 o5 o6 o7 o8
theorem mul_natB (x : Nat) (h : x < B) (o o' : Operand) : binV Go.Proofs.Tryz.prog .mul 76 o o' (.int .u64 (x : Int)) (.int .u64 ((4294967296 : Nat) : Int)) = some (.int .u64 ((x * B : Nat) : Int)) := by
  subst hB
  exact mul_nat x 4294967296 (by omega) o o'
theorem lt_sq {t r : Nat} (ht : t < B) (hr : r < B) : t * B + r < 18446744073709551616 := by
  subst hB
  omega
theorem and_natB (x : Nat) (h : x < 18446744073709551616) (o o' : Operand) : binV Go.Proofs.Tryz.prog .and 76 o o' (.int .u64 (x : Int)) (.int .u64 ((4294967295 : Nat) : Int)) = some (.int .u64 ((x % B : Nat) : Int)) := by
  subst hB
  exact and_nat x h o o'
theorem shr_natB (x : Nat) (o o' : Operand) : binV Go.Proofs.Tryz.prog .shr 76 o o' (.int .u64 (x : Int)) (.int .u64 ((32 : Nat) : Int)) = some (.int .u64 ((x / B : Nat) : Int)) := by
  subst hB
  exact shr_nat x 32 (by omega) o o' .u64
theorem norm_div (k y s : Nat) : k * 18446744073709551616 / y = k * 2 ^ s * (B * B) / (y * 2 ^ s) := by
  have e : k * 2 ^ s * (B * B) = k * (B * B) * 2 ^ s := by
    rw [Nat.mul_assoc, Nat.mul_comm (2 ^ s), ← Nat.mul_assoc]
  have e2 : B * B = 18446744073709551616 := by rw [hB]
  rw [e, Nat.mul_div_mul_right _ _ (Nat.two_pow_pos s), e2]
end
theorem mod_sub (U Y B : Nat) (hY : 0 < Y) : U * B - U * B / Y * Y < Y := by
  have e : U * B - U * B / Y * Y = U * B % Y := by
    have e := Nat.div_add_mod (U * B) Y
    rw [Nat.mul_comm Y] at e
    omega
  rw [e]
  exact Nat.mod_lt _ hY
theorem mod_sub1 (U y : Nat) (hY : 0 < y) : U - U / y * y < y := by
  have e : U - U / y * y = U % y := by
    have e := Nat.div_add_mod U y
    rw [Nat.mul_comm y] at e
    omega
  rw [e]
  exact Nat.mod_lt _ hY
end Go.Proofs.YtchmioacjkbfcaaGreat.AI
