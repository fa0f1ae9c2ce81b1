/- The bits' library: how many bits a number has; a number of 128 bits divided. -/
import Derived.Test.YtalnoedhacobkaaEqLibbits
import Derived.Test.YtalnoedhacobkaaFun
import Derived.Test.YtalnoedhacobkaaDivN
import Derived.KernelRfl
namespace Go.Proofs.Ytalnoedhacobkaa.AI
open Go
set_option linter.unusedVariables false
set_option linter.unusedSimpArgs false
set_option maxRecDepth 100000

/-- 2^63 has 64 bits. -/
theorem run_len_top (hp : Hp) : run cxX 122 [.sc (.int .u64 9223372036854775808)] hp = some (.sc (.int .i64 64), hp) := by
  have h1 : run cxX 122 [.sc (.int .u64 9223372036854775808)] hp = B122_4 (.int .u64 2147483648) (.int .i64 32) hp := (E122 _ _).trans (by kernel_rfl)
  have h2 : B122_4 (.int .u64 2147483648) (.int .i64 32) hp = B122_7 (.int .u64 32768) (.int .i64 48) hp := (B122_4_eq _ _ _).trans (by kernel_rfl)
  have h3 : B122_7 (.int .u64 32768) (.int .i64 48) hp = B122_10 (.int .u64 128) (.int .i64 56) hp := (B122_7_eq _ _ _).trans (by kernel_rfl)
  have h4 : B122_10 (.int .u64 128) (.int .i64 56) hp = some (.sc (.int .i64 64), hp) := (B122_10_eq _ _ _).trans (by kernel_rfl)
  rw [h1, h2, h3, h4]
theorem run_lz_top (hp : Hp) : run cxX 93 [.sc (.int .u64 9223372036854775808)] hp = some (.sc (.int .i64 0), hp) := by
  rw [E93]
  simp [run_len_top]
/-- 2^64, divided by 2^63. -/
theorem run_div_two (hp : Hp) : run cxX 63 [.sc (.int .u64 1), .sc (.int .u64 0), .sc (.int .u64 9223372036854775808)] hp = some (.tup [.sc (.int .u64 2), .sc (.int .u64 0)], hp) := by
  have h1 : run cxX 63 [.sc (.int .u64 1), .sc (.int .u64 0), .sc (.int .u64 9223372036854775808)] hp = B63_3 (.int .u64 1) (.int .u64 0) (.int .u64 9223372036854775808) hp := (E63 _ _ _ _).trans (by kernel_rfl)
  have h2 : B63_3 (.int .u64 1) (.int .u64 0) (.int .u64 9223372036854775808) hp = B63_5 (.int .u64 1) (.int .u64 0) (.int .u64 9223372036854775808) hp := (B63_3_eq _ _ _ _).trans (by kernel_rfl)
  have h3 : B63_5 (.int .u64 1) (.int .u64 0) (.int .u64 9223372036854775808) hp = B63_17 (.int .u64 9223372036854775808) (.int .u64 0) (.int .u64 2147483648) (.int .u64 0) (.int .u64 1) (.int .u64 0) (.int .u64 0) (.int .u64 0) (.int .u64 1) hp := by
    rw [B63_5_eq]
    simp only [ro_sc, run_lz_top]
    kernel_rfl
  have h4 : B63_17 (.int .u64 9223372036854775808) (.int .u64 0) (.int .u64 2147483648) (.int .u64 0) (.int .u64 1) (.int .u64 0) (.int .u64 0) (.int .u64 0) (.int .u64 1) hp = B63_21 (.int .u64 9223372036854775808) (.int .u64 0) (.int .u64 2147483648) (.int .u64 0) (.int .u64 1) (.int .u64 0) (.int .u64 0) (.int .u64 0) hp := (B63_17_eq _ _ _ _ _ _ _ _ _ _).trans (by kernel_rfl)
  have h5 : B63_21 (.int .u64 9223372036854775808) (.int .u64 0) (.int .u64 2147483648) (.int .u64 0) (.int .u64 1) (.int .u64 0) (.int .u64 0) (.int .u64 0) hp = B63_24 (.int .u64 9223372036854775808) (.int .u64 0) (.int .u64 2147483648) (.int .u64 0) (.int .u64 0) (.int .u64 0) (.int .u64 0) (.int .u64 4294967296) (.int .u64 2) hp := (B63_21_eq _ _ _ _ _ _ _ _ _).trans (by kernel_rfl)
  have h6 : B63_24 (.int .u64 9223372036854775808) (.int .u64 0) (.int .u64 2147483648) (.int .u64 0) (.int .u64 0) (.int .u64 0) (.int .u64 0) (.int .u64 4294967296) (.int .u64 2) hp = B63_28 (.int .u64 9223372036854775808) (.int .u64 0) (.int .u64 0) (.int .u64 0) (.int .u64 4294967296) (.int .u64 2) hp := (B63_24_eq _ _ _ _ _ _ _ _ _ _).trans (by kernel_rfl)
  have h7 : B63_28 (.int .u64 9223372036854775808) (.int .u64 0) (.int .u64 0) (.int .u64 0) (.int .u64 4294967296) (.int .u64 2) hp = some (.tup [.sc (.int .u64 2), .sc (.int .u64 0)], hp) := (B63_28_eq _ _ _ _ _ _ _).trans (by kernel_rfl)
  rw [h1, h2, h3, h4, h5, h6, h7]
noncomputable def tab8 : Value := .string ⟨#[0, 1, 2, 2, 3, 3, 3, 3, 4, 4, 4, 4, 4, 4, 4, 4, 5, 5, 5, 5, 5, 5, 5, 5, 5, 5, 5, 5, 5, 5, 5, 5, 6, 6, 6, 6, 6, 6, 6, 6, 6, 6, 6, 6, 6, 6, 6, 6, 6, 6, 6, 6, 6, 6, 6, 6, 6, 6, 6, 6, 6, 6, 6, 6, 7, 7, 7, 7, 7, 7, 7, 7, 7, 7, 7, 7, 7, 7, 7, 7, 7, 7, 7, 7, 7, 7, 7, 7, 7, 7, 7, 7, 7, 7, 7, 7, 7, 7, 7, 7, 7, 7, 7, 7, 7, 7, 7, 7, 7, 7, 7, 7, 7, 7, 7, 7, 7, 7, 7, 7, 7, 7, 7, 7, 7, 7, 7, 7, 8, 8, 8, 8, 8, 8, 8, 8, 8, 8, 8, 8, 8, 8, 8, 8, 8, 8, 8, 8, 8, 8, 8, 8, 8, 8, 8, 8, 8, 8, 8, 8, 8, 8, 8, 8, 8, 8, 8, 8, 8, 8, 8, 8, 8, 8, 8, 8, 8, 8, 8, 8, 8, 8, 8, 8, 8, 8, 8, 8, 8, 8, 8, 8, 8, 8, 8, 8, 8, 8, 8, 8, 8, 8, 8, 8, 8, 8, 8, 8, 8, 8, 8, 8, 8, 8, 8, 8, 8, 8, 8, 8, 8, 8, 8, 8, 8, 8, 8, 8, 8, 8, 8, 8, 8, 8, 8, 8, 8, 8, 8, 8, 8, 8, 8, 8, 8, 8, 8, 8, 8, 8, 8, 8, 8, 8, 8, 8]⟩
theorem B122_10' (v0 v2 : Value) (hp : Hp) : B122_10 v0 v2 hp = (cvV Go.Proofs.Try.prog 24 5 v0).bind fun y12 => (ixV Go.Proofs.Try.prog 9 tab8 y12).bind fun y13 => (cvV Go.Proofs.Try.prog 5 3 y13).bind fun y14 => (binV Go.Proofs.Try.prog .add 3 (.tmp 19) (.tmp 23) v2 y14).bind fun y15 => some (.sc y15, hp) :=
  (B122_10_eq _ _ _).trans (by kernel_rfl)
noncomputable def tabOk (x : Nat) : Bool :=
  match ixV Go.Proofs.Try.prog 9 tab8 (.int .u8 (x : Int)) with
  | some (.int .u8 (.ofNat n)) => decide (n ≤ 8) && decide (x < 2 ^ n) && (decide (n = 0) || decide (2 ^ (n - 1) ≤ x))
  | _ => false
theorem tab_all : (List.range 256).all tabOk = true := by kernel_rfl
theorem tab_ok (x : Nat) (h : x < 256) : ∃ n : Nat, n ≤ 8 ∧ Bl x n ∧ ixV Go.Proofs.Try.prog 9 tab8 (.int .u8 (x : Int)) = some (.int .u8 (n : Int)) := by
  have hx := List.all_eq_true.mp tab_all x (List.mem_range.mpr h)
  unfold tabOk at hx
  split at hx
  · rename_i n e
    simp only [Bool.and_eq_true, Bool.or_eq_true, decide_eq_true_eq] at hx
    exact ⟨n, hx.1.1, ⟨hx.1.2, hx.2⟩, e⟩
  · cases hx
theorem cv8 (n : Int) : cvV Go.Proofs.Try.prog 5 3 (.int .u8 n) = some (.int .i64 (IntKind.i64.wrap n)) := cv_5_3 n
theorem wrap64n (n : Nat) (h : n < 1000000) : IntKind.i64.wrap (n : Int) = n := wrap64 (by omega) (by omega)
theorem len10 (x v : Nat) (h : x < 256) (hv : v ≤ 100) : ∃ n, n ≤ 8 ∧ Bl x n ∧ ∀ hp, B122_10 (.int .u64 (x : Int)) (.int .i64 (v : Int)) hp = some (.sc (.int .i64 ((n + v : Nat) : Int)), hp) := by
  obtain ⟨n, h1, h2, h3⟩ := tab_ok x h
  refine ⟨n, h1, h2, fun hp => ?_⟩
  have w : IntKind.u8.wrap (x : Int) = x := wrapu8 (by omega) (by omega)
  have w2 : IntKind.i64.wrap (n : Int) = n := wrap64n n (by omega)
  have w3 : IntKind.i64.wrap ((v : Int) + (n : Int)) = ((n + v : Nat) : Int) := by rw [wrap64] <;> omega
  rw [B122_10']
  simp [cv_24_5, w, h3, cv8, w2, w3]
theorem shr_nat (x k : Nat) (hk : k ≤ 64) (o o' : Operand) (K : IntKind) : binV Go.Proofs.Try.prog .shr 24 o o' (.int .u64 (x : Int)) (.int K (k : Int)) = some (.int .u64 ((x / 2 ^ k : Nat) : Int)) := by
  rw [binV_shr _ _ _ _ _ _ _ _ (by omega)]
  have e : min ((k : Int)).toNat IntKind.u64.bits = k := by
    have : IntKind.u64.bits = 64 := rfl
    rw [this]; omega
  rw [e, Int.fdiv_eq_ediv_of_nonneg _ (by exact_mod_cast Nat.zero_le (2 ^ k))]
  congr 2
theorem len7 (x v : Nat) (h : x < 65536) (hv : v ≤ 90) : ∃ n, n ≤ 16 ∧ Bl x n ∧ ∀ hp, B122_7 (.int .u64 (x : Int)) (.int .i64 (v : Int)) hp = some (.sc (.int .i64 ((n + v : Nat) : Int)), hp) := by
  by_cases hx : 256 ≤ x
  · obtain ⟨n, h1, h2, h3⟩ := len10 (x / 2 ^ 8) (v + 8) (by omega) (by omega)
    refine ⟨n + 8, by omega, h2.up (by omega), fun hp => ?_⟩
    have s := shr_nat x 8 (by omega) (.tmp 15) (.const (.int .u64 8)) .u64
    have c : (256 : Int) ≤ (x : Int) := by omega
    have w : IntKind.i64.wrap ((v : Int) + 8) = ((v + 8 : Nat) : Int) := by rw [wrap64] <;> omega
    have e : n + (v + 8) = n + 8 + v := by omega
    rw [e] at h3
    rw [B122_7_eq]
    simp at s w h3
    simp [c, s, w, h3]
  · obtain ⟨n, h1, h2, h3⟩ := len10 x v (by omega) (by omega)
    refine ⟨n, by omega, h2, fun hp => ?_⟩
    have c : ¬((256 : Int) ≤ (x : Int)) := by omega
    rw [B122_7_eq]
    simp at h3
    simp [c, h3]
theorem len4 (x v : Nat) (h : x < 4294967296) (hv : v ≤ 70) : ∃ n, n ≤ 32 ∧ Bl x n ∧ ∀ hp, B122_4 (.int .u64 (x : Int)) (.int .i64 (v : Int)) hp = some (.sc (.int .i64 ((n + v : Nat) : Int)), hp) := by
  by_cases hx : 65536 ≤ x
  · obtain ⟨n, h1, h2, h3⟩ := len7 (x / 2 ^ 16) (v + 16) (by omega) (by omega)
    refine ⟨n + 16, by omega, h2.up (by omega), fun hp => ?_⟩
    have s := shr_nat x 16 (by omega) (.tmp 9) (.const (.int .u64 16)) .u64
    have c : (65536 : Int) ≤ (x : Int) := by omega
    have w : IntKind.i64.wrap ((v : Int) + 16) = ((v + 16 : Nat) : Int) := by rw [wrap64] <;> omega
    have e : n + (v + 16) = n + 16 + v := by omega
    rw [e] at h3
    rw [B122_4_eq]
    simp at s w h3
    simp [c, s, w, h3]
  · obtain ⟨n, h1, h2, h3⟩ := len7 x v (by omega) (by omega)
    refine ⟨n, by omega, h2, fun hp => ?_⟩
    have c : ¬((65536 : Int) ≤ (x : Int)) := by omega
    rw [B122_4_eq]
    simp at h3
    simp [c, h3]
theorem run_len64 (x : Nat) (h : x < 18446744073709551616) : ∃ n, n ≤ 64 ∧ Bl x n ∧ ∀ hp, run cxX 122 [.sc (.int .u64 (x : Int))] hp = some (.sc (.int .i64 (n : Int)), hp) := by
  by_cases hx : 4294967296 ≤ x
  · obtain ⟨n, h1, h2, h3⟩ := len4 (x / 2 ^ 32) 32 (by omega) (by omega)
    refine ⟨n + 32, by omega, h2.up (by omega), fun hp => ?_⟩
    have s := shr_nat x 32 (by omega) (.tmp 5) (.const (.int .u64 32)) .u64
    have c : (4294967296 : Int) ≤ (x : Int) := by omega
    rw [E122]
    simp at s h3
    simp [c, s, h3]
  · obtain ⟨n, h1, h2, h3⟩ := len4 x 0 (by omega) (by omega)
    refine ⟨n, by omega, h2, fun hp => ?_⟩
    have c : ¬((4294967296 : Int) ≤ (x : Int)) := by omega
    rw [E122]
    simp at h3
    simp [c, h3]
/-- How many noughts a number begins with. -/
theorem run_lz (x : Nat) (h : x < 18446744073709551616) (h0 : 0 < x) : ∃ s : Nat, s ≤ 63 ∧ x * 2 ^ s < 18446744073709551616 ∧ 9223372036854775808 ≤ x * 2 ^ s ∧ ∀ hp, run cxX 93 [.sc (.int .u64 (x : Int))] hp = some (.sc (.int .i64 (s : Int)), hp) := by
  obtain ⟨n, h1, ⟨h2, h3⟩, h4⟩ := run_len64 x h
  have hn : n ≠ 0 := by
    intro e
    subst e
    simp at h2
    omega
  have h3 := h3.resolve_left hn
  refine ⟨64 - n, by omega, ?_, ?_, fun hp => ?_⟩
  · have : x * 2 ^ (64 - n) < 2 ^ n * 2 ^ (64 - n) := Nat.mul_lt_mul_of_pos_right h2 (Nat.two_pow_pos _)
    rw [← Nat.pow_add, show n + (64 - n) = 64 by omega] at this
    exact this
  · have : 2 ^ (n - 1) * 2 ^ (64 - n) ≤ x * 2 ^ (64 - n) := Nat.mul_le_mul h3 (Nat.le_refl _)
    rw [← Nat.pow_add, show n - 1 + (64 - n) = 63 by omega] at this
    exact this
  · have w : IntKind.i64.wrap (64 - (n : Int)) = ((64 - n : Nat) : Int) := by rw [wrap64] <;> omega
    rw [E93]
    simp [h4, w]
    try omega
/-! ### a digit -/
theorem wmul (a b : Nat) (h : a * b < 18446744073709551616) : IntKind.u64.wrap ((a : Int) * (b : Int)) = ((a * b : Nat) : Int) := by
  rw [← Int.natCast_mul]
  exact wrapu64 (by omega) (by omega)
theorem wsub (a b : Nat) (h : b ≤ a) (ha : a < 18446744073709551616) : IntKind.u64.wrap ((a : Int) - (b : Int)) = ((a - b : Nat) : Int) := by
  rw [wrapu64] <;> omega
theorem wadd (a b : Nat) (h : a + b < 18446744073709551616) : IntKind.u64.wrap ((a : Int) + (b : Int)) = ((a + b : Nat) : Int) := by
  rw [wrapu64] <;> omega
theorem loop17 (Y s y1 y0 u d d0 : Nat) (hy1 : 2147483648 ≤ y1) (hy1' : y1 < 4294967296) (hy0 : y0 < 4294967296) (hu : u < y1 * 4294967296 + y0) (hd : d < 4294967296) (hp : Hp) : ∀ (n q r : Nat), q = (u * 4294967296 + d) / (y1 * 4294967296 + y0) + n → q * y1 + r = u → r < 4294967296 → q ≤ 4294967297 →
    B63_17 (.int .u64 (Y : Int)) (.int .u64 (s : Int)) (.int .u64 (y1 : Int)) (.int .u64 (y0 : Int)) (.int .u64 (u : Int)) (.int .u64 (d : Int)) (.int .u64 (d0 : Int)) (.int .u64 (q : Int)) (.int .u64 (r : Int)) hp =
      B63_21 (.int .u64 (Y : Int)) (.int .u64 (s : Int)) (.int .u64 (y1 : Int)) (.int .u64 (y0 : Int)) (.int .u64 (u : Int)) (.int .u64 (d : Int)) (.int .u64 (d0 : Int)) (.int .u64 (((u * 4294967296 + d) / (y1 * 4294967296 + y0) : Nat) : Int)) hp := by
  have hpos : 0 < y1 * 4294967296 + y0 := by omega
  have ht := dig_lt (d := d) hu hd
  have hle : ∀ q r, q * y1 + r = u → (q ≤ (u * 4294967296 + d) / (y1 * 4294967296 + y0) ↔ q * y0 ≤ 4294967296 * r + d) := fun q r h => dig_le hpos h
  have hex : ∀ q r, q * y1 + r = u → q ≤ 4294967296 → 4294967296 ≤ r → q ≤ (u * 4294967296 + d) / (y1 * 4294967296 + y0) := fun q r h h1 h2 => dig_exit hpos hy0 h h1 h2
  generalize (u * 4294967296 + d) / (y1 * 4294967296 + y0) = t at *
  intro n
  induction n with
  | zero =>
    intro q r hq hqr hr hq2
    rw [Nat.add_zero] at hq
    subst hq
    have h1 := (hle q r hqr).mp (Nat.le_refl _)
    have hm : q * y0 ≤ 4294967297 * 4294967295 := Nat.mul_le_mul hq2 (by omega)
    have w1 := wmul q y0 (by omega)
    have w2 : IntKind.u64.wrap (((4294967296 : Nat) : Int) * (r : Int)) = ((4294967296 * r : Nat) : Int) := by rw [wrapu64] <;> omega
    have w3 : IntKind.u64.wrap (((4294967296 * r : Nat) : Int) + (d : Int)) = ((4294967296 * r + d : Nat) : Int) := by rw [wrapu64] <;> omega
    have c2 : (((q * y0 : Nat) : Int) > ((4294967296 * r + d : Nat) : Int)) = False := by
      apply eq_false
      generalize q * y0 = z at *
      omega
    have c1' : ((q : Int) ≥ ((4294967296 : Nat) : Int)) = False := eq_false (by omega)
    rw [B63_17_eq]
    simp only [binV_geq, binV_mul, binV_add, binV_gtr, asB_bool, Option.bind_some, Int.ofNat_eq_natCast, decide_true, decide_false, c1', cond_false, w1, w2, w3, c2]
  | succ n ih =>
    intro q r hq hqr hr hq2
    have hgt : ¬(q ≤ t) := by omega
    have h1 : ¬(q * y0 ≤ 4294967296 * r + d) := fun h => hgt ((hle q r hqr).mpr h)
    have hm : q * y0 ≤ 4294967297 * 4294967295 := Nat.mul_le_mul hq2 (by omega)
    have hqr' : (q - 1) * y1 + (r + y1) = u := by
      obtain ⟨q', rfl⟩ : ∃ q', q = q' + 1 := ⟨q - 1, by omega⟩
      rw [Nat.add_mul] at hqr
      rw [Nat.add_sub_cancel]
      omega
    have w4 := wsub q 1 (by omega) (by omega)
    have w5 := wadd r y1 (by omega)
    -- a step down
    have g18 : B63_18 (.int .u64 (Y : Int)) (.int .u64 (s : Int)) (.int .u64 (y1 : Int)) (.int .u64 (y0 : Int)) (.int .u64 (u : Int)) (.int .u64 (d : Int)) (.int .u64 (d0 : Int)) (.int .u64 (q : Int)) (.int .u64 (r : Int)) hp =
        B63_21 (.int .u64 (Y : Int)) (.int .u64 (s : Int)) (.int .u64 (y1 : Int)) (.int .u64 (y0 : Int)) (.int .u64 (u : Int)) (.int .u64 (d : Int)) (.int .u64 (d0 : Int)) (.int .u64 (t : Int)) hp := by
      rw [B63_18_eq]
      by_cases hb : 4294967296 ≤ r + y1
      · have hq3 := hex (q - 1) (r + y1) hqr' (by omega) hb
        have e : q - 1 = t := by omega
        have c : (((r + y1 : Nat) : Int) ≥ ((4294967296 : Nat) : Int)) = True := eq_true (by omega)
        rw [e] at w4
        simp only [binV_geq, binV_sub, binV_add, asB_bool, Option.bind_some, Int.ofNat_eq_natCast, decide_true, decide_false, w4, w5, c, cond_true]
      · have c : (((r + y1 : Nat) : Int) ≥ ((4294967296 : Nat) : Int)) = False := eq_false (by omega)
        have g := ih (q - 1) (r + y1) (by omega) hqr' (by omega) (by omega)
        simp only [binV_geq, binV_sub, binV_add, asB_bool, Option.bind_some, Int.ofNat_eq_natCast, decide_true, decide_false, w4, w5, c, cond_false]
        exact g
    rw [B63_17_eq]
    by_cases hB : 4294967296 ≤ q
    · have c1' : ((q : Int) ≥ ((4294967296 : Nat) : Int)) = True := eq_true (by omega)
      simp only [binV_geq, asB_bool, Option.bind_some, Int.ofNat_eq_natCast, decide_true, decide_false, c1', cond_true]
      exact g18
    · have c1' : ((q : Int) ≥ ((4294967296 : Nat) : Int)) = False := eq_false (by omega)
      have w1 := wmul q y0 (by omega)
      have w2 : IntKind.u64.wrap (((4294967296 : Nat) : Int) * (r : Int)) = ((4294967296 * r : Nat) : Int) := by rw [wrapu64] <;> omega
      have w3 : IntKind.u64.wrap (((4294967296 * r : Nat) : Int) + (d : Int)) = ((4294967296 * r + d : Nat) : Int) := by rw [wrapu64] <;> omega
      have c2 : (((q * y0 : Nat) : Int) > ((4294967296 * r + d : Nat) : Int)) = True := by
        apply eq_true
        generalize q * y0 = z at *
        omega
      simp only [binV_geq, binV_mul, binV_add, binV_gtr, asB_bool, Option.bind_some, Int.ofNat_eq_natCast, decide_true, decide_false, c1', cond_false, w1, w2, w3, c2, cond_true]
      exact g18
theorem loop24 (Y s y1 y0 u d q1 un : Nat) (hy1 : 2147483648 ≤ y1) (hy1' : y1 < 4294967296) (hy0 : y0 < 4294967296) (hu : u < y1 * 4294967296 + y0) (hd : d < 4294967296) (hp : Hp) : ∀ (n q r : Nat), q = (u * 4294967296 + d) / (y1 * 4294967296 + y0) + n → q * y1 + r = u → r < 4294967296 → q ≤ 4294967297 →
    B63_24 (.int .u64 (Y : Int)) (.int .u64 (s : Int)) (.int .u64 (y1 : Int)) (.int .u64 (y0 : Int)) (.int .u64 (d : Int)) (.int .u64 (q1 : Int)) (.int .u64 (r : Int)) (.int .u64 (un : Int)) (.int .u64 (q : Int)) hp =
      B63_28 (.int .u64 (Y : Int)) (.int .u64 (s : Int)) (.int .u64 (d : Int)) (.int .u64 (q1 : Int)) (.int .u64 (un : Int)) (.int .u64 (((u * 4294967296 + d) / (y1 * 4294967296 + y0) : Nat) : Int)) hp := by
  have hpos : 0 < y1 * 4294967296 + y0 := by omega
  have ht := dig_lt (d := d) hu hd
  have hle : ∀ q r, q * y1 + r = u → (q ≤ (u * 4294967296 + d) / (y1 * 4294967296 + y0) ↔ q * y0 ≤ 4294967296 * r + d) := fun q r h => dig_le hpos h
  have hex : ∀ q r, q * y1 + r = u → q ≤ 4294967296 → 4294967296 ≤ r → q ≤ (u * 4294967296 + d) / (y1 * 4294967296 + y0) := fun q r h h1 h2 => dig_exit hpos hy0 h h1 h2
  generalize (u * 4294967296 + d) / (y1 * 4294967296 + y0) = t at *
  intro n
  induction n with
  | zero =>
    intro q r hq hqr hr hq2
    rw [Nat.add_zero] at hq
    subst hq
    have h1 := (hle q r hqr).mp (Nat.le_refl _)
    have hm : q * y0 ≤ 4294967297 * 4294967295 := Nat.mul_le_mul hq2 (by omega)
    have w1 := wmul q y0 (by omega)
    have w2 : IntKind.u64.wrap (((4294967296 : Nat) : Int) * (r : Int)) = ((4294967296 * r : Nat) : Int) := by rw [wrapu64] <;> omega
    have w3 : IntKind.u64.wrap (((4294967296 * r : Nat) : Int) + (d : Int)) = ((4294967296 * r + d : Nat) : Int) := by rw [wrapu64] <;> omega
    have c2 : (((q * y0 : Nat) : Int) > ((4294967296 * r + d : Nat) : Int)) = False := by
      apply eq_false
      generalize q * y0 = z at *
      omega
    have c1' : ((q : Int) ≥ ((4294967296 : Nat) : Int)) = False := eq_false (by omega)
    rw [B63_24_eq]
    simp only [binV_geq, binV_mul, binV_add, binV_gtr, asB_bool, Option.bind_some, Int.ofNat_eq_natCast, decide_true, decide_false, c1', cond_false, w1, w2, w3, c2]
  | succ n ih =>
    intro q r hq hqr hr hq2
    have hgt : ¬(q ≤ t) := by omega
    have h1 : ¬(q * y0 ≤ 4294967296 * r + d) := fun h => hgt ((hle q r hqr).mpr h)
    have hm : q * y0 ≤ 4294967297 * 4294967295 := Nat.mul_le_mul hq2 (by omega)
    have hqr' : (q - 1) * y1 + (r + y1) = u := by
      obtain ⟨q', rfl⟩ : ∃ q', q = q' + 1 := ⟨q - 1, by omega⟩
      rw [Nat.add_mul] at hqr
      rw [Nat.add_sub_cancel]
      omega
    have w4 := wsub q 1 (by omega) (by omega)
    have w5 := wadd r y1 (by omega)
    -- a step down
    have g18 : B63_25 (.int .u64 (Y : Int)) (.int .u64 (s : Int)) (.int .u64 (y1 : Int)) (.int .u64 (y0 : Int)) (.int .u64 (d : Int)) (.int .u64 (q1 : Int)) (.int .u64 (r : Int)) (.int .u64 (un : Int)) (.int .u64 (q : Int)) hp =
        B63_28 (.int .u64 (Y : Int)) (.int .u64 (s : Int)) (.int .u64 (d : Int)) (.int .u64 (q1 : Int)) (.int .u64 (un : Int)) (.int .u64 (t : Int)) hp := by
      rw [B63_25_eq]
      by_cases hb : 4294967296 ≤ r + y1
      · have hq3 := hex (q - 1) (r + y1) hqr' (by omega) hb
        have e : q - 1 = t := by omega
        have c : (((r + y1 : Nat) : Int) ≥ ((4294967296 : Nat) : Int)) = True := eq_true (by omega)
        rw [e] at w4
        simp only [binV_geq, binV_sub, binV_add, asB_bool, Option.bind_some, Int.ofNat_eq_natCast, decide_true, decide_false, w4, w5, c, cond_true]
      · have c : (((r + y1 : Nat) : Int) ≥ ((4294967296 : Nat) : Int)) = False := eq_false (by omega)
        have g := ih (q - 1) (r + y1) (by omega) hqr' (by omega) (by omega)
        simp only [binV_geq, binV_sub, binV_add, asB_bool, Option.bind_some, Int.ofNat_eq_natCast, decide_true, decide_false, w4, w5, c, cond_false]
        exact g
    rw [B63_24_eq]
    by_cases hB : 4294967296 ≤ q
    · have c1' : ((q : Int) ≥ ((4294967296 : Nat) : Int)) = True := eq_true (by omega)
      simp only [binV_geq, asB_bool, Option.bind_some, Int.ofNat_eq_natCast, decide_true, decide_false, c1', cond_true]
      exact g18
    · have c1' : ((q : Int) ≥ ((4294967296 : Nat) : Int)) = False := eq_false (by omega)
      have w1 := wmul q y0 (by omega)
      have w2 : IntKind.u64.wrap (((4294967296 : Nat) : Int) * (r : Int)) = ((4294967296 * r : Nat) : Int) := by rw [wrapu64] <;> omega
      have w3 : IntKind.u64.wrap (((4294967296 * r : Nat) : Int) + (d : Int)) = ((4294967296 * r + d : Nat) : Int) := by rw [wrapu64] <;> omega
      have c2 : (((q * y0 : Nat) : Int) > ((4294967296 * r + d : Nat) : Int)) = True := by
        apply eq_true
        generalize q * y0 = z at *
        omega
      simp only [binV_geq, binV_mul, binV_add, binV_gtr, asB_bool, Option.bind_some, Int.ofNat_eq_natCast, decide_true, decide_false, c1', cond_false, w1, w2, w3, c2, cond_true]
      exact g18
theorem shl_nat (x k : Nat) (hk : k ≤ 64) (h : x * 2 ^ k < 18446744073709551616) (o o' : Operand) (K : IntKind) : binV Go.Proofs.Try.prog .shl 24 o o' (.int .u64 (x : Int)) (.int K (k : Int)) = some (.int .u64 ((x * 2 ^ k : Nat) : Int)) := by
  rw [binV_shl _ _ _ _ _ _ _ _ (by omega)]
  have e : min ((k : Int)).toNat IntKind.u64.bits = k := by
    have : IntKind.u64.bits = 64 := rfl
    rw [this]; omega
  rw [e]
  have e2 : (x : Int) * 2 ^ k = ((x * 2 ^ k : Nat) : Int) := by
    rw [Int.natCast_mul, Int.natCast_pow]; rfl
  rw [e2, wrapu64 (by omega) (by omega)]
theorem and_nat (x : Nat) (h : x < 18446744073709551616) (o o' : Operand) : binV Go.Proofs.Try.prog .and 24 o o' (.int .u64 (x : Int)) (.int .u64 ((4294967295 : Nat) : Int)) = some (.int .u64 ((x % 4294967296 : Nat) : Int)) := by
  rw [binV_and]
  have e : (BitVec.ofInt 64 (x : Int) &&& BitVec.ofInt 64 ((4294967295 : Nat) : Int)).toNat = x % 4294967296 := by
    rw [BitVec.toNat_and, BitVec.toNat_ofInt, BitVec.toNat_ofInt]
    have e1 : (((x : Int) % ((2 ^ 64 : Nat) : Int)).toNat) = x := by omega
    have e2 : ((((4294967295 : Nat) : Int) % ((2 ^ 64 : Nat) : Int)).toNat) = 2 ^ 32 - 1 := by decide
    rw [e1, e2, Nat.and_two_pow_sub_one_eq_mod]
  show some (Value.int .u64 (IntKind.u64.wrap ((BitVec.ofInt 64 (x : Int) &&& BitVec.ofInt 64 ((4294967295 : Nat) : Int)).toNat : Nat))) = _
  rw [e, wrapu64 (by omega) (by omega)]
theorem or_zero (x : Nat) (h : x < 18446744073709551616) (o o' : Operand) : binV Go.Proofs.Try.prog .or 24 o o' (.int .u64 (x : Int)) (.int .u64 ((0 : Nat) : Int)) = some (.int .u64 (x : Int)) := by
  rw [binV_or]
  have e : (BitVec.ofInt 64 (x : Int) ||| BitVec.ofInt 64 ((0 : Nat) : Int)).toNat = x := by
    rw [BitVec.toNat_or, BitVec.toNat_ofInt, BitVec.toNat_ofInt]
    have e1 : (((x : Int) % ((2 ^ 64 : Nat) : Int)).toNat) = x := by omega
    have e2 : ((((0 : Nat) : Int) % ((2 ^ 64 : Nat) : Int)).toNat) = 0 := by decide
    rw [e1, e2, Nat.or_zero]
  show some (Value.int .u64 (IntKind.u64.wrap ((BitVec.ofInt 64 (x : Int) ||| BitVec.ofInt 64 ((0 : Nat) : Int)).toNat : Nat))) = _
  rw [e, wrapu64 (by omega) (by omega)]
theorem wnat (n : Nat) (h : n < 18446744073709551616) : IntKind.u64.wrap (n : Int) = n := wrapu64 (by omega) (by omega)
theorem quo_nat (x y : Nat) (hy : 0 < y) (h : x < 18446744073709551616) (o o' : Operand) : binV Go.Proofs.Try.prog .quo 24 o o' (.int .u64 (x : Int)) (.int .u64 (y : Int)) = some (.int .u64 ((x / y : Nat) : Int)) := by
  rw [binV_quo _ _ _ _ _ _ _ (by omega), Int.tdiv_eq_ediv_of_nonneg (by omega), ← Int.natCast_ediv]
  rw [wnat _ (Nat.lt_of_le_of_lt (Nat.div_le_self x y) h)]
theorem rem_nat (x y : Nat) (hy : 0 < y) (o o' : Operand) : binV Go.Proofs.Try.prog .rem 24 o o' (.int .u64 (x : Int)) (.int .u64 (y : Int)) = some (.int .u64 ((x % y : Nat) : Int)) := by
  rw [binV_rem _ _ _ _ _ _ _ (by omega), tmod_pos (by omega), ← Int.natCast_emod]
theorem mul_nat (x y : Nat) (h : x * y < 18446744073709551616) (o o' : Operand) : binV Go.Proofs.Try.prog .mul 24 o o' (.int .u64 (x : Int)) (.int .u64 (y : Int)) = some (.int .u64 ((x * y : Nat) : Int)) := by
  rw [binV_mul, wmul x y h]
theorem sub_nat (x y : Nat) (h : y ≤ x) (hx : x < 18446744073709551616) (o o' : Operand) (t : TypeId) : binV Go.Proofs.Try.prog .sub t o o' (.int .u64 (x : Int)) (.int .u64 (y : Int)) = some (.int .u64 ((x - y : Nat) : Int)) := by
  rw [binV_sub, wsub x y h hx]
theorem add_nat (x y : Nat) (h : x + y < 18446744073709551616) (o o' : Operand) : binV Go.Proofs.Try.prog .add 24 o o' (.int .u64 (x : Int)) (.int .u64 (y : Int)) = some (.int .u64 ((x + y : Nat) : Int)) := by
  rw [binV_add, wadd x y h]
/-- The rest behind the first digit. -/
theorem rest_nat (u y t : Nat) (h : t * y ≤ u * 4294967296) (h2 : u * 4294967296 - t * y < y) (hy : y < 18446744073709551616) (o1 o2 o3 o4 o5 o6 o7 o8 : Operand) :
    ((binV Go.Proofs.Try.prog .mul 24 o1 o2 (.int .u64 (u : Int)) (.int .u64 ((4294967296 : Nat) : Int))).bind fun y38 => (binV Go.Proofs.Try.prog .add 24 o3 o4 y38 (.int .u64 ((0 : Nat) : Int))).bind fun y39 => (binV Go.Proofs.Try.prog .mul 24 o5 o6 (.int .u64 (t : Int)) (.int .u64 (y : Int))).bind fun y40 =>
      binV Go.Proofs.Try.prog .sub 24 o7 o8 y39 y40) = some (.int .u64 ((u * 4294967296 - t * y : Nat) : Int)) := by
  simp only [binV_mul, binV_add, binV_sub, Option.bind_some]
  congr 2
  rw [IntKind.wrap_u64, IntKind.wrap_u64, IntKind.wrap_u64, IntKind.wrap_u64, ← Int.natCast_mul, ← Int.natCast_mul]
  generalize t * y = z at *
  generalize u * 4294967296 = v at *
  omega
/-! ### the same with a letter for 2^32 -/
section
variable {B : Nat} (hB : B = 4294967296)
include hB
theorem dig_firstB {y1 y0 u Y : Nat} (hY : y1 * B + y0 = Y) (h1 : 0 < y1) : u * B / Y ≤ u / y1 := by
  subst hB
  have h := dig_first (y1 := y1) (y0 := y0) (u := u) (d := 0) h1 (by omega)
  rw [hY, Nat.add_zero] at h
  exact h
theorem dig_guessB {y1 y0 u Y : Nat} (hY : y1 * B + y0 = Y) (h1 : 2147483648 ≤ y1) (h0 : y0 < B) (hu : u < Y) : u / y1 ≤ 4294967297 := by
  subst hB
  exact dig_guess (y0 := y0) h1 h0 (by rw [hY]; exact hu)
theorem dig_ltB {u Y : Nat} (hu : u < Y) : u * B / Y < B := by
  subst hB
  have h := dig_lt (y := Y) (u := u) (d := 0) hu (by omega)
  rw [Nat.add_zero] at h
  exact h
theorem loop17B (Y s y1 y0 u : Nat) (hY : y1 * B + y0 = Y) (hy1 : 2147483648 ≤ y1) (hy1' : y1 < B) (hy0 : y0 < B) (hu : u < Y) (hp : Hp) (n q r : Nat) (hq : q = u * B / Y + n) (hqr : q * y1 + r = u) (hr : r < B) (hq2 : q ≤ 4294967297) :
    B63_17 (.int .u64 (Y : Int)) (.int .u64 (s : Int)) (.int .u64 (y1 : Int)) (.int .u64 (y0 : Int)) (.int .u64 (u : Int)) (.int .u64 ((0 : Nat) : Int)) (.int .u64 ((0 : Nat) : Int)) (.int .u64 (q : Int)) (.int .u64 (r : Int)) hp =
      B63_21 (.int .u64 (Y : Int)) (.int .u64 (s : Int)) (.int .u64 (y1 : Int)) (.int .u64 (y0 : Int)) (.int .u64 (u : Int)) (.int .u64 ((0 : Nat) : Int)) (.int .u64 ((0 : Nat) : Int)) (.int .u64 ((u * B / Y : Nat) : Int)) hp := by
  subst hB
  have h := loop17 Y s y1 y0 u 0 0 hy1 hy1' hy0 (by rw [hY]; exact hu) (by omega) hp n q r
  rw [hY, Nat.add_zero] at h
  exact h hq hqr hr hq2
theorem loop24B (Y s y1 y0 u q1 un : Nat) (hY : y1 * B + y0 = Y) (hy1 : 2147483648 ≤ y1) (hy1' : y1 < B) (hy0 : y0 < B) (hu : u < Y) (hp : Hp) (n q r : Nat) (hq : q = u * B / Y + n) (hqr : q * y1 + r = u) (hr : r < B) (hq2 : q ≤ 4294967297) :
    B63_24 (.int .u64 (Y : Int)) (.int .u64 (s : Int)) (.int .u64 (y1 : Int)) (.int .u64 (y0 : Int)) (.int .u64 ((0 : Nat) : Int)) (.int .u64 (q1 : Int)) (.int .u64 (r : Int)) (.int .u64 (un : Int)) (.int .u64 (q : Int)) hp =
      B63_28 (.int .u64 (Y : Int)) (.int .u64 (s : Int)) (.int .u64 ((0 : Nat) : Int)) (.int .u64 (q1 : Int)) (.int .u64 (un : Int)) (.int .u64 ((u * B / Y : Nat) : Int)) hp := by
  subst hB
  have h := loop24 Y s y1 y0 u 0 q1 un hy1 hy1' hy0 (by rw [hY]; exact hu) (by omega) hp n q r
  rw [hY, Nat.add_zero] at h
  exact h hq hqr hr hq2
theorem rest_natB (u y t : Nat) (h : t * y ≤ u * B) (h2 : u * B - t * y < y) (hy : y < 18446744073709551616) (o1 o2 o3 o4 o5 o6 o7 o8 : Operand) :
    ((binV Go.Proofs.Try.prog .mul 24 o1 o2 (.int .u64 (u : Int)) (.int .u64 ((4294967296 : Nat) : Int))).bind fun y38 => (binV Go.Proofs.Try.prog .add 24 o3 o4 y38 (.int .u64 ((0 : Nat) : Int))).bind fun y39 => (binV Go.Proofs.Try.prog .mul 24 o5 o6 (.int .u64 (t : Int)) (.int .u64 (y : Int))).bind fun y40 =>
      binV Go.Proofs.Try.prog .sub 24 o7 o8 y39 y40) = some (.int .u64 ((u * B - t * y : Nat) : Int)) := by
  subst hB
  exact rest_nat u y t h h2 hy o1 o2 o3 o4 o5 o6 o7 o8
theorem mul_natB (x : Nat) (h : x < B) (o o' : Operand) : binV Go.Proofs.Try.prog .mul 24 o o' (.int .u64 (x : Int)) (.int .u64 ((4294967296 : Nat) : Int)) = some (.int .u64 ((x * B : Nat) : Int)) := by
  subst hB
  exact mul_nat x 4294967296 (by omega) o o'
theorem lt_sq {t r : Nat} (ht : t < B) (hr : r < B) : t * B + r < 18446744073709551616 := by
  subst hB
  omega
theorem and_natB (x : Nat) (h : x < 18446744073709551616) (o o' : Operand) : binV Go.Proofs.Try.prog .and 24 o o' (.int .u64 (x : Int)) (.int .u64 ((4294967295 : Nat) : Int)) = some (.int .u64 ((x % B : Nat) : Int)) := by
  subst hB
  exact and_nat x h o o'
theorem shr_natB (x : Nat) (o o' : Operand) : binV Go.Proofs.Try.prog .shr 24 o o' (.int .u64 (x : Int)) (.int .u64 ((32 : Nat) : Int)) = some (.int .u64 ((x / B : Nat) : Int)) := by
  subst hB
  exact shr_nat x 32 (by omega) o o' .u64
theorem norm_div (k y s : Nat) : k * 18446744073709551616 / y = k * 2 ^ s * (B * B) / (y * 2 ^ s) := by
  have e : k * 2 ^ s * (B * B) = k * (B * B) * 2 ^ s := by
    rw [Nat.mul_assoc, Nat.mul_comm (2 ^ s), ← Nat.mul_assoc]
  have e2 : B * B = 18446744073709551616 := by rw [hB]
  rw [e, Nat.mul_div_mul_right _ _ (Nat.two_pow_pos s), e2]
end
theorem mod_sub (U Y B : Nat) (hY : 0 < Y) : U * B - U * B / Y * Y < Y := by
  have e : U * B - U * B / Y * Y = U * B % Y := by
    have e := Nat.div_add_mod (U * B) Y
    rw [Nat.mul_comm Y] at e
    omega
  rw [e]
  exact Nat.mod_lt _ hY
theorem mod_sub1 (U y : Nat) (hY : 0 < y) : U - U / y * y < y := by
  have e : U - U / y * y = U % y := by
    have e := Nat.div_add_mod U y
    rw [Nat.mul_comm y] at e
    omega
  rw [e]
  exact Nat.mod_lt _ hY
theorem div_u (k y : Nat) (hk0 : 0 < k) (hk : k < y) (hy : y < 18446744073709551616) : ∃ (r : Nat), ∀ hp, B63_5 (.int .u64 (k : Int)) (.int .u64 ((0 : Nat) : Int)) (.int .u64 (y : Int)) hp = some (.tup [.sc (.int .u64 ((k * 18446744073709551616 / y : Nat) : Int)), .sc (.int .u64 (r : Int))], hp) := by
  obtain ⟨s, hs, hY, hY2, hlz⟩ := run_lz y hy (by omega)
  obtain ⟨B, hB⟩ : ∃ B : Nat, B = 4294967296 := ⟨_, rfl⟩
  have hU : k * 2 ^ s < y * 2 ^ s := Nat.mul_lt_mul_of_pos_right hk (Nat.two_pow_pos s)
  rw [norm_div hB k y s]
  have p1 := fun o o' K => shl_nat y s (by omega) hY o o' K
  have p2 := fun o o' K => shl_nat k s (by omega) (by omega) o o' K
  have p3 := fun o o' K => shl_nat 0 s (by omega) (by omega) o o' K
  rw [Nat.zero_mul] at p3
  generalize y * 2 ^ s = Y at *
  generalize k * 2 ^ s = U at *
  have two := two_digits B U Y (by omega)
  have hB0 : 0 < B := by omega
  have hYd : Y / B * B + Y % B = Y := by rw [Nat.mul_comm]; exact Nat.div_add_mod Y B
  have hy0 : Y % B < B := Nat.mod_lt _ hB0
  have hy1 : 2147483648 ≤ Y / B := by rw [hB]; omega
  have hy1' : Y / B < B := by rw [hB]; omega
  have q2 := fun o o' => shr_natB hB Y o o'
  have q3 := fun o o' => and_natB hB Y hY o o'
  obtain ⟨y1, hy1e⟩ : ∃ y1, y1 = Y / B := ⟨_, rfl⟩
  obtain ⟨y0, hy0e⟩ : ∃ y0, y0 = Y % B := ⟨_, rfl⟩
  rw [← hy1e, ← hy0e] at hYd
  rw [← hy0e] at hy0 q3
  rw [← hy1e] at hy1 hy1' q2
  have q4 := fun o o' => shr_nat 0 (64 - s) (by omega) o o' .u64
  rw [Nat.zero_div] at q4
  have q5 := fun o o' => or_zero U (by omega) o o'
  have q6 := fun o o' => shr_natB hB 0 o o'
  rw [Nat.zero_div] at q6
  have q7 := fun o o' => and_natB hB 0 (by omega) o o'
  rw [Nat.zero_mod] at q7
  have hq := Nat.div_mul_le_self U y1
  have q8 := fun o o' => quo_nat U y1 (by omega) (by omega) o o'
  have q9 := fun o o' => mul_nat (U / y1) y1 (by omega) o o'
  have q10 := fun o o' => sub_nat U (U / y1 * y1) hq (by omega) o o' 24
  have q11 := fun o o' => sub_nat 64 s (by omega) (by omega) o o' 106
  have w64 : IntKind.u64.wrap ((s : Nat) : Int) = (s : Int) := wnat s (by omega)
  -- the first digit
  have g1 := dig_guessB hB (u := U) hYd hy1 hy0 hU
  have f1 := dig_firstB hB (u := U) hYd (by omega)
  obtain ⟨n1, hn1⟩ : ∃ n, U / y1 = U * B / Y + n := ⟨U / y1 - U * B / Y, by omega⟩
  have l17 := fun hp => loop17B hB Y s y1 y0 U hYd hy1 hy1' hy0 hU hp n1 (U / y1) (U - U / y1 * y1) hn1 (by omega) (Nat.lt_trans (mod_sub1 U y1 (by omega)) hy1') g1
  have hr1 := mod_sub U Y B (by omega)
  have rst := fun o1 o2 o3 o4 o5 o6 o7 o8 => rest_natB hB U Y (U * B / Y) (Nat.div_mul_le_self _ _) hr1 hY o1 o2 o3 o4 o5 o6 o7 o8
  have ht1 := dig_ltB hB hU
  obtain ⟨t1, ht1e⟩ : ∃ t1, t1 = U * B / Y := ⟨_, rfl⟩
  rw [← ht1e] at l17 hr1 rst ht1 two
  obtain ⟨R, hRe⟩ : ∃ R, R = U * B - t1 * Y := ⟨_, rfl⟩
  rw [← hRe] at hr1 rst two
  -- the second digit
  have hq' := Nat.div_mul_le_self R y1
  have b8 := fun o o' => quo_nat R y1 (by omega) (by omega) o o'
  have b9 := fun o o' => mul_nat (R / y1) y1 (by omega) o o'
  have b10 := fun o o' => sub_nat R (R / y1 * y1) hq' (by omega) o o' 24
  have g2 := dig_guessB hB (u := R) hYd hy1 hy0 hr1
  have f2 := dig_firstB hB (u := R) hYd (by omega)
  obtain ⟨n2, hn2⟩ : ∃ n, R / y1 = R * B / Y + n := ⟨R / y1 - R * B / Y, by omega⟩
  have l24 := fun hp => loop24B hB Y s y1 y0 R t1 R hYd hy1 hy1' hy0 hr1 hp n2 (R / y1) (R - R / y1 * y1) hn2 (by omega) (Nat.lt_trans (mod_sub1 R y1 (by omega)) hy1') g2
  have ht2 := dig_ltB hB hr1
  obtain ⟨t2, ht2e⟩ : ∃ t2, t2 = R * B / Y := ⟨_, rfl⟩
  rw [← ht2e] at l24 ht2 two
  have c1 := fun o o' => mul_natB hB t1 ht1 o o'
  have c2 := fun o o' => add_nat (t1 * B) t2 (lt_sq hB ht1 ht2) o o'
  rw [← two]
  -- the end
  have e28 : ∃ r : Nat, ∀ hp, B63_28 (.int .u64 (Y : Int)) (.int .u64 (s : Int)) (.int .u64 ((0 : Nat) : Int)) (.int .u64 (t1 : Int)) (.int .u64 (R : Int)) (.int .u64 (t2 : Int)) hp = some (.tup [.sc (.int .u64 ((t1 * B + t2 : Nat) : Int)), .sc (.int .u64 (r : Int))], hp) := by
    obtain ⟨m, hm⟩ : ∃ m : Nat, IntKind.u64.wrap (IntKind.u64.wrap (IntKind.u64.wrap ((R : Int) * ((4294967296 : Nat) : Int)) + ((0 : Nat) : Int)) - IntKind.u64.wrap ((t2 : Int) * (Y : Int))) = (m : Int) := by
      refine ⟨(IntKind.u64.wrap (IntKind.u64.wrap (IntKind.u64.wrap ((R : Int) * ((4294967296 : Nat) : Int)) + ((0 : Nat) : Int)) - IntKind.u64.wrap ((t2 : Int) * (Y : Int)))).toNat, ?_⟩
      rw [IntKind.wrap_u64]
      omega
    have sh := fun o o' => shr_nat m s (by omega) o o' .u64
    refine ⟨m / 2 ^ s, fun hp => ?_⟩
    rw [B63_28_eq]
    simp only [Int.ofNat_eq_natCast, c1, c2, Option.bind_some, binV_mul, binV_add, binV_sub, hm, sh]
  obtain ⟨r, e28⟩ := e28
  refine ⟨r, fun hp => ?_⟩
  have e24 : B63_21 (.int .u64 (Y : Int)) (.int .u64 (s : Int)) (.int .u64 (y1 : Int)) (.int .u64 (y0 : Int)) (.int .u64 (U : Int)) (.int .u64 ((0 : Nat) : Int)) (.int .u64 ((0 : Nat) : Int)) (.int .u64 (t1 : Int)) hp = some (.tup [.sc (.int .u64 ((t1 * B + t2 : Nat) : Int)), .sc (.int .u64 (r : Int))], hp) := by
    rw [B63_21_eq]
    have rs := rst (.tmp 86) (.const (.int .u64 (Int.ofNat 4294967296))) (.tmp 87) (.tmp 88) (.tmp 90) (.tmp 91) (.tmp 89) (.tmp 92)
    simp only [binV_mul, binV_add, binV_sub, Option.bind_some, Option.some.injEq, Value.int.injEq, true_and] at rs
    have wm := wmul (R / y1) y1 (by omega)
    have ws := wsub R (R / y1 * y1) hq' (by omega)
    simp only [binV_mul, binV_add, binV_sub, Option.bind_some, Int.ofNat_eq_natCast, rs, b8, wm, ws]
    exact (l24 hp).trans (e28 hp)
  have hk0' : ((k : Int) = ((0 : Nat) : Int)) = False := eq_false (by omega)
  rw [B63_5_eq]
  simp only [Int.ofNat_eq_natCast, binV_eql, hk0', decide_false, asB_bool, Option.bind_some, cond_false, ro_sc, hlz, asSc_sc, cv_3_106, w64, p1, q2, q3, p2, q11, q4, q5, p3, q6, q7, q8, q9, q10, okArgs_sc, okRes_sc]
  exact (l17 hp).trans (e24)
/-- 2^64 times a number, divided by a greater one. -/
theorem run_div (k y : Nat) (hk : k < y) (hy : y < 18446744073709551616) : ∃ (r : Nat), ∀ hp, run cxX 63 [.sc (.int .u64 (k : Int)), .sc (.int .u64 0), .sc (.int .u64 (y : Int))] hp = some (.tup [.sc (.int .u64 ((k * 18446744073709551616 / y : Nat) : Int)), .sc (.int .u64 (r : Int))], hp) := by
  have c1 : ((y : Int) = ((0 : Nat) : Int)) = False := eq_false (by omega)
  have c2 : ((y : Int) ≤ (k : Int)) = False := eq_false (by omega)
  have h5 : ∃ (r : Nat), ∀ hp, B63_5 (.int .u64 (k : Int)) (.int .u64 ((0 : Nat) : Int)) (.int .u64 (y : Int)) hp = some (.tup [.sc (.int .u64 ((k * 18446744073709551616 / y : Nat) : Int)), .sc (.int .u64 (r : Int))], hp) := by
    by_cases h0 : k = 0
    · subst h0
      refine ⟨0 % y, fun hp => ?_⟩
      have q := fun o o' => quo_nat 0 y (by omega) (by omega) o o'
      have m := fun o o' => rem_nat 0 y (by omega) o o'
      rw [B63_5_eq]
      simp only [Int.ofNat_eq_natCast, binV_eql, decide_true, asB_bool, Option.bind_some, cond_true, q, m]
      try rw [Nat.zero_mul]
    · exact div_u k y (by omega) hk hy
  obtain ⟨r, h5⟩ := h5
  refine ⟨r, fun hp => ?_⟩
  rw [E63]
  simp only [asSc_sc, Option.bind_some, Int.ofNat_eq_natCast, binV_eql, c1, decide_false, asB_bool, cond_false]
  rw [B63_3_eq]
  simp only [Int.ofNat_eq_natCast, binV_leq, c2, decide_false, asB_bool, Option.bind_some, cond_false]
  exact h5 hp
end Go.Proofs.Ytalnoedhacobkaa.AI
