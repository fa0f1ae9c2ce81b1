/- The bits' library: how many bits a number has; a number of 128 bits divided. -/
import Derived.Test.YtmnefpfbgadnkaaKmvB
import Derived.Test.YtmnefpfbgadnkaaDivN
namespace Go.Proofs.Ytmnefpfbgadnkaa.AI
open Go
set_option linter.unusedVariables false
set_option linter.unusedSimpArgs false
set_option maxRecDepth 100000

noncomputable def tab8 : Value := .string ⟨#[0, 1, 2, 2, 3, 3, 3, 3, 4, 4, 4, 4, 4, 4, 4, 4, 5, 5, 5, 5, 5, 5, 5, 5, 5, 5, 5, 5, 5, 5, 5, 5, 6, 6, 6, 6, 6, 6, 6, 6, 6, 6, 6, 6, 6, 6, 6, 6, 6, 6, 6, 6, 6, 6, 6, 6, 6, 6, 6, 6, 6, 6, 6, 6, 7, 7, 7, 7, 7, 7, 7, 7, 7, 7, 7, 7, 7, 7, 7, 7, 7, 7, 7, 7, 7, 7, 7, 7, 7, 7, 7, 7, 7, 7, 7, 7, 7, 7, 7, 7, 7, 7, 7, 7, 7, 7, 7, 7, 7, 7, 7, 7, 7, 7, 7, 7, 7, 7, 7, 7, 7, 7, 7, 7, 7, 7, 7, 7, 8, 8, 8, 8, 8, 8, 8, 8, 8, 8, 8, 8, 8, 8, 8, 8, 8, 8, 8, 8, 8, 8, 8, 8, 8, 8, 8, 8, 8, 8, 8, 8, 8, 8, 8, 8, 8, 8, 8, 8, 8, 8, 8, 8, 8, 8, 8, 8, 8, 8, 8, 8, 8, 8, 8, 8, 8, 8, 8, 8, 8, 8, 8, 8, 8, 8, 8, 8, 8, 8, 8, 8, 8, 8, 8, 8, 8, 8, 8, 8, 8, 8, 8, 8, 8, 8, 8, 8, 8, 8, 8, 8, 8, 8, 8, 8, 8, 8, 8, 8, 8, 8, 8, 8, 8, 8, 8, 8, 8, 8, 8, 8, 8, 8, 8, 8, 8, 8, 8, 8, 8, 8, 8, 8, 8, 8, 8, 8]⟩
theorem B43_10' (v0 v2 : Value) (hp : Hp) : B43_10 v0 v2 hp = (cvV Go.Proofs.Try.prog 27 5 v0).bind fun y12 => (ixV Go.Proofs.Try.prog 9 tab8 y12).bind fun y13 => (cvV Go.Proofs.Try.prog 5 3 y13).bind fun y14 => (binV Go.Proofs.Try.prog .add 3 (.tmp 19) (.tmp 23) v2 y14).bind fun y15 => some (.sc y15, hp) :=
  (B43_10_eq _ _ _).trans (by kernel_rfl)
noncomputable def tabOk (x : Nat) : Bool :=
  match ixV Go.Proofs.Try.prog 9 tab8 (.int .u8 (x : Int)) with
  | some (.int .u8 (.ofNat n)) => decide (n ≤ 8) && decide (x < 2 ^ n) && (decide (n = 0) || decide (2 ^ (n - 1) ≤ x))
  | _ => false
theorem tab_all : (List.range 256).all tabOk = true := by kernel_rfl
theorem tab_ok (x : Nat) (h : x < 256) : ∃ n : Nat, n ≤ 8 ∧ Bl x n ∧ ixV Go.Proofs.Try.prog 9 tab8 (.int .u8 (x : Int)) = some (.int .u8 (n : Int)) := by
  have hx := List.all_eq_true.mp tab_all x (List.mem_range.mpr h)
  unfold tabOk at hx
  split at hx
  · rename_i n e
    simp only [Bool.and_eq_true, Bool.or_eq_true, decide_eq_true_eq] at hx
    exact ⟨n, hx.1.1, ⟨hx.1.2, hx.2⟩, e⟩
  · cases hx
theorem cv8 (n : Int) : cvV Go.Proofs.Try.prog 5 3 (.int .u8 n) = some (.int .i64 (IntKind.i64.wrap n)) := cv_5_3 n
theorem wrap64n (n : Nat) (h : n < 1000000) : IntKind.i64.wrap (n : Int) = n := wrap64 (by omega) (by omega)
theorem len10 (x v : Nat) (h : x < 256) (hv : v ≤ 100) : ∃ n, n ≤ 8 ∧ Bl x n ∧ ∀ hp, B43_10 (.int .u64 (x : Int)) (.int .i64 (v : Int)) hp = some (.sc (.int .i64 ((n + v : Nat) : Int)), hp) := by
  obtain ⟨n, h1, h2, h3⟩ := tab_ok x h
  refine ⟨n, h1, h2, fun hp => ?_⟩
  have w : IntKind.u8.wrap (x : Int) = x := wrapu8 (by omega) (by omega)
  have w2 : IntKind.i64.wrap (n : Int) = n := wrap64n n (by omega)
  have w3 : IntKind.i64.wrap ((v : Int) + (n : Int)) = ((n + v : Nat) : Int) := by rw [wrap64] <;> omega
  rw [B43_10']
  simp [cv_27_5, w, h3, cv8, w2, w3]
theorem shr_nat (x k : Nat) (hk : k ≤ 64) (o o' : Operand) (K : IntKind) : binV Go.Proofs.Try.prog .shr 27 o o' (.int .u64 (x : Int)) (.int K (k : Int)) = some (.int .u64 ((x / 2 ^ k : Nat) : Int)) := by
  rw [binV_shr _ _ _ _ _ _ _ _ (by omega)]
  have e : min ((k : Int)).toNat IntKind.u64.bits = k := by
    have : IntKind.u64.bits = 64 := rfl
    rw [this]; omega
  rw [e, Int.fdiv_eq_ediv_of_nonneg _ (by exact_mod_cast Nat.zero_le (2 ^ k))]
  congr 2
theorem len7 (x v : Nat) (h : x < 65536) (hv : v ≤ 90) : ∃ n, n ≤ 16 ∧ Bl x n ∧ ∀ hp, B43_7 (.int .u64 (x : Int)) (.int .i64 (v : Int)) hp = some (.sc (.int .i64 ((n + v : Nat) : Int)), hp) := by
  by_cases hx : 256 ≤ x
  · obtain ⟨n, h1, h2, h3⟩ := len10 (x / 2 ^ 8) (v + 8) (by omega) (by omega)
    refine ⟨n + 8, by omega, h2.up (by omega), fun hp => ?_⟩
    have s := shr_nat x 8 (by omega) (.tmp 15) (.const (.int .u64 8)) .u64
    have c : (256 : Int) ≤ (x : Int) := by omega
    have w : IntKind.i64.wrap ((v : Int) + 8) = ((v + 8 : Nat) : Int) := by rw [wrap64] <;> omega
    have e : n + (v + 8) = n + 8 + v := by omega
    rw [e] at h3
    rw [B43_7_eq]
    simp at s w h3
    simp [c, s, w, h3]
  · obtain ⟨n, h1, h2, h3⟩ := len10 x v (by omega) (by omega)
    refine ⟨n, by omega, h2, fun hp => ?_⟩
    have c : ¬((256 : Int) ≤ (x : Int)) := by omega
    rw [B43_7_eq]
    simp at h3
    simp [c, h3]
theorem len4 (x v : Nat) (h : x < 4294967296) (hv : v ≤ 70) : ∃ n, n ≤ 32 ∧ Bl x n ∧ ∀ hp, B43_4 (.int .u64 (x : Int)) (.int .i64 (v : Int)) hp = some (.sc (.int .i64 ((n + v : Nat) : Int)), hp) := by
  by_cases hx : 65536 ≤ x
  · obtain ⟨n, h1, h2, h3⟩ := len7 (x / 2 ^ 16) (v + 16) (by omega) (by omega)
    refine ⟨n + 16, by omega, h2.up (by omega), fun hp => ?_⟩
    have s := shr_nat x 16 (by omega) (.tmp 9) (.const (.int .u64 16)) .u64
    have c : (65536 : Int) ≤ (x : Int) := by omega
    have w : IntKind.i64.wrap ((v : Int) + 16) = ((v + 16 : Nat) : Int) := by rw [wrap64] <;> omega
    have e : n + (v + 16) = n + 16 + v := by omega
    rw [e] at h3
    rw [B43_4_eq]
    simp at s w h3
    simp [c, s, w, h3]
  · obtain ⟨n, h1, h2, h3⟩ := len7 x v (by omega) (by omega)
    refine ⟨n, by omega, h2, fun hp => ?_⟩
    have c : ¬((65536 : Int) ≤ (x : Int)) := by omega
    rw [B43_4_eq]
    simp at h3
    simp [c, h3]
theorem run_len64 (x : Nat) (h : x < 18446744073709551616) : ∃ n, n ≤ 64 ∧ Bl x n ∧ ∀ hp, run cxX 43 [.sc (.int .u64 (x : Int))] hp = some (.sc (.int .i64 (n : Int)), hp) := by
  by_cases hx : 4294967296 ≤ x
  · obtain ⟨n, h1, h2, h3⟩ := len4 (x / 2 ^ 32) 32 (by omega) (by omega)
    refine ⟨n + 32, by omega, h2.up (by omega), fun hp => ?_⟩
    have s := shr_nat x 32 (by omega) (.tmp 5) (.const (.int .u64 32)) .u64
    have c : (4294967296 : Int) ≤ (x : Int) := by omega
    rw [E43]
    simp at s h3
    simp [c, s, h3]
  · obtain ⟨n, h1, h2, h3⟩ := len4 x 0 (by omega) (by omega)
    refine ⟨n, by omega, h2, fun hp => ?_⟩
    have c : ¬((4294967296 : Int) ≤ (x : Int)) := by omega
    rw [E43]
    simp at h3
    simp [c, h3]
/-- How many noughts a number begins with. -/
theorem run_lz (x : Nat) (h : x < 18446744073709551616) (h0 : 0 < x) : ∃ s : Nat, s ≤ 63 ∧ x * 2 ^ s < 18446744073709551616 ∧ 9223372036854775808 ≤ x * 2 ^ s ∧ ∀ hp, run cxX 37 [.sc (.int .u64 (x : Int))] hp = some (.sc (.int .i64 (s : Int)), hp) := by
  obtain ⟨n, h1, ⟨h2, h3⟩, h4⟩ := run_len64 x h
  have hn : n ≠ 0 := by
    intro e
    subst e
    simp at h2
    omega
  have h3 := h3.resolve_left hn
  refine ⟨64 - n, by omega, ?_, ?_, fun hp => ?_⟩
  · have : x * 2 ^ (64 - n) < 2 ^ n * 2 ^ (64 - n) := Nat.mul_lt_mul_of_pos_right h2 (Nat.two_pow_pos _)
    rw [← Nat.pow_add, show n + (64 - n) = 64 by omega] at this
    exact this
  · have : 2 ^ (n - 1) * 2 ^ (64 - n) ≤ x * 2 ^ (64 - n) := Nat.mul_le_mul h3 (Nat.le_refl _)
    rw [← Nat.pow_add, show n - 1 + (64 - n) = 63 by omega] at this
    exact this
  · have w : IntKind.i64.wrap (64 - (n : Int)) = ((64 - n : Nat) : Int) := by rw [wrap64] <;> omega
    rw [E37]
    simp [h4, w]
    try omega
/-! ### a digit -/
theorem wmul (a b : Nat) (h : a * b < 18446744073709551616) : IntKind.u64.wrap ((a : Int) * (b : Int)) = ((a * b : Nat) : Int) := by
  rw [← Int.natCast_mul]
  exact wrapu64 (by omega) (by omega)
theorem wsub (a b : Nat) (h : b ≤ a) (ha : a < 18446744073709551616) : IntKind.u64.wrap ((a : Int) - (b : Int)) = ((a - b : Nat) : Int) := by
  rw [wrapu64] <;> omega
theorem wadd (a b : Nat) (h : a + b < 18446744073709551616) : IntKind.u64.wrap ((a : Int) + (b : Int)) = ((a + b : Nat) : Int) := by
  rw [wrapu64] <;> omega
theorem loop17 (Y s y1 y0 u d d0 : Nat) (hy1 : 2147483648 ≤ y1) (hy1' : y1 < 4294967296) (hy0 : y0 < 4294967296) (hu : u < y1 * 4294967296 + y0) (hd : d < 4294967296) (hp : Hp) : ∀ (n q r : Nat), q = (u * 4294967296 + d) / (y1 * 4294967296 + y0) + n → q * y1 + r = u → r < 4294967296 → q ≤ 4294967297 →
    B33_17 (.int .u64 (Y : Int)) (.int .u64 (s : Int)) (.int .u64 (y1 : Int)) (.int .u64 (y0 : Int)) (.int .u64 (u : Int)) (.int .u64 (d : Int)) (.int .u64 (d0 : Int)) (.int .u64 (q : Int)) (.int .u64 (r : Int)) hp =
      B33_21 (.int .u64 (Y : Int)) (.int .u64 (s : Int)) (.int .u64 (y1 : Int)) (.int .u64 (y0 : Int)) (.int .u64 (u : Int)) (.int .u64 (d : Int)) (.int .u64 (d0 : Int)) (.int .u64 (((u * 4294967296 + d) / (y1 * 4294967296 + y0) : Nat) : Int)) hp := by
  have hpos : 0 < y1 * 4294967296 + y0 := by omega
  have ht := dig_lt (d := d) hu hd
  have hle : ∀ q r, q * y1 + r = u → (q ≤ (u * 4294967296 + d) / (y1 * 4294967296 + y0) ↔ q * y0 ≤ 4294967296 * r + d) := fun q r h => dig_le hpos h
  have hex : ∀ q r, q * y1 + r = u → q ≤ 4294967296 → 4294967296 ≤ r → q ≤ (u * 4294967296 + d) / (y1 * 4294967296 + y0) := fun q r h h1 h2 => dig_exit hpos hy0 h h1 h2
  generalize (u * 4294967296 + d) / (y1 * 4294967296 + y0) = t at *
  intro n
  induction n with
  | zero =>
    intro q r hq hqr hr hq2
    rw [Nat.add_zero] at hq
    subst hq
    have h1 := (hle q r hqr).mp (Nat.le_refl _)
    have hm : q * y0 ≤ 4294967297 * 4294967295 := Nat.mul_le_mul hq2 (by omega)
    have w1 := wmul q y0 (by omega)
    have w2 : IntKind.u64.wrap (((4294967296 : Nat) : Int) * (r : Int)) = ((4294967296 * r : Nat) : Int) := by rw [wrapu64] <;> omega
    have w3 : IntKind.u64.wrap (((4294967296 * r : Nat) : Int) + (d : Int)) = ((4294967296 * r + d : Nat) : Int) := by rw [wrapu64] <;> omega
    have c2 : (((q * y0 : Nat) : Int) > ((4294967296 * r + d : Nat) : Int)) = False := by
      apply eq_false
      generalize q * y0 = z at *
      omega
    have c1' : ((q : Int) ≥ ((4294967296 : Nat) : Int)) = False := eq_false (by omega)
    rw [B33_17_eq]
    simp only [binV_geq, binV_mul, binV_add, binV_gtr, asB_bool, Option.bind_some, Int.ofNat_eq_natCast, decide_true, decide_false, c1', cond_false, w1, w2, w3, c2]
  | succ n ih =>
    intro q r hq hqr hr hq2
    have hgt : ¬(q ≤ t) := by omega
    have h1 : ¬(q * y0 ≤ 4294967296 * r + d) := fun h => hgt ((hle q r hqr).mpr h)
    have hm : q * y0 ≤ 4294967297 * 4294967295 := Nat.mul_le_mul hq2 (by omega)
    have hqr' : (q - 1) * y1 + (r + y1) = u := by
      obtain ⟨q', rfl⟩ : ∃ q', q = q' + 1 := ⟨q - 1, by omega⟩
      rw [Nat.add_mul] at hqr
      rw [Nat.add_sub_cancel]
      omega
    have w4 := wsub q 1 (by omega) (by omega)
    have w5 := wadd r y1 (by omega)
    -- a step down
    have g18 : B33_18 (.int .u64 (Y : Int)) (.int .u64 (s : Int)) (.int .u64 (y1 : Int)) (.int .u64 (y0 : Int)) (.int .u64 (u : Int)) (.int .u64 (d : Int)) (.int .u64 (d0 : Int)) (.int .u64 (q : Int)) (.int .u64 (r : Int)) hp =
        B33_21 (.int .u64 (Y : Int)) (.int .u64 (s : Int)) (.int .u64 (y1 : Int)) (.int .u64 (y0 : Int)) (.int .u64 (u : Int)) (.int .u64 (d : Int)) (.int .u64 (d0 : Int)) (.int .u64 (t : Int)) hp := by
      rw [B33_18_eq]
      by_cases hb : 4294967296 ≤ r + y1
      · have hq3 := hex (q - 1) (r + y1) hqr' (by omega) hb
        have e : q - 1 = t := by omega
        have c : (((r + y1 : Nat) : Int) ≥ ((4294967296 : Nat) : Int)) = True := eq_true (by omega)
        rw [e] at w4
        simp only [binV_geq, binV_sub, binV_add, asB_bool, Option.bind_some, Int.ofNat_eq_natCast, decide_true, decide_false, w4, w5, c, cond_true]
      · have c : (((r + y1 : Nat) : Int) ≥ ((4294967296 : Nat) : Int)) = False := eq_false (by omega)
        have g := ih (q - 1) (r + y1) (by omega) hqr' (by omega) (by omega)
        simp only [binV_geq, binV_sub, binV_add, asB_bool, Option.bind_some, Int.ofNat_eq_natCast, decide_true, decide_false, w4, w5, c, cond_false]
        exact g
    rw [B33_17_eq]
    by_cases hB : 4294967296 ≤ q
    · have c1' : ((q : Int) ≥ ((4294967296 : Nat) : Int)) = True := eq_true (by omega)
      simp only [binV_geq, asB_bool, Option.bind_some, Int.ofNat_eq_natCast, decide_true, decide_false, c1', cond_true]
      exact g18
    · have c1' : ((q : Int) ≥ ((4294967296 : Nat) : Int)) = False := eq_false (by omega)
      have w1 := wmul q y0 (by omega)
      have w2 : IntKind.u64.wrap (((4294967296 : Nat) : Int) * (r : Int)) = ((4294967296 * r : Nat) : Int) := by rw [wrapu64] <;> omega
      have w3 : IntKind.u64.wrap (((4294967296 * r : Nat) : Int) + (d : Int)) = ((4294967296 * r + d : Nat) : Int) := by rw [wrapu64] <;> omega
      have c2 : (((q * y0 : Nat) : Int) > ((4294967296 * r + d : Nat) : Int)) = True := by
        apply eq_true
        generalize q * y0 = z at *
        omega
      simp only [binV_geq, binV_mul, binV_add, binV_gtr, asB_bool, Option.bind_some, Int.ofNat_eq_natCast, decide_true, decide_false, c1', cond_false, w1, w2, w3, c2, cond_true]
      exact g18
theorem loop24 (Y s y1 y0 u d q1 un : Nat) (hy1 : 2147483648 ≤ y1) (hy1' : y1 < 4294967296) (hy0 : y0 < 4294967296) (hu : u < y1 * 4294967296 + y0) (hd : d < 4294967296) (hp : Hp) : ∀ (n q r : Nat), q = (u * 4294967296 + d) / (y1 * 4294967296 + y0) + n → q * y1 + r = u → r < 4294967296 → q ≤ 4294967297 →
    B33_24 (.int .u64 (Y : Int)) (.int .u64 (s : Int)) (.int .u64 (y1 : Int)) (.int .u64 (y0 : Int)) (.int .u64 (d : Int)) (.int .u64 (q1 : Int)) (.int .u64 (r : Int)) (.int .u64 (un : Int)) (.int .u64 (q : Int)) hp =
      B33_28 (.int .u64 (Y : Int)) (.int .u64 (s : Int)) (.int .u64 (d : Int)) (.int .u64 (q1 : Int)) (.int .u64 (un : Int)) (.int .u64 (((u * 4294967296 + d) / (y1 * 4294967296 + y0) : Nat) : Int)) hp := by
  have hpos : 0 < y1 * 4294967296 + y0 := by omega
  have ht := dig_lt (d := d) hu hd
  have hle : ∀ q r, q * y1 + r = u → (q ≤ (u * 4294967296 + d) / (y1 * 4294967296 + y0) ↔ q * y0 ≤ 4294967296 * r + d) := fun q r h => dig_le hpos h
  have hex : ∀ q r, q * y1 + r = u → q ≤ 4294967296 → 4294967296 ≤ r → q ≤ (u * 4294967296 + d) / (y1 * 4294967296 + y0) := fun q r h h1 h2 => dig_exit hpos hy0 h h1 h2
  generalize (u * 4294967296 + d) / (y1 * 4294967296 + y0) = t at *
  intro n
  induction n with
  | zero =>
    intro q r hq hqr hr hq2
    rw [Nat.add_zero] at hq
    subst hq
    have h1 := (hle q r hqr).mp (Nat.le_refl _)
    have hm : q * y0 ≤ 4294967297 * 4294967295 := Nat.mul_le_mul hq2 (by omega)
    have w1 := wmul q y0 (by omega)
    have w2 : IntKind.u64.wrap (((4294967296 : Nat) : Int) * (r : Int)) = ((4294967296 * r : Nat) : Int) := by rw [wrapu64] <;> omega
    have w3 : IntKind.u64.wrap (((4294967296 * r : Nat) : Int) + (d : Int)) = ((4294967296 * r + d : Nat) : Int) := by rw [wrapu64] <;> omega
    have c2 : (((q * y0 : Nat) : Int) > ((4294967296 * r + d : Nat) : Int)) = False := by
      apply eq_false
      generalize q * y0 = z at *
      omega
    have c1' : ((q : Int) ≥ ((4294967296 : Nat) : Int)) = False := eq_false (by omega)
    rw [B33_24_eq]
    simp only [binV_geq, binV_mul, binV_add, binV_gtr, asB_bool, Option.bind_some, Int.ofNat_eq_natCast, decide_true, decide_false, c1', cond_false, w1, w2, w3, c2]
  | succ n ih =>
    intro q r hq hqr hr hq2
    have hgt : ¬(q ≤ t) := by omega
    have h1 : ¬(q * y0 ≤ 4294967296 * r + d) := fun h => hgt ((hle q r hqr).mpr h)
    have hm : q * y0 ≤ 4294967297 * 4294967295 := Nat.mul_le_mul hq2 (by omega)
    have hqr' : (q - 1) * y1 + (r + y1) = u := by
      obtain ⟨q', rfl⟩ : ∃ q', q = q' + 1 := ⟨q - 1, by omega⟩
      rw [Nat.add_mul] at hqr
      rw [Nat.add_sub_cancel]
      omega
    have w4 := wsub q 1 (by omega) (by omega)
    have w5 := wadd r y1 (by omega)
    -- a step down
    have g18 : B33_25 (.int .u64 (Y : Int)) (.int .u64 (s : Int)) (.int .u64 (y1 : Int)) (.int .u64 (y0 : Int)) (.int .u64 (d : Int)) (.int .u64 (q1 : Int)) (.int .u64 (r : Int)) (.int .u64 (un : Int)) (.int .u64 (q : Int)) hp =
        B33_28 (.int .u64 (Y : Int)) (.int .u64 (s : Int)) (.int .u64 (d : Int)) (.int .u64 (q1 : Int)) (.int .u64 (un : Int)) (.int .u64 (t : Int)) hp := by
      rw [B33_25_eq]
      by_cases hb : 4294967296 ≤ r + y1
      · have hq3 := hex (q - 1) (r + y1) hqr' (by omega) hb
        have e : q - 1 = t := by omega
        have c : (((r + y1 : Nat) : Int) ≥ ((4294967296 : Nat) : Int)) = True := eq_true (by omega)
        rw [e] at w4
        simp only [binV_geq, binV_sub, binV_add, asB_bool, Option.bind_some, Int.ofNat_eq_natCast, decide_true, decide_false, w4, w5, c, cond_true]
      · have c : (((r + y1 : Nat) : Int) ≥ ((4294967296 : Nat) : Int)) = False := eq_false (by omega)
        have g := ih (q - 1) (r + y1) (by omega) hqr' (by omega) (by omega)
        simp only [binV_geq, binV_sub, binV_add, asB_bool, Option.bind_some, Int.ofNat_eq_natCast, decide_true, decide_false, w4, w5, c, cond_false]
        exact g
    rw [B33_24_eq]
    by_cases hB : 4294967296 ≤ q
    · have c1' : ((q : Int) ≥ ((4294967296 : Nat) : Int)) = True := eq_true (by omega)
      simp only [binV_geq, asB_bool, Option.bind_some, Int.ofNat_eq_natCast, decide_true, decide_false, c1', cond_true]
      exact g18
    · have c1' : ((q : Int) ≥ ((4294967296 : Nat) : Int)) = False := eq_false (by omega)
      have w1 := wmul q y0 (by omega)
      have w2 : IntKind.u64.wrap (((4294967296 : Nat) : Int) * (r : Int)) = ((4294967296 * r : Nat) : Int) := by rw [wrapu64] <;> omega
      have w3 : IntKind.u64.wrap (((4294967296 * r : Nat) : Int) + (d : Int)) = ((4294967296 * r + d : Nat) : Int) := by rw [wrapu64] <;> omega
      have c2 : (((q * y0 : Nat) : Int) > ((4294967296 * r + d : Nat) : Int)) = True := by
        apply eq_true
        generalize q * y0 = z at *
        omega
      simp only [binV_geq, binV_mul, binV_add, binV_gtr, asB_bool, Option.bind_some, Int.ofNat_eq_natCast, decide_true, decide_false, c1', cond_false, w1, w2, w3, c2, cond_true]
      exact g18
end Go.Proofs.Ytmnefpfbgadnkaa.AI
