/- The bits' library: 2^64 times a number, divided; about how many hashes were seen. -/
import Derived.Test.YtmnefpfbgadnkaaKmvE
namespace Go.Proofs.Ytmnefpfbgadnkaa.AI
open Go
set_option linter.unusedVariables false
set_option linter.unusedSimpArgs false
set_option maxRecDepth 100000

theorem shl_nat (x k : Nat) (hk : k ≤ 64) (h : x * 2 ^ k < 18446744073709551616) (o o' : Operand) (K : IntKind) : binV Go.Proofs.Try.prog .shl 27 o o' (.int .u64 (x : Int)) (.int K (k : Int)) = some (.int .u64 ((x * 2 ^ k : Nat) : Int)) := by
  rw [binV_shl _ _ _ _ _ _ _ _ (by omega)]
  have e : min ((k : Int)).toNat IntKind.u64.bits = k := by
    have : IntKind.u64.bits = 64 := rfl
    rw [this]; omega
  rw [e]
  have e2 : (x : Int) * 2 ^ k = ((x * 2 ^ k : Nat) : Int) := by
    rw [Int.natCast_mul, Int.natCast_pow]; rfl
  rw [e2, wrapu64 (by omega) (by omega)]
theorem and_nat (x : Nat) (h : x < 18446744073709551616) (o o' : Operand) : binV Go.Proofs.Try.prog .and 27 o o' (.int .u64 (x : Int)) (.int .u64 ((4294967295 : Nat) : Int)) = some (.int .u64 ((x % 4294967296 : Nat) : Int)) := by
  rw [binV_and]
  have e : (BitVec.ofInt 64 (x : Int) &&& BitVec.ofInt 64 ((4294967295 : Nat) : Int)).toNat = x % 4294967296 := by
    rw [BitVec.toNat_and, BitVec.toNat_ofInt, BitVec.toNat_ofInt]
    have e1 : (((x : Int) % ((2 ^ 64 : Nat) : Int)).toNat) = x := by omega
    have e2 : ((((4294967295 : Nat) : Int) % ((2 ^ 64 : Nat) : Int)).toNat) = 2 ^ 32 - 1 := by decide
    rw [e1, e2, Nat.and_two_pow_sub_one_eq_mod]
  show some (Value.int .u64 (IntKind.u64.wrap ((BitVec.ofInt 64 (x : Int) &&& BitVec.ofInt 64 ((4294967295 : Nat) : Int)).toNat : Nat))) = _
  rw [e, wrapu64 (by omega) (by omega)]
theorem or_zero (x : Nat) (h : x < 18446744073709551616) (o o' : Operand) : binV Go.Proofs.Try.prog .or 27 o o' (.int .u64 (x : Int)) (.int .u64 ((0 : Nat) : Int)) = some (.int .u64 (x : Int)) := by
  rw [binV_or]
  have e : (BitVec.ofInt 64 (x : Int) ||| BitVec.ofInt 64 ((0 : Nat) : Int)).toNat = x := by
    rw [BitVec.toNat_or, BitVec.toNat_ofInt, BitVec.toNat_ofInt]
    have e1 : (((x : Int) % ((2 ^ 64 : Nat) : Int)).toNat) = x := by omega
    have e2 : ((((0 : Nat) : Int) % ((2 ^ 64 : Nat) : Int)).toNat) = 0 := by decide
    rw [e1, e2, Nat.or_zero]
  show some (Value.int .u64 (IntKind.u64.wrap ((BitVec.ofInt 64 (x : Int) ||| BitVec.ofInt 64 ((0 : Nat) : Int)).toNat : Nat))) = _
  rw [e, wrapu64 (by omega) (by omega)]
theorem wnat (n : Nat) (h : n < 18446744073709551616) : IntKind.u64.wrap (n : Int) = n := wrapu64 (by omega) (by omega)
theorem quo_nat (x y : Nat) (hy : 0 < y) (h : x < 18446744073709551616) (o o' : Operand) : binV Go.Proofs.Try.prog .quo 27 o o' (.int .u64 (x : Int)) (.int .u64 (y : Int)) = some (.int .u64 ((x / y : Nat) : Int)) := by
  rw [binV_quo _ _ _ _ _ _ _ (by omega), Int.tdiv_eq_ediv_of_nonneg (by omega), ← Int.natCast_ediv]
  rw [wnat _ (Nat.lt_of_le_of_lt (Nat.div_le_self x y) h)]
theorem rem_nat (x y : Nat) (hy : 0 < y) (o o' : Operand) : binV Go.Proofs.Try.prog .rem 27 o o' (.int .u64 (x : Int)) (.int .u64 (y : Int)) = some (.int .u64 ((x % y : Nat) : Int)) := by
  rw [binV_rem _ _ _ _ _ _ _ (by omega), tmod_pos (by omega), ← Int.natCast_emod]
theorem mul_nat (x y : Nat) (h : x * y < 18446744073709551616) (o o' : Operand) : binV Go.Proofs.Try.prog .mul 27 o o' (.int .u64 (x : Int)) (.int .u64 (y : Int)) = some (.int .u64 ((x * y : Nat) : Int)) := by
  rw [binV_mul, wmul x y h]
theorem sub_nat (x y : Nat) (h : y ≤ x) (hx : x < 18446744073709551616) (o o' : Operand) (t : TypeId) : binV Go.Proofs.Try.prog .sub t o o' (.int .u64 (x : Int)) (.int .u64 (y : Int)) = some (.int .u64 ((x - y : Nat) : Int)) := by
  rw [binV_sub, wsub x y h hx]
theorem add_nat (x y : Nat) (h : x + y < 18446744073709551616) (o o' : Operand) : binV Go.Proofs.Try.prog .add 27 o o' (.int .u64 (x : Int)) (.int .u64 (y : Int)) = some (.int .u64 ((x + y : Nat) : Int)) := by
  rw [binV_add, wadd x y h]
/-- The rest behind the first digit. -/
theorem rest_nat (u y t : Nat) (h : t * y ≤ u * 4294967296) (h2 : u * 4294967296 - t * y < y) (hy : y < 18446744073709551616) (o1 o2 o3 o4 o5 o6 o7 o8 : Operand) :
    ((binV Go.Proofs.Try.prog .mul 27 o1 o2 (.int .u64 (u : Int)) (.int .u64 ((4294967296 : Nat) : Int))).bind fun y38 => (binV Go.Proofs.Try.prog .add 27 o3 o4 y38 (.int .u64 ((0 : Nat) : Int))).bind fun y39 => (binV Go.Proofs.Try.prog .mul 27 o5 o6 (.int .u64 (t : Int)) (.int .u64 (y : Int))).bind fun y40 =>
      binV Go.Proofs.Try.prog .sub 27 o7 o8 y39 y40) = some (.int .u64 ((u * 4294967296 - t * y : Nat) : Int)) := by
  simp only [binV_mul, binV_add, binV_sub, Option.bind_some]
  congr 2
  rw [IntKind.wrap_u64, IntKind.wrap_u64, IntKind.wrap_u64, IntKind.wrap_u64, ← Int.natCast_mul, ← Int.natCast_mul]
  generalize t * y = z at *
  generalize u * 4294967296 = v at *
  omega
/-! ### the same with a letter for 2^32 -/
section
variable {B : Nat} (hB : B = 4294967296)
include hB
theorem dig_firstB {y1 y0 u Y : Nat} (hY : y1 * B + y0 = Y) (h1 : 0 < y1) : u * B / Y ≤ u / y1 := by
  subst hB
  have h := dig_first (y1 := y1) (y0 := y0) (u := u) (d := 0) h1 (by omega)
  rw [hY, Nat.add_zero] at h
  exact h
theorem dig_guessB {y1 y0 u Y : Nat} (hY : y1 * B + y0 = Y) (h1 : 2147483648 ≤ y1) (h0 : y0 < B) (hu : u < Y) : u / y1 ≤ 4294967297 := by
  subst hB
  exact dig_guess (y0 := y0) h1 h0 (by rw [hY]; exact hu)
theorem dig_ltB {u Y : Nat} (hu : u < Y) : u * B / Y < B := by
  subst hB
  have h := dig_lt (y := Y) (u := u) (d := 0) hu (by omega)
  rw [Nat.add_zero] at h
  exact h
theorem loop17B (Y s y1 y0 u : Nat) (hY : y1 * B + y0 = Y) (hy1 : 2147483648 ≤ y1) (hy1' : y1 < B) (hy0 : y0 < B) (hu : u < Y) (hp : Hp) (n q r : Nat) (hq : q = u * B / Y + n) (hqr : q * y1 + r = u) (hr : r < B) (hq2 : q ≤ 4294967297) :
    B33_17 (.int .u64 (Y : Int)) (.int .u64 (s : Int)) (.int .u64 (y1 : Int)) (.int .u64 (y0 : Int)) (.int .u64 (u : Int)) (.int .u64 ((0 : Nat) : Int)) (.int .u64 ((0 : Nat) : Int)) (.int .u64 (q : Int)) (.int .u64 (r : Int)) hp =
      B33_21 (.int .u64 (Y : Int)) (.int .u64 (s : Int)) (.int .u64 (y1 : Int)) (.int .u64 (y0 : Int)) (.int .u64 (u : Int)) (.int .u64 ((0 : Nat) : Int)) (.int .u64 ((0 : Nat) : Int)) (.int .u64 ((u * B / Y : Nat) : Int)) hp := by
  subst hB
  have h := loop17 Y s y1 y0 u 0 0 hy1 hy1' hy0 (by rw [hY]; exact hu) (by omega) hp n q r
  rw [hY, Nat.add_zero] at h
  exact h hq hqr hr hq2
theorem loop24B (Y s y1 y0 u q1 un : Nat) (hY : y1 * B + y0 = Y) (hy1 : 2147483648 ≤ y1) (hy1' : y1 < B) (hy0 : y0 < B) (hu : u < Y) (hp : Hp) (n q r : Nat) (hq : q = u * B / Y + n) (hqr : q * y1 + r = u) (hr : r < B) (hq2 : q ≤ 4294967297) :
    B33_24 (.int .u64 (Y : Int)) (.int .u64 (s : Int)) (.int .u64 (y1 : Int)) (.int .u64 (y0 : Int)) (.int .u64 ((0 : Nat) : Int)) (.int .u64 (q1 : Int)) (.int .u64 (r : Int)) (.int .u64 (un : Int)) (.int .u64 (q : Int)) hp =
      B33_28 (.int .u64 (Y : Int)) (.int .u64 (s : Int)) (.int .u64 ((0 : Nat) : Int)) (.int .u64 (q1 : Int)) (.int .u64 (un : Int)) (.int .u64 ((u * B / Y : Nat) : Int)) hp := by
  subst hB
  have h := loop24 Y s y1 y0 u 0 q1 un hy1 hy1' hy0 (by rw [hY]; exact hu) (by omega) hp n q r
  rw [hY, Nat.add_zero] at h
  exact h hq hqr hr hq2
theorem rest_natB (u y t : Nat) (h : t * y ≤ u * B) (h2 : u * B - t * y < y) (hy : y < 18446744073709551616) (o1 o2 o3 o4 o5 o6 o7 o8 : Operand) :
    ((binV Go.Proofs.Try.prog .mul 27 o1 o2 (.int .u64 (u : Int)) (.int .u64 ((4294967296 : Nat) : Int))).bind fun y38 => (binV Go.Proofs.Try.prog .add 27 o3 o4 y38 (.int .u64 ((0 : Nat) : Int))).bind fun y39 => (binV Go.Proofs.Try.prog .mul 27 o5 o6 (.int .u64 (t : Int)) (.int .u64 (y : Int))).bind fun y40 =>
      binV Go.Proofs.Try.prog .sub 27 o7 o8 y39 y40) = some (.int .u64 ((u * B - t * y : Nat) : Int)) := by
  subst hB
  exact rest_nat u y t h h2 hy o1 o2 o3 o4 o5 o6 o7 o8
theorem mul_natB (x : Nat) (h : x < B) (o o' : Operand) : binV Go.Proofs.Try.prog .mul 27 o o' (.int .u64 (x : Int)) (.int .u64 ((4294967296 : Nat) : Int)) = some (.int .u64 ((x * B : Nat) : Int)) := by
  subst hB
  exact mul_nat x 4294967296 (by omega) o o'
theorem lt_sq {t r : Nat} (ht : t < B) (hr : r < B) : t * B + r < 18446744073709551616 := by
  subst hB
  omega
theorem and_natB (x : Nat) (h : x < 18446744073709551616) (o o' : Operand) : binV Go.Proofs.Try.prog .and 27 o o' (.int .u64 (x : Int)) (.int .u64 ((4294967295 : Nat) : Int)) = some (.int .u64 ((x % B : Nat) : Int)) := by
  subst hB
  exact and_nat x h o o'
theorem shr_natB (x : Nat) (o o' : Operand) : binV Go.Proofs.Try.prog .shr 27 o o' (.int .u64 (x : Int)) (.int .u64 ((32 : Nat) : Int)) = some (.int .u64 ((x / B : Nat) : Int)) := by
  subst hB
  exact shr_nat x 32 (by omega) o o' .u64
theorem norm_div (k y s : Nat) : k * 18446744073709551616 / y = k * 2 ^ s * (B * B) / (y * 2 ^ s) := by
  have e : k * 2 ^ s * (B * B) = k * (B * B) * 2 ^ s := by
    rw [Nat.mul_assoc, Nat.mul_comm (2 ^ s), ← Nat.mul_assoc]
  have e2 : B * B = 18446744073709551616 := by rw [hB]
  rw [e, Nat.mul_div_mul_right _ _ (Nat.two_pow_pos s), e2]
end
theorem mod_sub (U Y B : Nat) (hY : 0 < Y) : U * B - U * B / Y * Y < Y := by
  have e : U * B - U * B / Y * Y = U * B % Y := by
    have e := Nat.div_add_mod (U * B) Y
    rw [Nat.mul_comm Y] at e
    omega
  rw [e]
  exact Nat.mod_lt _ hY
theorem mod_sub1 (U y : Nat) (hY : 0 < y) : U - U / y * y < y := by
  have e : U - U / y * y = U % y := by
    have e := Nat.div_add_mod U y
    rw [Nat.mul_comm y] at e
    omega
  rw [e]
  exact Nat.mod_lt _ hY
theorem div_u (k y : Nat) (hk0 : 0 < k) (hk : k < y) (hy : y < 18446744073709551616) : ∃ (r : Nat), ∀ hp, B33_5 (.int .u64 (k : Int)) (.int .u64 ((0 : Nat) : Int)) (.int .u64 (y : Int)) hp = some (.tup [.sc (.int .u64 ((k * 18446744073709551616 / y : Nat) : Int)), .sc (.int .u64 (r : Int))], hp) := by
  obtain ⟨s, hs, hY, hY2, hlz⟩ := run_lz y hy (by omega)
  obtain ⟨B, hB⟩ : ∃ B : Nat, B = 4294967296 := ⟨_, rfl⟩
  have hU : k * 2 ^ s < y * 2 ^ s := Nat.mul_lt_mul_of_pos_right hk (Nat.two_pow_pos s)
  rw [norm_div hB k y s]
  have p1 := fun o o' K => shl_nat y s (by omega) hY o o' K
  have p2 := fun o o' K => shl_nat k s (by omega) (by omega) o o' K
  have p3 := fun o o' K => shl_nat 0 s (by omega) (by omega) o o' K
  rw [Nat.zero_mul] at p3
  generalize y * 2 ^ s = Y at *
  generalize k * 2 ^ s = U at *
  have two := two_digits B U Y (by omega)
  have hB0 : 0 < B := by omega
  have hYd : Y / B * B + Y % B = Y := by rw [Nat.mul_comm]; exact Nat.div_add_mod Y B
  have hy0 : Y % B < B := Nat.mod_lt _ hB0
  have hy1 : 2147483648 ≤ Y / B := by rw [hB]; omega
  have hy1' : Y / B < B := by rw [hB]; omega
  have q2 := fun o o' => shr_natB hB Y o o'
  have q3 := fun o o' => and_natB hB Y hY o o'
  obtain ⟨y1, hy1e⟩ : ∃ y1, y1 = Y / B := ⟨_, rfl⟩
  obtain ⟨y0, hy0e⟩ : ∃ y0, y0 = Y % B := ⟨_, rfl⟩
  rw [← hy1e, ← hy0e] at hYd
  rw [← hy0e] at hy0 q3
  rw [← hy1e] at hy1 hy1' q2
  have q4 := fun o o' => shr_nat 0 (64 - s) (by omega) o o' .u64
  rw [Nat.zero_div] at q4
  have q5 := fun o o' => or_zero U (by omega) o o'
  have q6 := fun o o' => shr_natB hB 0 o o'
  rw [Nat.zero_div] at q6
  have q7 := fun o o' => and_natB hB 0 (by omega) o o'
  rw [Nat.zero_mod] at q7
  have hq := Nat.div_mul_le_self U y1
  have q8 := fun o o' => quo_nat U y1 (by omega) (by omega) o o'
  have q9 := fun o o' => mul_nat (U / y1) y1 (by omega) o o'
  have q10 := fun o o' => sub_nat U (U / y1 * y1) hq (by omega) o o' 27
  have q11 := fun o o' => sub_nat 64 s (by omega) (by omega) o o' 51
  have w64 : IntKind.u64.wrap ((s : Nat) : Int) = (s : Int) := wnat s (by omega)
  -- the first digit
  have g1 := dig_guessB hB (u := U) hYd hy1 hy0 hU
  have f1 := dig_firstB hB (u := U) hYd (by omega)
  obtain ⟨n1, hn1⟩ : ∃ n, U / y1 = U * B / Y + n := ⟨U / y1 - U * B / Y, by omega⟩
  have l17 := fun hp => loop17B hB Y s y1 y0 U hYd hy1 hy1' hy0 hU hp n1 (U / y1) (U - U / y1 * y1) hn1 (by omega) (Nat.lt_trans (mod_sub1 U y1 (by omega)) hy1') g1
  have hr1 := mod_sub U Y B (by omega)
  have rst := fun o1 o2 o3 o4 o5 o6 o7 o8 => rest_natB hB U Y (U * B / Y) (Nat.div_mul_le_self _ _) hr1 hY o1 o2 o3 o4 o5 o6 o7 o8
  have ht1 := dig_ltB hB hU
  obtain ⟨t1, ht1e⟩ : ∃ t1, t1 = U * B / Y := ⟨_, rfl⟩
  rw [← ht1e] at l17 hr1 rst ht1 two
  obtain ⟨R, hRe⟩ : ∃ R, R = U * B - t1 * Y := ⟨_, rfl⟩
  rw [← hRe] at hr1 rst two
  -- the second digit
  have hq' := Nat.div_mul_le_self R y1
  have b8 := fun o o' => quo_nat R y1 (by omega) (by omega) o o'
  have b9 := fun o o' => mul_nat (R / y1) y1 (by omega) o o'
  have b10 := fun o o' => sub_nat R (R / y1 * y1) hq' (by omega) o o' 27
  have g2 := dig_guessB hB (u := R) hYd hy1 hy0 hr1
  have f2 := dig_firstB hB (u := R) hYd (by omega)
  obtain ⟨n2, hn2⟩ : ∃ n, R / y1 = R * B / Y + n := ⟨R / y1 - R * B / Y, by omega⟩
  have l24 := fun hp => loop24B hB Y s y1 y0 R t1 R hYd hy1 hy1' hy0 hr1 hp n2 (R / y1) (R - R / y1 * y1) hn2 (by omega) (Nat.lt_trans (mod_sub1 R y1 (by omega)) hy1') g2
  have ht2 := dig_ltB hB hr1
  obtain ⟨t2, ht2e⟩ : ∃ t2, t2 = R * B / Y := ⟨_, rfl⟩
  rw [← ht2e] at l24 ht2 two
  have c1 := fun o o' => mul_natB hB t1 ht1 o o'
  have c2 := fun o o' => add_nat (t1 * B) t2 (lt_sq hB ht1 ht2) o o'
  rw [← two]
  -- the end
  have e28 : ∃ r : Nat, ∀ hp, B33_28 (.int .u64 (Y : Int)) (.int .u64 (s : Int)) (.int .u64 ((0 : Nat) : Int)) (.int .u64 (t1 : Int)) (.int .u64 (R : Int)) (.int .u64 (t2 : Int)) hp = some (.tup [.sc (.int .u64 ((t1 * B + t2 : Nat) : Int)), .sc (.int .u64 (r : Int))], hp) := by
    obtain ⟨m, hm⟩ : ∃ m : Nat, IntKind.u64.wrap (IntKind.u64.wrap (IntKind.u64.wrap ((R : Int) * ((4294967296 : Nat) : Int)) + ((0 : Nat) : Int)) - IntKind.u64.wrap ((t2 : Int) * (Y : Int))) = (m : Int) := by
      refine ⟨(IntKind.u64.wrap (IntKind.u64.wrap (IntKind.u64.wrap ((R : Int) * ((4294967296 : Nat) : Int)) + ((0 : Nat) : Int)) - IntKind.u64.wrap ((t2 : Int) * (Y : Int)))).toNat, ?_⟩
      rw [IntKind.wrap_u64]
      omega
    have sh := fun o o' => shr_nat m s (by omega) o o' .u64
    refine ⟨m / 2 ^ s, fun hp => ?_⟩
    rw [B33_28_eq]
    simp only [Int.ofNat_eq_natCast, c1, c2, Option.bind_some, binV_mul, binV_add, binV_sub, hm, sh]
  obtain ⟨r, e28⟩ := e28
  refine ⟨r, fun hp => ?_⟩
  have e24 : B33_21 (.int .u64 (Y : Int)) (.int .u64 (s : Int)) (.int .u64 (y1 : Int)) (.int .u64 (y0 : Int)) (.int .u64 (U : Int)) (.int .u64 ((0 : Nat) : Int)) (.int .u64 ((0 : Nat) : Int)) (.int .u64 (t1 : Int)) hp = some (.tup [.sc (.int .u64 ((t1 * B + t2 : Nat) : Int)), .sc (.int .u64 (r : Int))], hp) := by
    rw [B33_21_eq]
    have rs := rst (.tmp 86) (.const (.int .u64 (Int.ofNat 4294967296))) (.tmp 87) (.tmp 88) (.tmp 90) (.tmp 91) (.tmp 89) (.tmp 92)
    simp only [binV_mul, binV_add, binV_sub, Option.bind_some, Option.some.injEq, Value.int.injEq, true_and] at rs
    have wm := wmul (R / y1) y1 (by omega)
    have ws := wsub R (R / y1 * y1) hq' (by omega)
    simp only [binV_mul, binV_add, binV_sub, Option.bind_some, Int.ofNat_eq_natCast, rs, b8, wm, ws]
    exact (l24 hp).trans (e28 hp)
  have hk0' : ((k : Int) = ((0 : Nat) : Int)) = False := eq_false (by omega)
  rw [B33_5_eq]
  simp only [Int.ofNat_eq_natCast, binV_eql, hk0', decide_false, asB_bool, Option.bind_some, cond_false, ro_sc, hlz, asSc_sc, cv_3_51, w64, p1, q2, q3, p2, q11, q4, q5, p3, q6, q7, q8, q9, q10, adv_emp]
  exact (l17 hp).trans (e24)
/-- 2^64 times a number, divided by a greater one. -/
theorem run_div (k y : Nat) (hk : k < y) (hy : y < 18446744073709551616) : ∃ (r : Nat), ∀ hp, run cxX 33 [.sc (.int .u64 (k : Int)), .sc (.int .u64 0), .sc (.int .u64 (y : Int))] hp = some (.tup [.sc (.int .u64 ((k * 18446744073709551616 / y : Nat) : Int)), .sc (.int .u64 (r : Int))], hp) := by
  have c1 : ((y : Int) = ((0 : Nat) : Int)) = False := eq_false (by omega)
  have c2 : ((y : Int) ≤ (k : Int)) = False := eq_false (by omega)
  have h5 : ∃ (r : Nat), ∀ hp, B33_5 (.int .u64 (k : Int)) (.int .u64 ((0 : Nat) : Int)) (.int .u64 (y : Int)) hp = some (.tup [.sc (.int .u64 ((k * 18446744073709551616 / y : Nat) : Int)), .sc (.int .u64 (r : Int))], hp) := by
    by_cases h0 : k = 0
    · subst h0
      refine ⟨0 % y, fun hp => ?_⟩
      have q := fun o o' => quo_nat 0 y (by omega) (by omega) o o'
      have m := fun o o' => rem_nat 0 y (by omega) o o'
      rw [B33_5_eq]
      simp only [Int.ofNat_eq_natCast, binV_eql, decide_true, asB_bool, Option.bind_some, cond_true, q, m]
      try rw [Nat.zero_mul]
    · exact div_u k y (by omega) hk hy
  obtain ⟨r, h5⟩ := h5
  refine ⟨r, fun hp => ?_⟩
  rw [E33]
  simp only [asSc_sc, Option.bind_some, Int.ofNat_eq_natCast, binV_eql, c1, decide_false, asB_bool, cond_false]
  rw [B33_3_eq]
  simp only [Int.ofNat_eq_natCast, binV_leq, c2, decide_false, asB_bool, Option.bind_some, cond_false]
  exact h5 hp
end Go.Proofs.Ytmnefpfbgadnkaa.AI
