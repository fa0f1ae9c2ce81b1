/- Registers: may it be one, the same, two as one, the register of a hash, a hash more, of many hashes. -/
import Derived.Test.YtchmioacjkbfcaaGreatEqHll
import Derived.Test.YtchmioacjkbfcaaGreatEqLaw13
import Derived.Test.YtchmioacjkbfcaaGreatSpBits
import Derived.Test.YtchmioacjkbfcaaGreatMe
namespace Go.Proofs.YtchmioacjkbfcaaGreat.AI
open Go
set_option linter.unusedVariables false
set_option linter.unusedSimpArgs false
set_option maxRecDepth 100000

/-! ### how long a number is -/
def blen (x : Nat) : Nat := if x = 0 then 0 else Nat.log2 x + 1
theorem bl_blen {x n : Nat} (h : Bl x n) : n = blen x := by
  unfold blen
  by_cases hx : x = 0
  · rw [if_pos hx]
    subst hx
    rcases h.2 with h2 | h2
    · exact h2
    · have := Nat.two_pow_pos (n - 1); omega
  · rw [if_neg hx]
    have hn : n ≠ 0 := by
      intro e; subst e
      have := h.1
      simp at this
      exact hx this
    have h2 := h.2.resolve_left hn
    have a1 := Nat.log2_self_le hx
    have a2 : x < 2 ^ (Nat.log2 x + 1) := Nat.lt_log2_self
    have b1 : n - 1 < Nat.log2 x + 1 := (Nat.pow_lt_pow_iff_right (by decide : 1 < 2)).mp (Nat.lt_of_le_of_lt h2 a2)
    have b2 : Nat.log2 x < n := (Nat.pow_lt_pow_iff_right (by decide : 1 < 2)).mp (Nat.lt_of_le_of_lt a1 h.1)
    omega
theorem blen_le {x : Nat} (h : x < 18446744073709551616) : blen x ≤ 64 := by
  obtain ⟨n, h1, h2, _⟩ := run_len64 x h
  rw [← bl_blen h2]; exact h1
theorem run_lzs (x : Nat) (h : x < 18446744073709551616) (hp : Hp) : run cxX 168 [.sc (.int .u64 (x : Int))] hp = some (.sc (.int .i64 ((64 - blen x : Nat) : Int)), hp) := by
  obtain ⟨n, h1, h2, h3⟩ := run_len64 x h
  rw [bl_blen h2] at h1 h3
  have w : IntKind.i64.wrap (64 - (blen x : Int)) = ((64 - blen x : Nat) : Int) := by rw [wrap64] <;> omega
  rw [E168]
  simp [h3, w]
/-! ### places -/
abbrev Hv (P : Int) (x : AV) : AV := .agg [.sc (.int .i64 P), x]
def hpow (P : Int) : Nat := 2 ^ P.toNat
/-- The register of a hash, and its row of noughts. -/
def hplc (P h : Int) : Nat := (h / 2 ^ (64 - P).toNat).toNat
def hrow (P h : Int) : Int := min ((64 - blen ((h * 2 ^ P.toNat) % 18446744073709551616).toNat : Nat) : Int) (64 - P) + 1
theorem hrow_in {P h : Int} (hP : 4 ≤ P ∧ P ≤ 8) : 1 ≤ hrow P h ∧ hrow P h ≤ 65 - P := by
  unfold hrow; omega
theorem hplc_lt {P h : Int} (hP : 4 ≤ P ∧ P ≤ 8) (hh : 0 ≤ h ∧ h < 18446744073709551616) : hplc P h < hpow P := by
  unfold hplc hpow
  obtain ⟨p, rfl⟩ : ∃ p : Nat, P = p := ⟨P.toNat, by omega⟩
  obtain ⟨x, rfl⟩ : ∃ x : Nat, h = x := ⟨h.toNat, by omega⟩
  have e : (64 - (p : Int)).toNat = 64 - p := by omega
  rw [e, Int.toNat_natCast]
  have e2 : ((x : Int) / 2 ^ (64 - p)) = ((x / 2 ^ (64 - p) : Nat) : Int) := by simp
  rw [e2, Int.toNat_natCast]
  apply Nat.div_lt_of_lt_mul
  rw [← Nat.pow_add]
  have e3 : 64 - p + p = 64 := by omega
  rw [e3]
  omega
theorem run_hplace (P h : Int) (x : AV) (hP : 4 ≤ P ∧ P ≤ 8) (hh : 0 ≤ h ∧ h < 18446744073709551616) (hp : Hp) :
    run cxX 125 [Hv P x, .sc (.int .u64 h)] hp = some (.tup [.sc (.int .i64 (hplc P h : Int)), .sc (.int .u8 (hrow P h))], hp) := by
  rw [E125]
  have m1 : max P 4 = P := by omega
  have m2 : min P 8 = P := by omega
  have w1 : IntKind.i64.wrap (64 - P) = 64 - P := wrap64 (by omega) (by omega)
  have s1 : ∀ t x y, binV Go.Proofs.Tryz.prog .shr t x y (.int .u64 h) (.int .i64 (64 - P)) = some (.int .u64 (hplc P h : Int)) := by
    intro t x y
    rw [binV_shr _ _ _ _ _ _ _ _ (by omega)]
    have e : min (64 - P).toNat IntKind.u64.bits = (64 - P).toNat := by
      have : IntKind.u64.bits = 64 := rfl
      omega
    rw [e, Int.fdiv_eq_ediv_of_nonneg _ (by exact_mod_cast Nat.zero_le _)]
    unfold hplc
    have : 0 ≤ h / 2 ^ (64 - P).toNat := Int.ediv_nonneg hh.1 (by exact_mod_cast Nat.zero_le _)
    rw [Int.toNat_of_nonneg this]
  have hlt := hplc_lt hP hh
  have h256 : hpow P ≤ 256 := by
    unfold hpow
    have : P.toNat ≤ 8 := by omega
    calc 2 ^ P.toNat ≤ 2 ^ 8 := Nat.pow_le_pow_right (by decide) this
      _ = 256 := rfl
  have w2 : IntKind.i64.wrap (hplc P h : Int) = (hplc P h : Int) := wrap64 (by omega) (by omega)
  obtain ⟨y, hy⟩ : ∃ y : Nat, y = ((h * 2 ^ P.toNat) % 18446744073709551616).toNat := ⟨_, rfl⟩
  have hy64 : y < 18446744073709551616 := by omega
  have s2 : ∀ t a b, binV Go.Proofs.Tryz.prog .shl t a b (.int .u64 h) (.int .i64 P) = some (.int .u64 (y : Int)) := by
    intro t a b
    rw [binV_shl _ _ _ _ _ _ _ _ (by omega)]
    have e : min P.toNat IntKind.u64.bits = P.toNat := by
      have : IntKind.u64.bits = 64 := rfl
      omega
    rw [e, IntKind.wrap_u64, hy]
    congr 2
    omega
  have lz := fun hp => run_lzs y hy64 hp
  have hr := hrow_in (h := h) hP
  have hre : hrow P h = min ((64 - blen y : Nat) : Int) (64 - P) + 1 := by unfold hrow; rw [hy]
  have w3 : IntKind.i64.wrap (min ((64 - blen y : Nat) : Int) (64 - P) + 1) = hrow P h := by rw [← hre]; exact wrap64 (by omega) (by omega)
  have w4 : IntKind.u8.wrap (hrow P h) = hrow P h := wrapu8 (by omega) (by omega)
  simp [getSc, m1, m2, w1, s1, s2, w2, lz, w3, w4]
/-! ### new, Top, Check, Same -/
theorem shl_pow (P : Int) (hP : 0 ≤ P ∧ P ≤ 8) (t : TypeId) (x y : Operand) : binV Go.Proofs.Tryz.prog .shl t x y (.int .i64 1) (.int .i64 P) = some (.int .i64 (hpow P : Int)) := by
  rw [binV_shl _ _ _ _ _ _ _ _ (by omega)]
  have e : min P.toNat IntKind.i64.bits = P.toNat := by
    have : IntKind.i64.bits = 64 := rfl
    omega
  have h256 : hpow P ≤ 256 := by
    unfold hpow
    have : P.toNat ≤ 8 := by omega
    calc 2 ^ P.toNat ≤ 2 ^ 8 := Nat.pow_le_pow_right (by decide) this
      _ = 256 := rfl
  rw [e]
  have e2 : (1 * 2 ^ P.toNat : Int) = (hpow P : Int) := by unfold hpow; simp
  rw [e2, wrap64 (by omega) (by omega)]
theorem hpow_le {P : Int} (hP : P ≤ 8) : hpow P ≤ 256 := by
  unfold hpow
  have : P.toNat ≤ 8 := by omega
  calc 2 ^ P.toNat ≤ 2 ^ 8 := Nat.pow_le_pow_right (by decide) this
    _ = 256 := rfl
theorem hpow_pos (P : Int) : 0 < hpow P := Nat.two_pow_pos _
theorem run_htop (P : Int) (x : AV) (hP : 0 ≤ P ∧ P ≤ 64) (hp : Hp) : run cxX 122 [Hv P x] hp = some (.sc (.int .i64 (65 - P)), hp) := by
  rw [E122]
  have w : IntKind.i64.wrap (65 - P) = 65 - P := wrap64 (by omega) (by omega)
  simp [getSc, w]
/-- Registers that are too great. -/
def hchkR (P : Int) (l : List Int) : Int := if (∃ n ∈ l, 65 - P < n) then 2 else 0
def hchk (P : Int) (l : List Int) : Int := if P < 4 ∨ 8 < P then 2 else if l.length ≠ hpow P then 6 else hchkR P l
theorem hcheck_loop (P : Int) (l : List Int) (k : Nat) (hP : 4 ≤ P ∧ P ≤ 8) (hl : l.length ≤ 1000) (h8 : ∀ n ∈ l, 0 ≤ n ∧ n < 256) (hp : Hp) : ∀ (r : List Int) (i : Nat), l.drop i = r →
    B64_6 (S k 1 (LI .u8 l)) (.int .i64 l.length) (.int .i64 i) [.sc (.int .i64 P), S k 1 (LI .u8 l)] hp = some (.sc (.int .i64 (hchkR P r)), hp) := by
  intro r
  induction r with
  | nil =>
    intro i hr
    have := drop_nil hr
    have hlt : ¬((i : Int) < (l.length : Int)) := by omega
    rw [B64_6_eq]
    simp [hlt, hchkR]
  | cons x r ih =>
    intro i hr
    obtain ⟨e1, e2, hi, e3⟩ := drop_cons hr
    have hx := h8 x (List.mem_of_getElem? e1)
    have hw : IntKind.i64.wrap ((i : Int) + 1) = ((i + 1 : Nat) : Int) := by rw [wrap64] <;> omega
    have w8 : IntKind.i64.wrap x = x := wrap64 (by omega) (by omega)
    have tp := fun y hp => run_htop P y (by omega) hp
    have h := ih (i + 1) e2
    rw [B64_6_eq]
    simp at h hw
    by_cases e : 65 - P < x
    · simp [hi, e3, getSc, getN, w8, tp, e, hchkR]
    · have e' : hchkR P (x :: r) = hchkR P r := by
        unfold hchkR
        simp [e]
      simp [hi, e3, getSc, getN, w8, tp, e, hw, h, e']
theorem run_hcheck (P : Int) (l : List Int) (k : Nat) (hl : l.length ≤ 1000000) (h8 : ∀ n ∈ l, 0 ≤ n ∧ n < 256) (hp : Hp) : run cxX 64 [Hv P (S k 1 (LI .u8 l))] hp = some (.sc (.int .i64 (hchk P l)), hp) := by
  rw [E64]
  unfold hchk
  by_cases h1 : P < 4
  · simp [getSc, h1, B64_2_eq]
  · by_cases h2 : 8 < P
    · simp [getSc, h1, h2, B64_2_eq]
    · have s := fun t x y => shl_pow P (by omega) t x y
      have hple := hpow_le (P := P) (by omega)
      by_cases h3 : l.length = hpow P
      · have hh := hcheck_loop P l (rk k) (by omega) (by omega) h8 hp l 0 rfl
        simp at hh
        simp [getSc, getC, h1, h2, s, h3, B64_3_eq]
        rw [← h3]; exact hh
      · have h4 : ¬((l.length : Int) = (hpow P : Int)) := by omega
        simp [getSc, getC, h1, h2, s, h3, h4, B64_3_eq]
/-! bytes -/
def b8 (l : List Int) : List UInt8 := l.map fun n => UInt8.ofNat n.toNat
@[simp] theorem bytes_I : ∀ l : List Int, bytesOfA (LI .u8 l) = some (b8 l)
  | [] => rfl
  | x :: l => by
    have := bytes_I l
    show (bytesOfA (LI .u8 l)).map _ = _
    rw [this]; rfl
theorem b8_inj : ∀ {a b : List Int}, (∀ n ∈ a, 0 ≤ n ∧ n < 256) → (∀ n ∈ b, 0 ≤ n ∧ n < 256) → (b8 a = b8 b ↔ a = b)
  | [], [], _, _ => by simp
  | [], y :: b, _, _ => by simp [b8]
  | x :: a, [], _, _ => by simp [b8]
  | x :: a, y :: b, ha, hb => by
    have ih := b8_inj (a := a) (b := b) (fun n hn => ha n (by simp [hn])) (fun n hn => hb n (by simp [hn]))
    have hx := ha x (by simp)
    have hy := hb y (by simp)
    have e : UInt8.ofNat x.toNat = UInt8.ofNat y.toNat ↔ x = y := by
      constructor
      · intro h
        have := congrArg UInt8.toNat h
        simp at this
        omega
      · rintro rfl; rfl
    simp only [b8, List.map_cons, List.cons.injEq] at ih ⊢
    rw [e, ih]
theorem run_hsame (P P' : Int) (a b : List Int) (k k' : Nat) (ha : ∀ n ∈ a, 0 ≤ n ∧ n < 256) (hb : ∀ n ∈ b, 0 ≤ n ∧ n < 256) (hp : Hp) :
    run cxX 118 [Hv P (S k 1 (LI .u8 a)), Hv P' (S k' 1 (LI .u8 b))] hp = some (.sc (.bool (decide (P = P' ∧ a = b))), hp) := by
  rw [E118]
  by_cases h : P = P'
  · have e : decide (b8 a = b8 b) = decide (a = b) := decide_eq_decide.mpr (b8_inj ha hb)
    simp [getSc, getC, h, e]
  · simp [getSc, h]
theorem run_hnew (P : Int) (hP : 4 ≤ P ∧ P ≤ 8) (hp : Hp) : run cxX 74 [.sc (.int .i64 P)] hp = some (.tup [Hv P (S 0 1 (LI .u8 (List.replicate (hpow P) 0))), .sc (.bool true)], hp) := by
  rw [E74]
  have h1 : ¬(P < 4) := by omega
  have h2 : ¬(8 < P) := by omega
  have s := fun t x y => shl_pow P (by omega) t x y
  have hple := hpow_le (P := P) (by omega)
  have mk : okMake 1 1 (hpow P : Int) (hpow P : Int) = some () := okMake_ok (by omega) (by omega) (by decide) (by decide)
  simp [h1, h2, B74_3_eq, s, mk, zeros_I, getN, putN]
theorem run_hnew_bad (P : Int) (hP : P < 4 ∨ 8 < P) (hp : Hp) : run cxX 74 [.sc (.int .i64 P)] hp = some (.tup [Hv 0 (S 2 1 []), .sc (.bool false)], hp) := by
  rw [E74]
  by_cases h1 : P < 4
  · simp [h1, B74_2_eq, getN, putN]
  · have h2 : 8 < P := by omega
    simp [h1, h2, B74_2_eq, getN, putN]
/-! ### two as one -/
def hmax : List Int → List Int → List Int
  | [], _ => []
  | x :: a, [] => x :: a
  | x :: a, y :: b => max x y :: hmax a b
theorem hmax_len : ∀ a b, (hmax a b).length = a.length
  | [], _ => by simp [hmax]
  | x :: a, [] => by simp [hmax]
  | x :: a, y :: b => by simp [hmax, hmax_len a b]
@[simp] theorem hmax_nil_r : ∀ a, hmax a [] = a
  | [] => rfl
  | _ :: _ => rfl
/-! ### a hash more -/
def hadd (P : Int) (l : List Int) (h : Int) : List Int := if hplc P h < l.length then l.set (hplc P h) (max (l.getD (hplc P h) 0) (hrow P h)) else l
theorem run_hadd (P : Int) (l : List Int) (k : Nat) (h : Int) (hP : 4 ≤ P ∧ P ≤ 8) (hh : 0 ≤ h ∧ h < 18446744073709551616) (hl : l.length ≤ 1000000) (hp : Hp) :
    ∃ t hp', run cxX 70 [Hv P (S k 1 (LI .u8 l)), .sc (.int .u64 h)] hp = some (Hv P (S t 1 (LI .u8 (hadd P l h))), hp') := by
  rw [E70]
  have pl := fun x hp => run_hplace P h x hP hh hp
  by_cases hne : l = []
  · subst hne
    have n1 := fun k hp => appM_nil 1 k hp
    have e : ¬((hplc P h : Int) < 0) := by omega
    refine ⟨0, hp, ?_⟩
    simp [getSc, getC, n1, putN, getN, pl, hadd, e, B70_5_eq]
  · have n1 := fun k hp => appM_fresh .u8 l k 1 (by decide) hl hne hp
    have f5 : ∀ (l : List Int) (b : Nat) (hp : Hp) (q0 q1 : AV), hp.rd b 0 = some (LI .u8 l) → B70_5 [q0, q1] [.sc (.int .i64 P), .ms b 0 0 l.length 1] hp = some (Hv P (S 0 1 (LI .u8 l)), hp.del b) := by
      intro l b hp q0 q1 hb
      have f := frz1_I .u8 l hp b hb
      rw [B70_5_eq]
      simp [getN, putN, f]
    by_cases hi : hplc P h < l.length
    · have hi' : (hplc P h : Int) < (l.length : Int) := by omega
      have ix := idx_nat .i64 hi
      have gs : l[hplc P h]? = some (l.getD (hplc P h) 0) := by simp [hi]
      have pt := putN_I .u8 l (hplc P h) (max (l.getD (hplc P h) 0) (hrow P h)) hi
      have f := f5 (l.set (hplc P h) (max (l.getD (hplc P h) 0) (hrow P h))) hp.next ((hp.new (LI .u8 l)).put hp.next 0 (LI .u8 (l.set (hplc P h) (max (l.getD (hplc P h) 0) (hrow P h))))) (.sc (.int .i64 0)) (S 2 1 []) (rd_put _ _ _)
      rw [List.length_set] at f
      have r0 := rd_new hp (LI .u8 l)
      refine ⟨0, ((hp.new (LI .u8 l)).put hp.next 0 (LI .u8 (l.set (hplc P h) (max (l.getD (hplc P h) 0) (hrow P h))))).del hp.next, ?_⟩
      simp only [hadd, if_pos hi]
      generalize l.getD (hplc P h) 0 = g at gs pt f ⊢
      simp [getSc, getC, n1, putN, getN, pl, hi', ix, r0, gs] at pt ⊢
      simp [pt]
      exact f
    · have hi' : ¬((hplc P h : Int) < (l.length : Int)) := by omega
      have f := f5 l hp.next (hp.new (LI .u8 l)) (.sc (.int .i64 0)) (S 2 1 []) (rd_new _ _)
      refine ⟨0, (hp.new (LI .u8 l)).del hp.next, ?_⟩
      simp only [hadd, if_neg hi]
      simp [getSc, getC, n1, putN, getN, pl, hi']
      exact f
/-! ### of many hashes -/
theorem run_hash0 (h : Int) (hh : 0 ≤ h ∧ h < 18446744073709551616) : ∃ v : Int, (0 ≤ v ∧ v < 18446744073709551616) ∧ ∀ hp, run cxX 75 [.sc (.int .u64 h)] hp = some (.sc (.int .u64 v), hp) := by
  have r3 : ∀ t x y, binV Go.Proofs.Tryz.prog .rem t x y (.int .u64 h) (.int .u64 3) = some (.int .u64 (h % 3)) := by
    intro t x y; rw [binV_rem _ _ _ _ _ _ _ (by omega), tmod_pos hh.1]
  by_cases e : h % 3 = 0
  · obtain ⟨z1, s1⟩ : ∃ z : Int, ∀ t x y, binV Go.Proofs.Tryz.prog .shr t x y (.int .u64 h) (.int .u64 56) = some (.int .u64 z) := ⟨_, fun t x y => binV_shr _ _ _ _ _ _ _ _ (by omega)⟩
    obtain ⟨z2, s2⟩ : ∃ z : Int, ∀ t x y, binV Go.Proofs.Tryz.prog .shl t x y (.int .u64 z1) (.int .u64 56) = some (.int .u64 z) := ⟨_, fun t x y => binV_shl _ _ _ _ _ _ _ _ (by omega)⟩
    have q4 : ∀ t x y, binV Go.Proofs.Tryz.prog .quo t x y (.int .u64 h) (.int .u64 4) = some (.int .u64 (h / 4)) := by
      intro t x y; rw [binV_quo _ _ _ _ _ _ _ (by omega), Int.tdiv_eq_ediv_of_nonneg hh.1, wrapu64 (by omega) (by omega)]
    have r56 : ∀ t x y, binV Go.Proofs.Tryz.prog .rem t x y (.int .u64 (h / 4)) (.int .u64 56) = some (.int .u64 (h / 4 % 56)) := by
      intro t x y; rw [binV_rem _ _ _ _ _ _ _ (by omega), tmod_pos (by omega)]
    obtain ⟨z3, s3⟩ : ∃ z : Int, ∀ t x y, binV Go.Proofs.Tryz.prog .shl t x y (.int .u64 1) (.int .u64 (h / 4 % 56)) = some (.int .u64 z) := ⟨_, fun t x y => binV_shl _ _ _ _ _ _ _ _ (by omega)⟩
    obtain ⟨z4, s4⟩ : ∃ z : Int, ∀ t x y, binV Go.Proofs.Tryz.prog .sub t x y (.int .u64 z3) (.int .u64 1) = some (.int .u64 z) := ⟨_, fun t x y => binV_sub _ _ _ _ _ _ _⟩
    obtain ⟨z5, s5⟩ : ∃ z : Int, ∀ t x y, binV Go.Proofs.Tryz.prog .and t x y (.int .u64 h) (.int .u64 z4) = some (.int .u64 z) := ⟨_, fun t x y => binV_and _ _ _ _ _ _ _⟩
    obtain ⟨z6, b6, s6⟩ : ∃ z : Int, (0 ≤ z ∧ z < 18446744073709551616) ∧ ∀ t x y, binV Go.Proofs.Tryz.prog .or t x y (.int .u64 z2) (.int .u64 z5) = some (.int .u64 z) := ⟨_, by rw [IntKind.wrap_u64]; omega, fun t x y => binV_or _ _ _ _ _ _ _⟩
    refine ⟨z6, b6, fun hp => ?_⟩
    rw [E75]
    simp [r3, e, s1, s2, q4, r56, s3, s4, s5, s6, -binV_sub, -binV_and, -binV_or]
  · refine ⟨h, hh, fun hp => ?_⟩
    rw [E75]
    simp [r3, e]
noncomputable def hsh (h : Int) : Int := if hh : 0 ≤ h ∧ h < 18446744073709551616 then (run_hash0 h hh).choose else 0
theorem hsh_ok {h : Int} (hh : 0 ≤ h ∧ h < 18446744073709551616) : (0 ≤ hsh h ∧ hsh h < 18446744073709551616) ∧ ∀ hp, run cxX 75 [.sc (.int .u64 h)] hp = some (.sc (.int .u64 (hsh h)), hp) := by
  unfold hsh
  rw [dif_pos hh]
  exact (run_hash0 h hh).choose_spec
noncomputable def hfold (P : Int) (a l : List Int) : List Int := l.foldl (fun a h => hadd P a (hsh h)) a
theorem hadd_len (P : Int) (l : List Int) (h : Int) : (hadd P l h).length = l.length := by
  unfold hadd; split <;> simp
theorem hfold_len (P : Int) : ∀ (l a : List Int), (hfold P a l).length = a.length
  | [], a => rfl
  | h :: l, a => by
    show (hfold P (hadd P a (hsh h)) l).length = _
    rw [hfold_len P l, hadd_len]
theorem hll_loop (P : Int) (q0 q1 : AV) (l : List Int) (k : Nat) (hP : 4 ≤ P ∧ P ≤ 8) (hl : l.length ≤ 1000000) (h64 : ∀ n ∈ l, 0 ≤ n ∧ n < 18446744073709551616) (hp : Hp) : ∀ (r : List Int) (i t : Nat) (a : List Int), l.drop i = r → a.length ≤ 1000000 →
    ∃ t', B28_3 (S k 1 (LI .u64 l)) (.int .i64 l.length) (.int .i64 i) [q0, q1] [.sc (.int .i64 P), S t 1 (LI .u8 a)] hp = some (Hv P (S t' 1 (LI .u8 (hfold P a r))), hp) := by
  intro r
  induction r with
  | nil =>
    intro i t a hr ha
    have := drop_nil hr
    have hlt : ¬((i : Int) < (l.length : Int)) := by omega
    refine ⟨t, ?_⟩
    rw [B28_3_eq]
    simp [hlt, getN, putN, hfold]
  | cons x r ih =>
    intro i t a hr ha
    obtain ⟨e1, e2, hi, e3⟩ := drop_cons hr
    have hx := h64 x (List.mem_of_getElem? e1)
    obtain ⟨hb, hs⟩ := hsh_ok hx
    have hw : IntKind.i64.wrap ((i : Int) + 1) = ((i + 1 : Nat) : Int) := by rw [wrap64] <;> omega
    obtain ⟨t1, hp1, ha1⟩ := run_hadd P a (rk t) (hsh x) hP hb ha hp0
    obtain ⟨t', h⟩ := ih (i + 1) t1 (hadd P a (hsh x)) e2 (by rw [hadd_len]; exact ha)
    refine ⟨t', ?_⟩
    rw [B28_3_eq]
    simp at h hw
    have ef : hfold P a (x :: r) = hfold P (hadd P a (hsh x)) r := rfl
    simp [hi, e3, getSc, hs, getN, putN, ha1, hw, h, ef]
theorem run_hll (p : Int) (l : List Int) (k : Nat) (hp8 : 0 ≤ p ∧ p < 256) (hl : l.length ≤ 1000000) (h64 : ∀ n ∈ l, 0 ≤ n ∧ n < 18446744073709551616) (hp : Hp) :
    ∃ t, run cxX 28 [.sc (.int .u8 p), S k 1 (LI .u64 l)] hp = some (Hv (4 + p % 5) (S t 1 (LI .u8 (hfold (4 + p % 5) (List.replicate (hpow (4 + p % 5)) 0) l))), hp) := by
  have h1 : ∀ t x y, binV Go.Proofs.Tryz.prog .rem t x y (.int .u8 p) (.int .u8 5) = some (.int .u8 (p % 5)) := by
    intro t x y; rw [binV_rem _ _ _ _ _ _ _ (by omega), tmod_pos hp8.1]
  have w1 : IntKind.i64.wrap (p % 5) = p % 5 := wrap64 (by omega) (by omega)
  have w2 : IntKind.i64.wrap (4 + p % 5) = 4 + p % 5 := wrap64 (by omega) (by omega)
  have nw := fun hp => run_hnew (4 + p % 5) (by omega) hp
  have hple := hpow_le (P := 4 + p % 5) (by omega)
  obtain ⟨t, h⟩ := hll_loop (4 + p % 5) (.sc (.int .i64 0)) (S 2 1 []) l (rk k) (by omega) hl h64 hp l 0 0 (List.replicate (hpow (4 + p % 5)) 0) rfl (by simp; omega)
  refine ⟨t, ?_⟩
  rw [E28]
  simp at h
  simp [h1, w1, w2, nw, putN, h]
end Go.Proofs.YtchmioacjkbfcaaGreat.AI
