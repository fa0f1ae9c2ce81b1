/- Floats in a row: which edge a float is; the law of turned floats. -/
import Derived.Test.YtdmpcbealegicaaTotalC
namespace Go.Proofs.Ytdmpcbealegicaa.AI
open Go
set_option linter.unusedVariables false
set_option linter.unusedSimpArgs false

/-! ### a float turned -/
theorem nw_lt {w : Nat} (h : w < 18446744073709551616) : nw w < 18446744073709551616 := by unfold nw; split <;> omega
theorem isN_nw {w : Nat} (h : w < 18446744073709551616) : isN (nw w) ↔ isN w := by
  unfold isN nw
  split <;> omega
theorem kw_nw {w : Nat} (h : w < 18446744073709551616) (hn : ¬isN w) : kw (nw w) = 18446744073709551615 - kw w := by
  have hn' : ¬isN (nw w) := fun e => hn ((isN_nw h).mp e)
  unfold kw
  rw [if_neg hn, if_neg hn']
  unfold nw
  repeat' split
  all_goals omega
theorem kw_num_lt {w : Nat} (h : w < 18446744073709551616) (hn : ¬isN w) : kw w < 18444492273895866369 := by
  unfold kw
  rw [if_neg hn]
  unfold isN at hn
  split <;> omega
theorem kw_nan {w : Nat} (hn : isN w) : kw w = 18444492273895866369 := by
  unfold kw
  rw [if_pos hn]
/-! ### which edge -/
theorem run_isinf_m (w : Nat) (h : w < 18446744073709551616) (hn : ¬isN w) (hp : Hp) : run cxX 43 [fl w, .sc (.int .i64 (-1))] hp = some (.sc (.bool (decide (w = 18442240474082181120))), hp) := by
  have e := unV_fneg Go.Proofs.Try.prog w h
  have c : fLess 9218868437227405311 (nw w) = decide (w = 18442240474082181120) := by
    unfold fLess
    have v1 : fval 9218868437227405311 = 9218868437227405311 := by decide
    rw [v1]
    have hn' : ¬isN (nw w) := fun e => hn ((isN_nw h).mp e)
    have hn2 := hn
    unfold isN at hn2
    apply decide_eq_decide.mpr
    constructor
    · rintro ⟨_, _, h3⟩
      unfold fval nw at h3
      repeat' split at h3
      all_goals omega
    · intro h3
      subst h3
      exact ⟨by decide, by decide, by decide⟩
  rw [E43]
  simp [e, B43_5_eq, c]
theorem run_isinf_p (w : Nat) (h : w < 18446744073709551616) (hn : ¬isN w) (hp : Hp) : run cxX 43 [fl w, .sc (.int .i64 1)] hp = some (.sc (.bool (decide (w = 9218868437227405312))), hp) := by
  have c : fLess 9218868437227405311 w = decide (w = 9218868437227405312) := by
    unfold fLess
    have v1 : fval 9218868437227405311 = 9218868437227405311 := by decide
    rw [v1]
    have hn2 := hn
    unfold isN at hn2
    apply decide_eq_decide.mpr
    constructor
    · rintro ⟨_, _, h3⟩
      unfold fval at h3
      split at h3 <;> omega
    · intro h3
      subst h3
      exact ⟨by decide, by decide, by decide⟩
  rw [E43]
  simp [B43_5_eq, c]
theorem run_signbit (w : Nat) (h : w < 18446744073709551616) (hp : Hp) : run cxX 44 [fl w] hp = some (.sc (.bool (decide (9223372036854775808 ≤ w))), hp) := by
  have c : decide (IntKind.i64.wrap (w : Int) < 0) = decide (9223372036854775808 ≤ w) := by
    apply decide_eq_decide.mpr
    rw [IntKind.wrap_i64]
    omega
  rw [E44]
  simp [x_bits, cv_22_2]
  rw [IntKind.wrap_i64]
  omega
/-- Which edge a float is. -/
def edge (w : Nat) : Int := if isN w then 1 else if w = 18442240474082181120 then 2 else if w = 9218868437227405312 then 3 else if w = 9223372036854775808 then 4 else if w = 0 then 5 else 0
theorem fEq_zero {w : Nat} (h : w < 18446744073709551616) (hn : ¬isN w) : fEq w 0 = decide (w = 0 ∨ w = 9223372036854775808) := by
  unfold fEq
  have v3 : fval 0 = 0 := by decide
  rw [v3]
  apply decide_eq_decide.mpr
  constructor
  · rintro ⟨_, _, h3⟩
    unfold fval at h3
    split at h3 <;> omega
  · intro h3
    rcases h3 with rfl | rfl
    · exact ⟨by decide, by decide, by decide⟩
    · exact ⟨by decide, by decide, by decide⟩
theorem run_edge (w : Nat) (h : w < 18446744073709551616) (hp : Hp) : run cxX 24 [fl w] hp = some (.sc (.int .u8 (edge w)), hp) := by
  rw [E24]
  unfold edge
  by_cases hn : isN w
  · simp [fEq_self, hn]
  · have i1 := fun hp => run_isinf_m w h hn hp
    have i2 := fun hp => run_isinf_p w h hn hp
    have z := fEq_zero h hn
    have s := fun hp => run_signbit w h hp
    have b9 : ∀ hp, B24_9 (.float .f64 w) hp = some (.sc (.int .u8 (if w = 0 ∨ w = 9223372036854775808 then 5 else 0)), hp) := by
      intro hp
      rw [B24_9_eq]
      by_cases h0 : w = 0 ∨ w = 9223372036854775808 <;> simp [z, h0]
    by_cases h1 : w = 18442240474082181120
    · subst h1
      simp at i1
      simp [fEq_self, hn, i1]
    · by_cases h2 : w = 9218868437227405312
      · subst h2
        simp at i1 i2
        simp [fEq_self, hn, i1, i2]
      · simp only [h1, h2, decide_false] at i1 i2
        by_cases h3 : w = 9223372036854775808
        · subst h3
          simp at s z
          simp [fEq_self, hn, i1, i2, z, s, B24_8_eq]
        · by_cases h4 : w = 0
          · subst h4
            simp at s z b9
            simp [fEq_self, hn, i1, i2, z, s, b9]
          · simp [h3, h4] at z b9
            simp [fEq_self, hn, i1, i2, z, b9, h1, h2, h3, h4]
/-! ### TotalSigns -/
theorem law_TotalSigns (n : Int) (wn : InK .u64 n) (m : Int) (wm : InK .u64 m) (e : Int) (we : InK .u8 e) (f : Int) (wf : InK .u8 f) (hp : Hp) :
    ∃ hp', run cxX 6 [.sc (.int .u64 n), .sc (.int .u64 m), .sc (.int .u8 e), .sc (.int .u8 f)] hp = some (.sc (.bool true), hp') := by
  refine ⟨hp, ?_⟩
  obtain ⟨a, ha, ra⟩ := run_float n e wn.u64 we.u8
  obtain ⟨b, hb, rb⟩ := run_float m f wm.u64 wf.u8
  have l1 := fun hp => run_less a b ha hb hp
  have t5 : isN a ∨ isN b → ∀ hp, B6_5 (.float .f64 a) (.float .f64 b) hp = some (.sc (.bool true), hp) := by
    intro hab hp
    rw [B6_5_eq]
    by_cases hn : isN a
    · have hk := kw_nan hn
      have hx : (kw a < kw b) = False := by
        apply eq_false
        rw [hk]
        by_cases hm : isN b
        · rw [kw_nan hm]; omega
        · have := kw_num_lt hb hm; omega
      simp only [hx, decide_false] at l1
      simp [l1, fEq_self, hn]
    · have hm : isN b := hab.resolve_left hn
      have hx : (kw a < kw b) = True := by
        apply eq_true
        rw [kw_nan hm]
        exact kw_num_lt ha hn
      simp only [hx, decide_true] at l1
      simp [l1, fEq_self, hn, hm]
  rw [E6]
  by_cases hn : isN a
  · simp [run_tawake, ra, rb, fEq_self, hn, t5 (.inl hn)]
  · by_cases hm : isN b
    · simp [run_tawake, ra, rb, fEq_self, hn, hm, t5 (.inr hm)]
    · have u1 := unV_fneg Go.Proofs.Try.prog a ha
      have u2 := unV_fneg Go.Proofs.Try.prog b hb
      have q1 := kw_nw ha hn
      have q2 := kw_nw hb hm
      have p1 := kw_num_lt ha hn
      have p2 := kw_num_lt hb hm
      have la := nw_lt ha
      have lb := nw_lt hb
      have na : ¬isN (nw a) := fun e => hn ((isN_nw ha).mp e)
      have nb : ¬isN (nw b) := fun e => hm ((isN_nw hb).mp e)
      have k1 := fun hp => run_key a ha hp
      have k2 := fun hp => run_key (nw a) la hp
      have l2 := fun hp => run_less (nw b) (nw a) lb la hp
      have r1 := fun hp => run_fmin a b ha hb hp
      have r2 := fun hp => run_fmax (nw a) (nw b) la lb hp
      have lm := fmin_lt ha hb
      have lx := fmax_lt la lb
      have u3 := unV_fneg Go.Proofs.Try.prog (fmax (nw a) (nw b)) lx
      have nx : ¬isN (fmax (nw a) (nw b)) := by unfold fmax; split <;> assumption
      have q3 := kw_nw lx nx
      have q4 := kw_fmin a b
      have q5 := kw_fmax (nw a) (nw b)
      have l3 := nw_lt lx
      have s := fun hp => run_fsame (fmin a b) (nw (fmax (nw a) (nw b))) lm l3 hp
      have es : (kw (fmin a b) = kw (nw (fmax (nw a) (nw b)))) = True := eq_true (by omega)
      simp only [es, decide_true] at s
      have el : decide (kw (nw b) < kw (nw a)) = decide (kw a < kw b) := decide_eq_decide.mpr (by omega)
      rw [el] at l2
      have hw : IntKind.u64.wrap ((kw a : Int) + (kw (nw a) : Int)) = 18446744073709551615 := by rw [wrapu64] <;> omega
      have ed := fun hp => run_edge a ha hp
      have z := fEq_zero ha hn
      have t6 : ∀ hp, B6_6 (.float .f64 a) (.float .f64 b) hp = some (.sc (.bool true), hp) := by
        intro hp
        rw [B6_6_eq]
        by_cases h0 : a = 0 ∨ a = 9223372036854775808
        · have z' : fEq a 0 = true := by rw [z]; exact decide_eq_true h0
          simp [k1, u1, k2, hw, l1, u2, l2, r1, r2, u3, s, z']
        · have z' : fEq a 0 = false := by rw [z]; exact decide_eq_false h0
          have ee : edge a ≠ 5 ∧ edge a ≠ 4 := by
            unfold edge
            rw [if_neg hn]
            repeat' split
            all_goals omega
          have e5 := ee.1
          have e4 := ee.2
          simp [k1, u1, k2, hw, l1, u2, l2, r1, r2, u3, s, z', ed, e5, e4]
      simp [run_tawake, ra, rb, fEq_self, hn, hm, t6]
end Go.Proofs.Ytdmpcbealegicaa.AI
