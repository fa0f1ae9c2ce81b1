/- Floats in a row: three laws. -/
import Derived.Test.YtdmpcbealegicaaTotalB
namespace Go.Proofs.Ytdmpcbealegicaa.AI
open Go
set_option linter.unusedVariables false
set_option linter.unusedSimpArgs false

@[simp] theorem chkTup_tup (n : Nat) (l : List AV) : chkTup n (.tup l) = if l.length = n then some () else none := rfl
@[simp] theorem nthA_tup (l : List AV) (i : Nat) : nthA (.tup l) i = l.getD i (.tup []) := rfl
/-! ### TotalOf -/
theorem of_tail (k : Nat) (h : k < 18446744073709551616) (hp : Hp) : B3_6 (.int .u64 (k : Int)) hp = some (.sc (.bool true), hp) := by
  have r := fun hp => run_of k h hp
  have q := fun hp => run_key (wk k) (wk_lt k h) hp
  have d : decide ((kw (wk k) : Int) = (k : Int)) = ofOk k := by
    unfold ofOk
    apply decide_eq_decide.mpr
    omega
  have i := ofOk_iff k h
  rw [B3_6_eq]
  by_cases a1 : 4503599627370495 ≤ k
  · by_cases a2 : k ≤ 18442240474082181120
    · have t : ofOk k = true := by rw [i]; simp; omega
      rw [t] at d r
      have b1 : (4503599627370495 : Int) ≤ (k : Int) := by omega
      have b2 : (k : Int) ≤ 18442240474082181120 := by omega
      have e := of_decide_eq_true d
      simp [r, q, e, b1, b2]
    · have b1 : (4503599627370495 : Int) ≤ (k : Int) := by omega
      have b2 : ¬((k : Int) ≤ 18442240474082181120) := by omega
      by_cases a3 : k = 18444492273895866369
      · have t : ofOk k = true := by rw [i]; simp; omega
        rw [t] at d r
        have b3 : (k : Int) = 18444492273895866369 := by omega
        have e := of_decide_eq_true d
        rw [e] at q
        rw [b3] at r q b1 b2 ⊢
        simp [r, q]
      · have t : ofOk k = false := by rw [i]; simp; omega
        rw [t] at d r
        have b3 : ¬((k : Int) = 18444492273895866369) := by omega
        have e := of_decide_eq_false d
        simp [r, q, e, b1, b2, b3]
  · have b1 : ¬((4503599627370495 : Int) ≤ (k : Int)) := by omega
    have b3 : ¬((k : Int) = 18444492273895866369) := by omega
    have t : ofOk k = false := by rw [i]; simp; omega
    rw [t] at d r
    have e := of_decide_eq_false d
    simp [r, q, e, b1, b3]
theorem law_TotalOf (k : Int) (wk' : InK .u64 k) (n : Int) (wn : InK .u8 n) (top : Bool) (hp : Hp) : ∃ hp', run cxX 3 [.sc (.int .u64 k), .sc (.int .u8 n), .sc (.bool top)] hp = some (.sc (.bool true), hp') := by
  refine ⟨hp, ?_⟩
  have hk := wk'.u64
  have hn := wn.u8
  rw [E3]
  cases top with
  | false =>
    have t := fun hp => of_tail k.toNat (by omega) hp
    have e : ((k.toNat : Nat) : Int) = k := by omega
    rw [e] at t
    simp [run_tawake, t]
  | true =>
    have w1 : IntKind.u64.wrap n = n := wrapu64 (by omega) (by omega)
    have m : ∀ x y, binV Go.Proofs.Try.prog .rem 22 x y (.int .u64 n) (.int .u64 5) = some (.int .u64 (n % 5)) := by
      intro x y; rw [binV_rem _ _ _ _ _ _ _ (by omega), tmod_pos hn.1]
    have w2 : IntKind.u64.wrap (18442240474082181120 + n % 5) = 18442240474082181120 + n % 5 := wrapu64 (by omega) (by omega)
    have t := fun hp => of_tail (18442240474082181120 + n % 5).toNat (by omega) hp
    have e : (((18442240474082181120 + n % 5).toNat : Nat) : Int) = 18442240474082181120 + n % 5 := by omega
    rw [e] at t
    simp [run_tawake, cv_5_22, w1, m, w2, t]
/-! ### TotalKeys -/
theorem keys_tail (a b : Nat) (ha : a < 18446744073709551616) (hb : b < 18446744073709551616) (hp : Hp) : B4_7 (.float .f64 a) (.float .f64 b) hp = some (.sc (.bool true), hp) := by
  have r1 := fun hp => run_rless a b ha hb hp
  have r2 := fun hp => run_rless b a hb ha hp
  have l1 := fun hp => run_less a b ha hb hp
  have l2 := fun hp => run_less b a hb ha hp
  have s := fun hp => run_fsame a b ha hb hp
  have k1 := fun hp => run_key a ha hp
  have k2 := fun hp => run_key b hb hp
  rw [B4_7_eq]
  rcases Nat.lt_trichotomy (kw a) (kw b) with h | h | h
  · have h1 : ¬(kw b < kw a) := by omega
    have h2 : ¬(kw a = kw b) := by omega
    simp only [h, h1, h2, decide_true, decide_false] at r1 r2 l1 l2 s
    simp [r1, r2, l1, l2, s, k1, k2, h]
  · have h1 : ¬(kw b < kw a) := by omega
    have h2 : ¬(kw a < kw b) := by omega
    simp only [h2, h1, h, decide_true, decide_false] at r1 r2 l1 l2 s
    simp [r1, r2, l1, l2, s, k1, k2, h]
  · have h1 : ¬(kw a < kw b) := by omega
    have h2 : ¬(kw a = kw b) := by omega
    simp only [h, h1, h2, decide_true, decide_false] at r1 r2 l1 l2 s
    simp [r1, r2, l1, l2, s, k1, k2, h1]
theorem law_TotalKeys (n : Int) (wn : InK .u64 n) (m : Int) (wm : InK .u64 m) (e : Int) (we : InK .u8 e) (f : Int) (wf : InK .u8 f) (hp : Hp) :
    ∃ hp', run cxX 4 [.sc (.int .u64 n), .sc (.int .u64 m), .sc (.int .u8 e), .sc (.int .u8 f)] hp = some (.sc (.bool true), hp') := by
  refine ⟨hp, ?_⟩
  obtain ⟨a, ha, ra⟩ := run_float n e wn.u64 we.u8
  obtain ⟨b, hb, rb⟩ := run_float m f wm.u64 wf.u8
  have k1 := fun hp => run_key a ha hp
  have k2 := fun hp => run_rkey a ha hp
  have o := fun hp => run_of (kw a) (kw_lt a ha) hp
  have ok : ofOk (kw a) = true := by unfold ofOk; rw [kw_wk_kw a ha]; simp
  rw [ok] at o
  have k3 := fun hp => run_key (wk (kw a)) (wk_lt _ (kw_lt a ha)) hp
  rw [kw_wk_kw a ha] at k3
  have t := fun hp => keys_tail a b ha hb hp
  rw [E4]
  by_cases hn : isN a
  · have hx := isN_wk_kw hn
    generalize wk (kw a) = x at o k3 hx
    simp [run_tawake, ra, rb, k1, k2, o, k3, fEq_self, hn, hx, t]
  · have hx := wk_kw ha hn
    rw [hx] at o k3
    simp [run_tawake, ra, rb, k1, k2, o, k3, fEq_self, hn, x_bits, t]
/-! ### TotalBest -/
theorem kw_fmin (a b : Nat) : kw (fmin a b) = min (kw a) (kw b) := by unfold fmin; split <;> omega
theorem kw_fmax (a b : Nat) : kw (fmax a b) = max (kw a) (kw b) := by unfold fmax; split <;> omega
theorem bne_bb (x y : Operand) (a b : Bool) : binV Go.Proofs.Try.prog .neq 4 x y (.bool a) (.bool b) = some (.bool (!decide (a = b))) := by
  cases a <;> cases b <;> kernel_rfl
set_option maxHeartbeats 0 in
theorem law_TotalBest (n : Int) (wn : InK .u64 n) (m : Int) (wm : InK .u64 m) (o : Int) (wo : InK .u64 o) (e : Int) (we : InK .u8 e) (f : Int) (wf : InK .u8 f) (g : Int) (wg : InK .u8 g) (hp : Hp) :
    ∃ hp', run cxX 5 [.sc (.int .u64 n), .sc (.int .u64 m), .sc (.int .u64 o), .sc (.int .u8 e), .sc (.int .u8 f), .sc (.int .u8 g)] hp = some (.sc (.bool true), hp') := by
  refine ⟨hp, ?_⟩
  obtain ⟨a, ha, ra⟩ := run_float n e wn.u64 we.u8
  obtain ⟨b, hb, rb⟩ := run_float m f wm.u64 wf.u8
  obtain ⟨c, hc, rc⟩ := run_float o g wo.u64 wg.u8
  have r1 := fun hp => run_fmin a b ha hb hp
  have r2 := fun hp => run_fmax a b ha hb hp
  have r3 := fun hp => run_fmin b a hb ha hp
  have r4 := fun hp => run_fmax b a hb ha hp
  have k1 := kw_fmin a b
  have k2 := kw_fmax a b
  have k3 := kw_fmin b a
  have k4 := kw_fmax b a
  have l1 := fmin_lt ha hb
  have l2 := fmax_lt ha hb
  have l3 := fmin_lt hb ha
  have l4 := fmax_lt hb ha
  generalize fmin a b = L at r1 k1 l1
  generalize fmax a b = U at r2 k2 l2
  generalize fmin b a = L' at r3 k3 l3
  generalize fmax b a = U' at r4 k4 l4
  have r5 := fun hp => run_fmin L c l1 hc hp
  have r6 := fun hp => run_fmin b c hb hc hp
  have r7 := fun hp => run_fmax U c l2 hc hp
  have r8 := fun hp => run_fmax b c hb hc hp
  have k5 := kw_fmin L c
  have k6 := kw_fmin b c
  have k7 := kw_fmax U c
  have k8 := kw_fmax b c
  have l5 := fmin_lt l1 hc
  have l6 := fmin_lt hb hc
  have l7 := fmax_lt l2 hc
  have l8 := fmax_lt hb hc
  generalize fmin L c = M1 at r5 k5 l5
  generalize fmin b c = M2 at r6 k6 l6
  generalize fmax U c = N1 at r7 k7 l7
  generalize fmax b c = N2 at r8 k8 l8
  have r9 := fun hp => run_fmin a M2 ha l6 hp
  have r10 := fun hp => run_fmax a N2 ha l8 hp
  have k9 := kw_fmin a M2
  have k10 := kw_fmax a N2
  have l9 := fmin_lt ha l6
  have l10 := fmax_lt ha l8
  generalize fmin a M2 = M3 at r9 k9 l9
  generalize fmax a N2 = N3 at r10 k10 l10
  have s1 := fun hp => run_fsame L L' l1 l3 hp
  have s2 := fun hp => run_fsame U U' l2 l4 hp
  have s3 := fun hp => run_less U L l2 l1 hp
  have s4 := fun hp => run_fsame L a l1 ha hp
  have s5 := fun hp => run_fsame L b l1 hb hp
  have s6 := fun hp => run_fsame M1 M3 l5 l9 hp
  have s7 := fun hp => run_fsame N1 N3 l7 l10 hp
  have s8 := fun hp => run_fsame a a ha ha hp
  have s9 := fun hp => run_fsame a b ha hb hp
  have s10 := fun hp => run_less a b ha hb hp
  have s11 := fun hp => run_less b a hb ha hp
  have e1 : (kw L = kw L') = True := eq_true (by omega)
  have e2 : (kw U = kw U') = True := eq_true (by omega)
  have e3 : (kw U < kw L) = False := eq_false (by omega)
  have e6 : (kw M1 = kw M3) = True := eq_true (by omega)
  have e7 : (kw N1 = kw N3) = True := eq_true (by omega)
  rw [E5]
  simp only [e1, e2, e3, e6, e7, decide_true, decide_false] at s1 s2 s3 s6 s7 s8
  rcases Nat.lt_trichotomy (kw a) (kw b) with h | h | h
  · have e4 : (kw L = kw a) = True := eq_true (by omega)
    have e9 : (kw a = kw b) = False := eq_false (by omega)
    have e10 : (kw a < kw b) = True := eq_true h
    have e11 : (kw b < kw a) = False := eq_false (by omega)
    simp only [e4, e9, e10, e11, decide_true, decide_false] at s4 s9 s10 s11
    simp [run_tawake, ra, rb, rc, r1, r2, r3, r4, r5, r6, r7, r8, r9, r10, s1, s2, s3, s4, s6, s7, s8, s9, s10, s11, bne_bb]
  · have e4 : (kw L = kw a) = True := eq_true (by omega)
    have e9 : (kw a = kw b) = True := eq_true h
    simp only [e4, e9, decide_true, decide_false] at s4 s9
    simp [run_tawake, ra, rb, rc, r1, r2, r3, r4, r5, r6, r7, r8, r9, r10, s1, s2, s3, s4, s6, s7, s8, s9]
  · have e4 : (kw L = kw a) = False := eq_false (by omega)
    have e5 : (kw L = kw b) = True := eq_true (by omega)
    have e9 : (kw a = kw b) = False := eq_false (by omega)
    have e10 : (kw a < kw b) = False := eq_false (by omega)
    have e11 : (kw b < kw a) = True := eq_true h
    simp only [e4, e5, e9, e10, e11, decide_true, decide_false] at s4 s5 s9 s10 s11
    simp [run_tawake, ra, rb, rc, r1, r2, r3, r4, r5, r6, r7, r8, r9, r10, s1, s2, s3, s4, s5, s6, s7, s8, s9, s10, s11, bne_bb]
end Go.Proofs.Ytdmpcbealegicaa.AI
