/- Gauges: a fixed fact; the law of two as one. -/
import Derived.Test.YtdmpcbealegicaaGaugeD
namespace Go.Proofs.Ytdmpcbealegicaa.AI
open Go
set_option linter.unusedVariables false
set_option linter.unusedSimpArgs false

theorem g3_eq : gmg 3 (gmg 3 (gmg 3 gnew (gone 0)) (gone 9223372036854775808)) (gone 9221120237041090561) = ⟨3, 0, 1, 0, 0, 1, 1, 9223372036854775808, 0, [9223372036854775808, 0, 9221120237041090561]⟩ := by
  have n0 : ¬isN 0 := by decide
  have n1 : ¬isN 9223372036854775808 := by decide
  have n2 : isN 9221120237041090561 := by decide
  have k0 : kw 0 = 9223372036854775808 := by decide
  have k1 : kw 9223372036854775808 = 9223372036854775807 := by decide
  have k2 : kw 9221120237041090561 = 18444492273895866369 := by decide
  have kp : kw 9218868437227405312 = 18442240474082181120 := by decide
  have km : kw 18442240474082181120 = 4503599627370495 := by decide
  have w0 : wk 9223372036854775808 = 0 := by decide
  have w1 : wk 9223372036854775807 = 9223372036854775808 := by decide
  have w2 : wk 18444492273895866369 = 9221120237041090561 := by decide
  have e0 : edge 0 = 5 := by decide
  have e1 : edge 9223372036854775808 = 4 := by decide
  have e2 : edge 9221120237041090561 = 1 := by decide
  have t3 : (3 : Int).toNat = 3 := rfl
  simp [gmg, gone, gnew, plus, n0, n1, n2, k0, k1, k2, kp, km, w0, w1, w2, e0, e1, e2, fmin, fmax, gm_cons, t3]
theorem run_gawake (hp : Hp) : run cxX 27 [] hp = some (.sc (.bool true), hp) := by
  have nw := fun hp => run_gnew 3 (by decide) hp
  have o1 := gnew_ok 3
  have w1 : (0 : Nat) < 18446744073709551616 := by decide
  have w2 : (9223372036854775808 : Nat) < 18446744073709551616 := by decide
  have w3 : (9221120237041090561 : Nat) < 18446744073709551616 := by decide
  have o2 := o1.merge (gone_ok (by decide) w1) (by simp)
  have o3 := o2.merge (gone_ok (by decide) w2) (by simp)
  have a1 := fun k hp => run_gadd 3 k 0 (by decide) o1 (by simp) w1 hp
  have a2 := fun k hp => run_gadd 3 k 9223372036854775808 (by decide) o2 (by simp) w2 hp
  have a3 := fun k hp => run_gadd 3 k 9221120237041090561 (by decide) o3 (by simp) w3 hp
  rw [g3_eq] at a3
  have c := run_cs0_neg
  have nn := run_nan
  have s1 := fun hp => run_signbit 9223372036854775808 (by decide) hp
  have s2 := fun hp => run_signbit 0 (by decide) hp
  have n2 : isN 9221120237041090561 := by decide
  simp at s1 s2
  generalize gmg 3 (gmg 3 gnew (gone 0)) (gone 9223372036854775808) = G2 at a2 a3
  generalize gmg 3 gnew (gone 0) = G1 at a1 a2
  rw [E27]
  simp [nw, putN, getN, a1, a2, a3, c, nn, getSc, getC, s1, s2, fEq_self, n2]
/-! ### GaugeMerges -/
theorem GR.same {K : Int} {F H : List Nat} {g o : Gs} (hg : GR K F g) (ho : GR K H o) (h : F.Perm H) : GSame K K g o := by
  refine ⟨rfl, ?_, ⟨?_, ?_, ?_, ?_, ?_, ?_⟩, ?_, ?_, ?_⟩
  · rw [hg.M, ho.M, h.length_eq]
  · rw [hg.e0, ho.e0, cnt_perm 0 h]
  · rw [hg.e1, ho.e1, cnt_perm 1 h]
  · rw [hg.e2, ho.e2, cnt_perm 2 h]
  · rw [hg.e3, ho.e3, cnt_perm 3 h]
  · rw [hg.e4, ho.e4, cnt_perm 4 h]
  · rw [hg.e5, ho.e5, cnt_perm 5 h]
  · rw [hg.klo, ho.klo, lowK_perm h]
  · rw [hg.khi, ho.khi, highK_perm h]
  · rw [hg.keys, ho.keys, sk_of_perm (h.map kw)]
theorem run_gsame_perm {K : Int} {F H : List Nat} {g o : Gs} (k k' : Nat) (hg : GR K F g) (ho : GR K H o) (h : F.Perm H) (hl : F.length ≤ 1000) (hp : Hp) : run cxX 31 [g.av K k, o.av K k'] hp = some (.sc (.bool true), hp) := by
  have := hg.len
  exact run_gsame K K g o k k' (hg.same ho h) ⟨hg.lo, ho.lo⟩ ⟨hg.hi, ho.hi⟩ ⟨hg.ws, ho.ws⟩ (by omega) hp
theorem ws_wd {l : List (Int × Int)} (h : ∀ p ∈ l, InI p) : Ws (l.map wd) := by
  intro w hw
  obtain ⟨p, hp, rfl⟩ := List.mem_map.mp hw
  exact (wd_ok (h p hp)).1
theorem run_gmerges (c : Int) (k k' : Nat) (a b : List (Int × Int)) (hc : 0 ≤ c ∧ c < 256) (ha : ∀ p ∈ a, InI p) (hb : ∀ p ∈ b, InI p) (hp : Hp) :
    run cxX 9 [.sc (.int .u8 c), S k 2 (LP a), S k' 2 (LP b)] hp = some (.sc (.bool true), hp) := by
  rw [E9]
  by_cases h1 : (40 : Int) < (a.length : Int)
  · simp [run_gawake, lenA_P, h1, B9_4_eq]
  · by_cases h2 : (40 : Int) < (b.length : Int)
    · simp [run_gawake, lenA_P, h1, h2, B9_4_eq]
    · have hab : ∀ p ∈ a ++ b, InI p := fun p hp => (List.mem_append.mp hp).elim (ha p) (hb p)
      have r1 := fun k hp => run_gauge c k a hc (by omega) ha hp
      have r2 := fun k hp => run_gauge c k b hc (by omega) hb hp
      have r3 := fun k hp => run_gauge c k (a ++ b) hc (by simp; omega) hab hp
      have hK : 1 ≤ 1 + c % 16 := by omega
      generalize 1 + c % 16 = K at r1 r2 r3 hK
      have g1 := gfold_ok hK (gnew_ok K) (ws_wd ha) (by simp; omega)
      have g2 := gfold_ok hK (gnew_ok K) (ws_wd hb) (by simp; omega)
      have g3 := gfold_ok hK (gnew_ok K) (ws_wd hab) (by simp; omega)
      generalize gfold K gnew (a.map wd) = X at r1 g1
      generalize gfold K gnew (b.map wd) = Y at r2 g2
      generalize gfold K gnew ((a ++ b).map wd) = Z at r3 g3
      rw [List.nil_append] at g1 g2 g3
      have m1 := fun k k' hp => run_gm K K k k' g1 g2 (by simp; omega) hp
      have m2 := fun k k' hp => run_gm K K k k' g2 g1 (by simp; omega) hp
      have q1 := g1.merge g2 (by simp; omega)
      have q2 := g2.merge g1 (by simp; omega)
      generalize gmg K X Y = U at m1 q1
      generalize gmg K Y X = V at m2 q2
      have s1 := fun k k' hp => run_gsame_perm k k' q1 g3 (by rw [List.map_append]) (by simp; omega) hp
      have s2 := fun k k' hp => run_gsame_perm k k' q2 g3 (by rw [List.map_append]; exact List.perm_append_comm) (by simp; omega) hp
      have a1 : appA 16 2 (S 1 2 []) (S (rk k) 2 (LP a)) = some (S 1 2 (LP a)) := by
        rw [appA_S 16 2 1 _ _ _ (.inl rfl) (flatP a) (.inr (fits_ok (by omega) (by rw [lenP]; simp; omega)))]
        rfl
      have a2 : appA 16 2 (S 1 2 (LP a)) (S (rk k') 2 (LP b)) = some (S 1 2 (LP (a ++ b))) := by
        rw [appA_S 16 2 1 _ _ _ (.inl rfl) (flatP b) (.inr (fits_ok (by omega) (by rw [lenP, lenP]; omega))), appP]
      simp [run_gawake, lenA_P, h1, h2, B9_5_eq, r1, r2, r3, putN, getN, a1, a2, m1, m2, s1, s2]
theorem law_GaugeMerges (c : Int) (wc : InK .u8 c) (k : Nat) (a : List (Int × Int)) (wa : ∀ p ∈ a, InI p) (k' : Nat) (b : List (Int × Int)) (wb : ∀ p ∈ b, InI p) (hp : Hp) :
    ∃ hp', run cxX 9 [.sc (.int .u8 c), S k 2 (LP a), S k' 2 (LP b)] hp = some (.sc (.bool true), hp') :=
  ⟨hp, run_gmerges c k k' a b wc.u8 wa wb hp⟩
end Go.Proofs.Ytdmpcbealegicaa.AI
