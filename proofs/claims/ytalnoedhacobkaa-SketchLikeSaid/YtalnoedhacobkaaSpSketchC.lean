/- Sketches that may be: what holds of both as one. No program in sight. -/
import Derived.Test.YtalnoedhacobkaaSpSketchB
namespace Go.Proofs.Ytalnoedhacobkaa.AI
open Go
set_option linter.unusedVariables false
set_option linter.unusedSimpArgs false
set_option maxRecDepth 100000

/-- A sketch that may be. -/
structure Fine (x : SkN) : Prop where
  w : x.W
  c : checkN x = 0
  pos : x.g.Pos
theorem gz_pos : gz.nf.Pos := gz_W.pos
theorem Fine.W2 {x : SkN} (h : Fine x) : x.W2 := by
  obtain ⟨kd, on, sp⟩ := checkN_ok.mp h.c
  have w := h.w
  refine ⟨w, ?_, ?_, ?_, ?_⟩
  · rw [on]; unfold onlyN
    by_cases k0 : x.kind = 0
    · rw [if_pos k0] at sp ⊢
      have := (schk_ok.mp sp).1
      show x.set.length ≤ _; omega
    · rw [if_neg k0]
      repeat' split
      all_goals exact Nat.zero_le _
  · rw [on]; unfold onlyN
    by_cases k0 : x.kind = 0
    · rw [if_pos k0]; exact Nat.zero_le _
    · rw [if_neg k0] at sp ⊢
      by_cases k1 : x.kind = 1
      · rw [if_pos k1] at sp ⊢
        have := kchk_ok.mp sp
        show x.hs.length ≤ _; omega
      · rw [if_neg k1]
        repeat' split
        all_goals exact Nat.zero_le _
  · rw [on]; unfold onlyN
    by_cases k3 : x.kind = 3
    · have n0 : ¬(x.kind = 0) := by omega
      have n1 : ¬(x.kind = 1) := by omega
      have n2 : ¬(x.kind = 2) := by omega
      rw [if_neg n0, if_neg n1, if_neg n2, if_pos k3] at sp ⊢
      obtain ⟨hB, hH, hg⟩ := good_chk sp w.bs
      have := hg.len hB.2
      show x.bs.length ≤ _; omega
    · repeat' split
      all_goals first | exact Nat.zero_le _ | (exfalso; omega)
  · intro k5
    have n0 : ¬(x.kind = 0) := by omega
    have n1 : ¬(x.kind = 1) := by omega
    have n2 : ¬(x.kind = 2) := by omega
    have n3 : ¬(x.kind = 3) := by omega
    have n4 : ¬(x.kind = 4) := by omega
    rw [if_neg n0, if_neg n1, if_neg n2, if_neg n3, if_neg n4] at sp
    have := gchk_ok.mp sp
    omega
/-! ### registers, counts -/
theorem hmax_comm : ∀ {a b : List Int}, a.length = b.length → hmax a b = hmax b a
  | [], [], _ => rfl
  | x :: a, y :: b, h => by
    have ih := hmax_comm (a := a) (b := b) (by simpa using h)
    show max x y :: hmax a b = max y x :: hmax b a
    rw [ih, Int.max_comm]
theorem hmax_assoc : ∀ {a b c : List Int}, a.length = b.length → b.length = c.length → hmax (hmax a b) c = hmax a (hmax b c)
  | [], [], [], _, _ => rfl
  | x :: a, y :: b, z :: c, h, h' => by
    have ih := hmax_assoc (a := a) (b := b) (c := c) (by simpa using h) (by simpa using h')
    show max (max x y) z :: hmax (hmax a b) c = max x (max y z) :: hmax a (hmax b c)
    rw [ih, Int.max_assoc]
theorem hmax_self : ∀ {a : List Int}, hmax a a = a
  | [] => rfl
  | x :: a => by
    show max x x :: hmax a a = x :: a
    rw [hmax_self, Int.max_self]
theorem hmax_zero : ∀ {a : List Int}, (∀ n ∈ a, 0 ≤ n) → hmax a (List.replicate a.length 0) = a
  | [], _ => rfl
  | x :: a, h => by
    have ih := hmax_zero (a := a) (fun n hn => h n (by simp [hn]))
    have hx := h x (by simp)
    show max x 0 :: hmax a (List.replicate a.length 0) = x :: a
    rw [ih]
    congr 1
    omega
theorem hmax_le {m : Int} : ∀ {a b : List Int}, (∀ n ∈ a, n ≤ m) → (∀ n ∈ b, n ≤ m) → ∀ n ∈ hmax a b, n ≤ m
  | [], _, _, _ => by simp [hmax]
  | x :: a, [], ha, _ => by simpa [hmax] using ha
  | x :: a, y :: b, ha, hb => by
    have ih := hmax_le (a := a) (b := b) (fun n hn => ha n (by simp [hn])) (fun n hn => hb n (by simp [hn]))
    intro n hn
    rcases List.mem_cons.mp hn with rfl | hn
    · have h1 := ha x (by simp); have h2 := hb y (by simp); omega
    · exact ih n hn
theorem cmrg_comm : ∀ {a b : List Int}, a.length = b.length → cmrg a b = cmrg b a
  | [], [], _ => rfl
  | x :: a, y :: b, h => by
    have ih := cmrg_comm (a := a) (b := b) (by simpa using h)
    show plus x y :: cmrg a b = plus y x :: cmrg b a
    rw [ih, plus_comm']
theorem cmrg_assoc : ∀ {a b c : List Int}, a.length = b.length → b.length = c.length → U32 a → U32 b → U32 c → cmrg (cmrg a b) c = cmrg a (cmrg b c)
  | [], [], [], _, _, _, _, _ => rfl
  | x :: a, y :: b, z :: c, h, h', ha, hb, hc => by
    have ih := cmrg_assoc (a := a) (b := b) (c := c) (by simpa using h) (by simpa using h') (fun n hn => ha n (by simp [hn])) (fun n hn => hb n (by simp [hn])) (fun n hn => hc n (by simp [hn]))
    show plus (plus x y) z :: cmrg (cmrg a b) c = plus x (plus y z) :: cmrg a (cmrg b c)
    rw [ih, plus_assoc' (ha x (by simp)).1 (hb y (by simp)).1 (hc z (by simp)).1]
theorem cmrg_zero : ∀ {a : List Int}, U32 a → cmrg a (List.replicate a.length 0) = a
  | [], _ => rfl
  | x :: a, h => by
    have ih := cmrg_zero (a := a) (fun n hn => h n (by simp [hn]))
    show plus x 0 :: cmrg a (List.replicate a.length 0) = x :: a
    rw [ih, plus_zero (h x (by simp))]
/-! ### both as one -/
theorem like_kind {x y : SkN} (h : likeN x y = true) : x.kind = y.kind := by
  unfold likeN at h
  simp only [Bool.and_eq_true, decide_eq_true_eq] at h
  exact h.1
theorem like_sz {x y : SkN} (h : likeN x y = true) : (x.kind = 1 → x.K = y.K) ∧ (x.kind = 2 → x.P = y.P) ∧ (x.kind = 3 → x.B = y.B ∧ x.H = y.H) ∧ (x.kind = 4 → x.R = y.R ∧ x.C = y.C) ∧ (x.kind = 5 → x.gK = y.gK) := by
  unfold likeN at h
  refine ⟨fun k => ?_, fun k => ?_, fun k => ?_, fun k => ?_, fun k => ?_⟩ <;> simpa [k] using And.right (by simpa [k] using h)
theorem like_of {x y : SkN} (hk : x.kind = y.kind) (h : (x.kind = 1 → x.K = y.K) ∧ (x.kind = 2 → x.P = y.P) ∧ (x.kind = 3 → x.B = y.B ∧ x.H = y.H) ∧ (x.kind = 4 → x.R = y.R ∧ x.C = y.C) ∧ (x.kind = 5 → x.gK = y.gK)) : likeN x y = true := by
  obtain ⟨h1, h2, h3, h4, h5⟩ := h
  unfold likeN
  simp only [hk, decide_true, Bool.true_and]
  rw [hk] at h1 h2 h3 h4 h5
  by_cases k1 : y.kind = 1
  · simp [k1, h1 k1]
  · by_cases k2 : y.kind = 2
    · simp [k2, h2 k2]
    · by_cases k3 : y.kind = 3
      · simp [k3, (h3 k3).1, (h3 k3).2]
      · by_cases k4 : y.kind = 4
        · simp [k4, (h4 k4).1, (h4 k4).2]
        · by_cases k5 : y.kind = 5
          · simp [k5, h5 k5]
          · simp [k1, k2, k3, k4, k5]
theorem like_comm (x y : SkN) : likeN x y = likeN y x := by
  have key : ∀ x y : SkN, likeN x y = true → likeN y x = true := by
    intro x y h
    have hk := like_kind h
    obtain ⟨h1, h2, h3, h4, h5⟩ := like_sz h
    rw [hk] at h1 h2 h3 h4 h5
    exact like_of hk.symm ⟨fun k => (h1 k).symm, fun k => (h2 k).symm, fun k => ⟨(h3 k).1.symm, (h3 k).2.symm⟩, fun k => ⟨(h4 k).1.symm, (h4 k).2.symm⟩, fun k => (h5 k).symm⟩
  cases h : likeN x y with
  | true => exact (key x y h).symm
  | false =>
    cases h' : likeN y x with
    | false => rfl
    | true => rw [key y x h'] at h; cases h
theorem like_self (x : SkN) : likeN x x = true := like_of rfl ⟨fun _ => rfl, fun _ => rfl, fun _ => ⟨rfl, rfl⟩, fun _ => ⟨rfl, rfl⟩, fun _ => rfl⟩
theorem mergeN0_kind (x y : SkN) : (mergeN0 x y).kind = x.kind := by
  unfold mergeN0; repeat' split
  all_goals rfl
theorem mergeN0_only {x : SkN} (y : SkN) : mergeN0 x y = onlyN (mergeN0 x y) := by
  unfold mergeN0
  by_cases k0 : x.kind = 0
  · simp [k0, onlyN]
  · by_cases k1 : x.kind = 1
    · simp [k1, onlyN]
    · by_cases k2 : x.kind = 2
      · simp [k2, onlyN]
      · by_cases k3 : x.kind = 3
        · simp [k3, onlyN]
        · by_cases k4 : x.kind = 4
          · simp [k4, onlyN]
          · by_cases k5 : x.kind = 5
            · simp [k5, onlyN]
            · simp [k0, k1, k2, k3, k4, k5, onlyN]
theorem six {x : SkN} (h : x.W) (hk : x.kind < 6) : x.kind = 0 ∨ x.kind = 1 ∨ x.kind = 2 ∨ x.kind = 3 ∨ x.kind = 4 ∨ x.kind = 5 := by
  have := h.kind; omega
/-- Only a set may be too great. -/
theorem check_merge {x y : SkN} (hx : Fine x) (hy : Fine y) (hl : likeN x y = true) : checkN (mergeN0 x y) = if x.kind = 0 ∧ 4096 < (mrg x.set y.set).length then 7 else 0 := by
  obtain ⟨kd, on, sp⟩ := checkN_ok.mp hx.c
  obtain ⟨kd', on', sp'⟩ := checkN_ok.mp hy.c
  have hk := like_kind hl
  obtain ⟨l1, l2, l3, l4, l5⟩ := like_sz hl
  rw [← hk] at sp'
  have ho := mergeN0_only (x := x) y
  unfold checkN
  rw [mergeN0_kind, if_neg (by omega), if_neg (fun h => h ho)]
  rcases six hx.w kd with k | k | k | k | k | k
  · have e : mergeN0 x y = { skZ with kind := x.kind, set := mrg x.set y.set } := by unfold mergeN0; rw [if_pos k]
    rw [if_pos k] at sp sp'
    rw [if_pos k, e]
    obtain ⟨a1, a2⟩ := schk_ok.mp sp
    obtain ⟨b1, b2⟩ := schk_ok.mp sp'
    show schk (mrg x.set y.set) = _
    unfold schk
    by_cases h : 4096 < (mrg x.set y.set).length
    · rw [if_pos h, if_pos ⟨k, h⟩]
    · rw [if_neg h, if_neg (fun h' => h h'.2)]
      exact ordS_rise (rise_mrg _ _ a2 b2)
  · have e : mergeN0 x y = { skZ with kind := x.kind, K := x.K, hs := (mrg x.hs y.hs).take x.K.toNat } := by unfold mergeN0; simp [k]
    simp [k] at sp sp' ⊢
    rw [e]
    obtain ⟨a1, a2, a3⟩ := kchk_ok.mp sp
    obtain ⟨b1, b2, b3⟩ := kchk_ok.mp sp'
    exact kchk_ok.mpr ⟨a1, by simp only [List.length_take]; omega, rise_take _ (rise_mrg _ _ a3 b3)⟩
  · have e : mergeN0 x y = { skZ with kind := x.kind, P := x.P, rg := hmax x.rg y.rg } := by unfold mergeN0; simp [k]
    simp [k] at sp sp' ⊢
    rw [e]
    have lp := l2 k
    obtain ⟨a1, a2, a3⟩ := hchk_ok.mp sp
    obtain ⟨b1, b2, b3⟩ := hchk_ok.mp sp'
    rw [← lp] at b3
    exact hchk_ok.mpr ⟨a1, by simp only [hmax_len]; exact a2, hmax_le a3 b3⟩
  · have e : mergeN0 x y = { skZ with kind := x.kind, B := x.B, H := x.H, bs := mrg x.bs y.bs } := by unfold mergeN0; simp [k]
    simp [k] at sp sp' ⊢
    rw [e]
    obtain ⟨lb, lh⟩ := l3 k
    obtain ⟨a1, a2, a3⟩ := good_chk sp hx.w.bs
    obtain ⟨b1, b2, b3⟩ := good_chk sp' hy.w.bs
    rw [← lb] at b3
    exact chk_good a1 a2 (a3.mrg b3)
  · have e : mergeN0 x y = { skZ with kind := x.kind, R := x.R, C := x.C, cs := cmrg x.cs y.cs } := by unfold mergeN0; simp [k]
    simp [k] at sp sp' ⊢
    rw [e]
    obtain ⟨a1, a2, a3⟩ := cchk_ok.mp sp
    exact cchk_ok.mpr ⟨a1, a2, by simp only [cmrg_len]; exact a3⟩
  · have e : mergeN0 x y = { skZ with kind := x.kind, gK := x.gK, g := gmgN x.gK x.g y.g } := by unfold mergeN0; simp [k]
    simp [k] at sp sp' ⊢
    rw [e]
    have lg := l5 k
    rw [← lg] at sp'
    exact gchk_merge sp sp'
theorem merge_pos {x y : SkN} (hx : Fine x) (hy : Fine y) : (mergeN0 x y).g.Pos := by
  unfold mergeN0
  repeat' split
  all_goals first | exact gz_pos | exact gmgN_pos hx.pos hy.pos
theorem merge_fine {x y : SkN} (hx : Fine x) (hy : Fine y) (hl : likeN x y = true) (h : ¬(x.kind = 0 ∧ 4096 < (mrg x.set y.set).length)) : Fine (mergeN0 x y) :=
  ⟨mergeN0_W hx.W2 hy.W2, by rw [check_merge hx hy hl, if_neg h], merge_pos hx hy⟩
theorem mergeN_eq {x y : SkN} (hx : Fine x) (hy : Fine y) : mergeN x y = if likeN x y = false then (skZ, 13) else if x.kind = 0 ∧ 4096 < (mrg x.set y.set).length then (skZ, 7) else (mergeN0 x y, 0) := by
  unfold mergeN
  rw [if_neg (by simpa using hx.c), if_neg (by simpa using hy.c)]
  by_cases hl : likeN x y = false
  · rw [if_pos hl, if_pos hl]
  · rw [if_neg hl, if_neg hl]
    have hl' : likeN x y = true := by simpa using hl
    unfold okN
    rw [check_merge hx hy hl']
    by_cases h : x.kind = 0 ∧ 4096 < (mrg x.set y.set).length
    · rw [if_pos h, if_pos h]; rfl
    · rw [if_neg h, if_neg h]; rfl
theorem merge_comm {x y : SkN} (hx : Fine x) (hy : Fine y) (hl : likeN x y = true) : mergeN0 x y = mergeN0 y x := by
  obtain ⟨kd, on, sp⟩ := checkN_ok.mp hx.c
  obtain ⟨kd', on', sp'⟩ := checkN_ok.mp hy.c
  have hk := like_kind hl
  obtain ⟨l1, l2, l3, l4, l5⟩ := like_sz hl
  rw [← hk] at sp'
  unfold mergeN0
  rw [← hk]
  rcases six hx.w kd with k | k | k | k | k | k
  · simp [k] at sp sp' ⊢
    exact mrg_comm (schk_ok.mp sp).2 (schk_ok.mp sp').2
  · simp [k] at sp sp' ⊢
    rw [l1 k, mrg_comm (kchk_ok.mp sp).2.2 (kchk_ok.mp sp').2.2]
    exact ⟨rfl, rfl⟩
  · simp [k] at sp sp' ⊢
    rw [l2 k]
    refine ⟨rfl, hmax_comm ?_⟩
    rw [(hchk_ok.mp sp).2.1, (hchk_ok.mp sp').2.1, l2 k]
  · simp [k] at sp sp' ⊢
    obtain ⟨lb, lh⟩ := l3 k
    exact ⟨lb, lh, mrg_comm (good_chk sp hx.w.bs).2.2.1 (good_chk sp' hy.w.bs).2.2.1⟩
  · simp [k] at sp sp' ⊢
    obtain ⟨lr, lc⟩ := l4 k
    refine ⟨lr, lc, cmrg_comm ?_⟩
    have a := (cchk_ok.mp sp).2.2
    have b := (cchk_ok.mp sp').2.2
    rw [← lr, ← lc] at b
    omega
  · simp [k] at sp sp' ⊢
    have lg := l5 k
    rw [← lg] at sp' ⊢
    exact ⟨rfl, gmgN_comm sp sp'⟩
theorem merge_assoc {x y z : SkN} (hx : Fine x) (hy : Fine y) (hz : Fine z) (hl : likeN x y = true) (hl' : likeN y z = true) : mergeN0 (mergeN0 x y) z = mergeN0 x (mergeN0 y z) := by
  obtain ⟨kd, on, sp⟩ := checkN_ok.mp hx.c
  obtain ⟨kd', on', sp'⟩ := checkN_ok.mp hy.c
  obtain ⟨kd'', on'', sp''⟩ := checkN_ok.mp hz.c
  have hk := like_kind hl
  have hk' := like_kind hl'
  obtain ⟨l1, l2, l3, l4, l5⟩ := like_sz hl
  obtain ⟨m1, m2, m3, m4, m5⟩ := like_sz hl'
  rw [← hk'] at sp''
  rw [← hk] at sp' sp'' m1 m2 m3 m4 m5
  rcases six hx.w kd with k | k | k | k | k | k
  · have ky : y.kind = 0 := by omega
    simp [k] at sp sp' sp''
    simp [mergeN0, k, ky]
    exact mrg_assoc (schk_ok.mp sp).2 (schk_ok.mp sp').2 (schk_ok.mp sp'').2
  · have ky : y.kind = 1 := by omega
    simp [k] at sp sp' sp''
    simp [mergeN0, k, ky]
    have r1 := (kchk_ok.mp sp).2.2
    have r2 := (kchk_ok.mp sp').2.2
    have r3 := (kchk_ok.mp sp'').2.2
    rw [take_mrg_l, mrg_assoc r1 r2 r3, ← l1 k]
    have t := take_mrg x.hs (mrg y.hs z.hs) x.K.toNat (max x.K.toNat x.hs.length) x.K.toNat (by omega) (by omega)
    rw [List.take_of_length_le (by omega : x.hs.length ≤ max x.K.toNat x.hs.length)] at t
    exact t.symm
  · have ky : y.kind = 2 := by omega
    simp [k] at sp sp' sp''
    simp [mergeN0, k, ky]
    have a := (hchk_ok.mp sp).2.1
    have b := (hchk_ok.mp sp').2.1
    have c := (hchk_ok.mp sp'').2.1
    rw [← l2 k] at b
    rw [← m2 k, ← l2 k] at c
    exact hmax_assoc (by omega) (by omega)
  · have ky : y.kind = 3 := by omega
    simp [k] at sp sp' sp''
    simp [mergeN0, k, ky]
    exact mrg_assoc (good_chk sp hx.w.bs).2.2.1 (good_chk sp' hy.w.bs).2.2.1 (good_chk sp'' hz.w.bs).2.2.1
  · have ky : y.kind = 4 := by omega
    simp [k] at sp sp' sp''
    simp [mergeN0, k, ky]
    have a := (cchk_ok.mp sp).2.2
    have b := (cchk_ok.mp sp').2.2
    have c := (cchk_ok.mp sp'').2.2
    rw [← (m4 k).1, ← (m4 k).2, ← (l4 k).1, ← (l4 k).2] at c
    rw [← (l4 k).1, ← (l4 k).2] at b
    exact cmrg_assoc (by omega) (by omega) hx.w.cs hy.w.cs hz.w.cs
  · have ky : y.kind = 5 := by omega
    simp [k] at sp sp' sp''
    simp [mergeN0, k, ky]
    rw [← m5 k] at sp''
    rw [← l5 k] at sp' sp'' ⊢
    exact gmgN_assoc sp sp' sp'' hx.pos hy.pos hz.pos
theorem merge_self {x : SkN} (hx : Fine x) (h4 : x.kind ≠ 4) (h5 : x.kind ≠ 5) : mergeN0 x x = x := by
  obtain ⟨kd, on, sp⟩ := checkN_ok.mp hx.c
  conv => rhs; rw [on]
  rcases six hx.w kd with k | k | k | k | k | k
  · simp [k] at sp
    simp [mergeN0, onlyN, k]
    exact mrg_self (schk_ok.mp sp).2
  · simp [k] at sp
    simp [mergeN0, onlyN, k]
    obtain ⟨a, b, c⟩ := kchk_ok.mp sp
    rw [mrg_self c]
    exact List.take_of_length_le (by omega)
  · simp [mergeN0, onlyN, k]
    exact hmax_self
  · simp [k] at sp
    simp [mergeN0, onlyN, k]
    exact mrg_self (good_chk sp hx.w.bs).2.2.1
  · exact absurd k h4
  · exact absurd k h5
end Go.Proofs.Ytalnoedhacobkaa.AI
