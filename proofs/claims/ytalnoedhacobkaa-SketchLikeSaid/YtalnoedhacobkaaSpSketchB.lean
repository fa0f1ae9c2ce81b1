/- Sketches: may two be merged, both as one, a hash more. -/
import Derived.Test.YtalnoedhacobkaaSpSketch
namespace Go.Proofs.Ytalnoedhacobkaa.AI
open Go
set_option linter.unusedVariables false
set_option linter.unusedSimpArgs false
set_option maxRecDepth 100000

/-! ### Like -/
def likeN (x y : SkN) : Bool := decide (x.kind = y.kind) && (if x.kind = 1 then decide (x.K = y.K) else if x.kind = 2 then decide (x.P = y.P) else if x.kind = 3 then decide (x.B = y.B) && decide (x.H = y.H) else if x.kind = 4 then decide (x.R = y.R) && decide (x.C = y.C) else if x.kind = 5 then decide (x.gK = y.gK) else true)
theorem run_sklike {x y : SkN} {v u : AV} (hv : IsSk x v) (hu : IsSk y u) (hp : Hp) : run cxX 49 [v, u] hp = some (.sc (.bool (likeN x y)), hp) := by
  obtain ⟨g, a, b, c, d, e, f, gw, gn, rfl⟩ := hv
  obtain ⟨g', a', b', c', d', e', f', gw', gn', rfl⟩ := hu
  rw [E49]
  unfold likeN skA
  by_cases h1 : x.kind = y.kind
  · by_cases k1 : x.kind = 1
    · simp [getSc, ← h1, k1]
    · by_cases k2 : x.kind = 2
      · simp [getSc, ← h1, k2]
      · by_cases k3 : x.kind = 3
        · by_cases q : x.B = y.B
          · simp [getSc, ← h1, k3, q]
          · simp [getSc, ← h1, k3, q]
        · by_cases k4 : x.kind = 4
          · by_cases q : x.R = y.R
            · simp [getSc, ← h1, k4, q]
            · simp [getSc, ← h1, k4, q]
          · by_cases k5 : x.kind = 5
            · simp [getSc, ← h1, k5]
            · simp [getSc, ← h1, k1, k2, k3, k4, k5]
  · simp [getSc, h1]
/-! ### what may be one -/
theorem chkL_rise {B : Int} : ∀ (l : List Int) (p : Option Int), chkL B p l = 0 → (match p with | none => Rise l | some q => Rise (q :: l)) ∧ ∀ n ∈ l, n < B
  | [], none, _ => ⟨List.Pairwise.nil, by simp⟩
  | [], some q, _ => ⟨by simp, by simp⟩
  | x :: l, p, h => by
    unfold chkL at h
    split at h
    · cases h
    · rename_i h1
      split at h
      · have ih := chkL_rise l (some x) h
        refine ⟨ih.1, fun n hn => ?_⟩
        rcases List.mem_cons.mp hn with rfl | hn
        · omega
        · exact ih.2 n hn
      · split at h
        · cases h
        · rename_i q h2
          have ih := chkL_rise l (some x) h
          refine ⟨?_, fun n hn => ?_⟩
          · have hr : Rise (x :: l) := ih.1
            refine List.pairwise_cons.mpr ⟨fun n hn => ?_, hr⟩
            rcases List.mem_cons.mp hn with rfl | hn
            · omega
            · have := (List.pairwise_cons.mp hr).1 n hn; omega
          · rcases List.mem_cons.mp hn with rfl | hn
            · omega
            · exact ih.2 n hn
theorem good_chk {B H : Int} {l : List Int} (h : bchk B H l = 0) (hl : U32 l) : (1 ≤ B ∧ B ≤ 4096) ∧ (1 ≤ H ∧ H ≤ 8) ∧ Good B l := by
  unfold bchk at h
  split at h
  · cases h
  · have c := chkL_rise l none h
    exact ⟨by omega, by omega, c.1, fun n hn => ⟨(hl n hn).1, c.2 n hn⟩⟩
theorem schk_ok {l : List Int} : schk l = 0 ↔ l.length ≤ 4096 ∧ Rise l := by
  unfold schk
  constructor
  · intro h
    split at h
    · cases h
    · exact ⟨by omega, rise_ordS h⟩
  · rintro ⟨h1, h2⟩
    rw [if_neg (by omega)]; exact ordS_rise h2
theorem ordL_rise : ∀ {l : List Int}, Rise l → ordL l = 0
  | [], _ => rfl
  | [_], _ => rfl
  | x :: y :: r, h => by
    have h' := List.pairwise_cons.mp h
    have hxy := h'.1 y (by simp)
    show (if y ≤ x then 8 else ordL (y :: r)) = 0
    rw [if_neg (by omega)]
    exact ordL_rise h'.2
theorem rise_ordL : ∀ {l : List Int}, ordL l = 0 → Rise l
  | [], _ => List.Pairwise.nil
  | [_], _ => by simp
  | x :: y :: r, h => by
    have h : (if y ≤ x then 8 else ordL (y :: r)) = 0 := h
    split at h
    · cases h
    · rename_i hxy
      have ih := rise_ordL h
      have ih' := List.pairwise_cons.mp ih
      refine List.pairwise_cons.mpr ⟨fun n hn => ?_, ih⟩
      rcases List.mem_cons.mp hn with rfl | hn
      · omega
      · have := ih'.1 n hn; omega
theorem kchk_ok {K : Int} {l : List Int} : kchk K l = 0 ↔ (1 ≤ K ∧ K ≤ 1024) ∧ (l.length : Int) ≤ K ∧ Rise l := by
  unfold kchk
  constructor
  · intro h
    split at h
    · cases h
    · split at h
      · cases h
      · exact ⟨by omega, by omega, rise_ordL h⟩
  · rintro ⟨h1, h2, h3⟩
    rw [if_neg (by omega), if_neg (by omega)]; exact ordL_rise h3
theorem hchk_ok {P : Int} {l : List Int} : hchk P l = 0 ↔ (4 ≤ P ∧ P ≤ 8) ∧ l.length = hpow P ∧ ∀ n ∈ l, n ≤ 65 - P := by
  unfold hchk hchkR
  constructor
  · intro h
    split at h
    · cases h
    · split at h
      · cases h
      · split at h
        · cases h
        · rename_i h1 h2 h3
          exact ⟨by omega, by simpa using h2, fun n hn => by
            by_cases hlt : 65 - P < n
            · exact absurd ⟨n, hn, hlt⟩ h3
            · omega⟩
  · rintro ⟨h1, h2, h3⟩
    rw [if_neg (by omega), if_neg (by simpa using h2), if_neg]
    rintro ⟨n, hn, hlt⟩
    have := h3 n hn
    omega
theorem cchk_ok {R C : Int} {l : List Int} : cchk R C l = 0 ↔ (1 ≤ R ∧ R ≤ 8) ∧ (1 ≤ C ∧ C ≤ 256) ∧ (l.length : Int) = R * C := by
  unfold cchk
  constructor
  · intro h
    split at h
    · cases h
    · split at h
      · cases h
      · rename_i h1 h2
        exact ⟨by omega, by omega, by simpa using h2⟩
  · rintro ⟨h1, h2, h3⟩
    rw [if_neg (by omega), if_neg (by simpa using h3)]
/-- What it is to be one. -/
theorem checkN_ok {x : SkN} : checkN x = 0 ↔ x.kind < 6 ∧ x = onlyN x ∧ (if x.kind = 0 then schk x.set else if x.kind = 1 then kchk x.K x.hs else if x.kind = 2 then hchk x.P x.rg else if x.kind = 3 then bchk x.B x.H x.bs else if x.kind = 4 then cchk x.R x.C x.cs else gchk x.gK x.g) = 0 := by
  unfold checkN
  constructor
  · intro h
    split at h
    · cases h
    · split at h
      · cases h
      · rename_i h1 h2
        exact ⟨by omega, by simpa using h2, h⟩
  · rintro ⟨h1, h2, h3⟩
    rw [if_neg (by omega), if_neg (by simpa using h2)]; exact h3
/-! ### both as one -/
def mergeN0 (x y : SkN) : SkN :=
  if x.kind = 0 then { skZ with kind := x.kind, set := mrg x.set y.set }
  else if x.kind = 1 then { skZ with kind := x.kind, K := x.K, hs := (mrg x.hs y.hs).take x.K.toNat }
  else if x.kind = 2 then { skZ with kind := x.kind, P := x.P, rg := hmax x.rg y.rg }
  else if x.kind = 3 then { skZ with kind := x.kind, B := x.B, H := x.H, bs := mrg x.bs y.bs }
  else if x.kind = 4 then { skZ with kind := x.kind, R := x.R, C := x.C, cs := cmrg x.cs y.cs }
  else if x.kind = 5 then { skZ with kind := x.kind, gK := x.gK, g := gmgN x.gK x.g y.g }
  else { skZ with kind := x.kind }
/-- Errors make nothing. -/
def okN (o : SkN) : SkN × Int := if checkN o = 0 then (o, 0) else (skZ, checkN o)
def mergeN (x y : SkN) : SkN × Int := if checkN x ≠ 0 then (skZ, checkN x) else if checkN y ≠ 0 then (skZ, checkN y) else if likeN x y = false then (skZ, 13) else okN (mergeN0 x y)
/-- Small enough that two of them are within bounds. -/
structure SkN.W2 (x : SkN) : Prop extends x.W where
  set2 : x.set.length ≤ 50000
  hs2 : x.hs.length ≤ 50000
  bs2 : x.bs.length ≤ 50000
  gK2 : x.kind = 5 → x.gK ≤ 100000
theorem mem_u32_mrg {a b : List Int} (ha : U32 a) (hb : U32 b) : U32 (mrg a b) := fun n hn => ((mem_mrg n a b).mp hn).elim (ha n) (hb n)
theorem hmax_u8 : ∀ {a b : List Int}, (∀ n ∈ a, 0 ≤ n ∧ n < 256) → (∀ n ∈ b, 0 ≤ n ∧ n < 256) → ∀ n ∈ hmax a b, 0 ≤ n ∧ n < 256
  | [], _, _, _ => by simp [hmax]
  | x :: a, [], ha, _ => by simpa [hmax] using ha
  | x :: a, y :: b, ha, hb => by
    have ih := hmax_u8 (a := a) (b := b) (fun n hn => ha n (by simp [hn])) (fun n hn => hb n (by simp [hn]))
    intro n hn
    rcases List.mem_cons.mp hn with rfl | hn
    · have h1 := ha x (by simp); have h2 := hb y (by simp); omega
    · exact ih n hn
theorem mergeN0_W {x y : SkN} (hx : x.W2) (hy : y.W2) : (mergeN0 x y).W := by
  have z := skZ_W
  have l1 := len_mrg x.set y.set
  have l2 := len_mrg x.hs y.hs
  have l3 := len_mrg x.bs y.bs
  have a1 := hx.set2; have a2 := hy.set2; have a3 := hx.hs2; have a4 := hy.hs2; have a5 := hx.bs2; have a6 := hy.bs2
  unfold mergeN0
  repeat' split
  · exact ⟨hx.kind, mem_u32_mrg hx.set hy.set, by show (mrg x.set y.set).length ≤ _; omega, z.hsL, z.rg, z.rgL, z.bs, z.bsL, z.cs, z.csL⟩
  · exact ⟨hx.kind, z.set, z.setL, by show ((mrg x.hs y.hs).take x.K.toNat).length ≤ _; rw [List.length_take]; omega, z.rg, z.rgL, z.bs, z.bsL, z.cs, z.csL⟩
  · exact ⟨hx.kind, z.set, z.setL, z.hsL, hmax_u8 hx.rg hy.rg, by show (hmax x.rg y.rg).length ≤ _; rw [hmax_len]; exact hx.rgL, z.bs, z.bsL, z.cs, z.csL⟩
  · exact ⟨hx.kind, z.set, z.setL, z.hsL, z.rg, z.rgL, mem_u32_mrg hx.bs hy.bs, by show (mrg x.bs y.bs).length ≤ _; omega, z.cs, z.csL⟩
  · exact ⟨hx.kind, z.set, z.setL, z.hsL, z.rg, z.rgL, z.bs, z.bsL, cmrg_u32 hx.cs hy.cs, by show (cmrg x.cs y.cs).length ≤ _; rw [cmrg_len]; exact hx.csL⟩
  · exact ⟨hx.kind, z.set, z.setL, z.hsL, z.rg, z.rgL, z.bs, z.bsL, z.cs, z.csL⟩
  · exact ⟨hx.kind, z.set, z.setL, z.hsL, z.rg, z.rgL, z.bs, z.bsL, z.cs, z.csL⟩
theorem idx2_at0 : idx 2 (.int .i64 0) = some 0 := by kernel_rfl
theorem idx2_at1 : idx 2 (.int .i64 1) = some 1 := by kernel_rfl
/-- The cells of a sketch. -/
def skL (x : SkN) (g : Gs) (a b c d e f : Nat) : List AV := [.sc (.int .u8 x.kind), S a 1 (LI .u32 x.set), .sc (.int .i64 x.K), S b 1 (LI .u64 x.hs), .sc (.int .i64 x.P), S c 1 (LI .u8 x.rg), .sc (.int .i64 x.B), .sc (.int .i64 x.H), S d 1 (LI .u32 x.bs), .sc (.int .i64 x.R), .sc (.int .i64 x.C), S e 1 (LI .u32 x.cs),
  .sc (.int .i64 x.gK), .sc (.int .u32 g.M), .sc (.int .u32 g.e0), .sc (.int .u32 g.e1), .sc (.int .u32 g.e2), .sc (.int .u32 g.e3), .sc (.int .u32 g.e4), .sc (.int .u32 g.e5), fl g.lo, fl g.hi, S f 1 (LF g.L)]
/-- The zero sketch's cells. -/
def skZL : List AV := [.sc (.int .u8 0), .sc (.slice none 0 0), .sc (.int .i64 0), .sc (.slice none 0 0), .sc (.int .i64 0), .sc (.slice none 0 0), .sc (.int .i64 0), .sc (.int .i64 0), .sc (.slice none 0 0), .sc (.int .i64 0), .sc (.int .i64 0), .sc (.slice none 0 0), .sc (.int .i64 0), .sc (.int .u32 0), .sc (.int .u32 0), .sc (.int .u32 0), .sc (.int .u32 0), .sc (.int .u32 0), .sc (.int .u32 0), .sc (.int .u32 0), fl 0, fl 0, .sc (.slice none 0 0)]
theorem isSk_zero : IsSk skZ (.agg skZL) := ⟨gz, 2, 2, 2, 2, 2, 2, gz_W, rfl, rfl⟩
theorem merge_fin {o : SkN} (w : o.W) (g : Gs) (gw : g.W) (gn : g.nf = o.g) (a b c d e f : Nat) (hp : Hp) : ∃ r, IsSk (okN o).1 r ∧ B48_24 skZL (skL o g a b c d e f) hp = some (.tup [r, .sc (.int .i64 (okN o).2)], hp) := by
  have ck := run_skcheck (isSk_tags gw gn (rk a) (rk b) (rk c) (rk d) (rk e) (rk f)) w hp0
  unfold okN
  rw [B48_24_eq]
  by_cases h : checkN o = 0
  · rw [if_pos h]
    refine ⟨skA o g a b c d e f, isSk_tags gw gn a b c d e f, ?_⟩
    rw [h] at ck
    unfold skA at ck ⊢
    unfold skL skZL
    simp [getN, putN, ck]
  · rw [if_neg h]
    refine ⟨.agg skZL, isSk_zero, ?_⟩
    unfold skA at ck
    unfold skL skZL
    simp [getN, putN, ck, h]
theorem mergeN0_run {x y : SkN} (hx : x.W2) (hy : y.W2) (g g' : Gs) (gw : g.W) (gn : g.nf = x.g) (gw' : g'.W) (gn' : g'.nf = y.g) (a b c d e f a' b' c' d' e' f' : Nat) (x13 : AV) (hl : likeN x y = true) (hp : Hp) :
    ∃ r, IsSk (okN (mergeN0 x y)).1 r ∧ B48_2 x13 (.int .i64 2) (skL x g a b c d e f) (skL y g' a' b' c' d' e' f') skZL hp = some (.tup [r, .sc (.int .i64 (okN (mergeN0 x y)).2)], hp) := by
  have lk := run_sklike (isSk_tags gw gn (rk a) (rk b) (rk c) (rk d) (rk e) (rk f)) (isSk_tags gw' gn' (rk a') (rk b') (rk c') (rk d') (rk e') (rk f')) hp0
  rw [hl] at lk
  have W := mergeN0_W hx hy
  have a1 := hx.set2; have a2 := hy.set2; have a3 := hx.hs2; have a4 := hy.hs2; have a5 := hx.bs2; have a6 := hy.bs2
  have q1 := fun k k' hp => run_or x.set y.set k k' hp (by omega)
  have q2 := fun (B' : AV) k k' hp => run_kmerge x.K B' x.hs y.hs k k' hp (by omega)
  obtain ⟨t3, hp3, q3⟩ := run_hmerge x.P (.sc (.int .i64 y.P)) x.rg y.rg (rk c) (rk c') hp0 (by have := hx.rgL; omega) (by have := hy.rgL; omega)
  have q4 := fun (B' H' : Value) k k' hp => run_merge (.int .i64 x.B) (.int .i64 x.H) B' H' x.bs y.bs k k' hp (by omega)
  obtain ⟨t5, hp5, q5⟩ := run_cmerge x.R x.C (.sc (.int .i64 y.R)) (.sc (.int .i64 y.C)) x.cs y.cs (rk e) (rk e') hp0 (by have := hx.csL; omega) (by have := hy.csL; omega) hx.cs hy.cs
  have q6 := fun k k' hp => run_gmW x.gK y.gK k k' gw gw' hp
  rw [B48_2_eq]
  unfold skA at lk
  unfold mergeN0 at W ⊢
  by_cases h0 : x.kind = 0
  · rw [if_pos h0] at W ⊢
    obtain ⟨r, hr, e⟩ := merge_fin W gz gz_W rfl 2 2 2 2 2 2 hp
    refine ⟨r, hr, ?_⟩
    revert e
    generalize (okN _).2 = er
    intro e
    unfold skL skZL at e ⊢
    simp only [h0] at lk e ⊢
    simp [skZ, gz, LF] at e
    simp [getSc, getC, getN, putN, lk, q1, e]
  · rw [if_neg h0] at W ⊢
    by_cases h1 : x.kind = 1
    · rw [if_pos h1] at W ⊢
      obtain ⟨r, hr, e⟩ := merge_fin W gz gz_W rfl 2 2 2 2 2 2 hp
      refine ⟨r, hr, ?_⟩
      revert e
      generalize (okN _).2 = er
      intro e
      unfold skL skZL at e ⊢
      simp only [h1] at lk e ⊢
      simp [skZ, gz, LF] at e
      simp [getSc, getC, getN, putN, lk, q2, e]
    · rw [if_neg h1] at W ⊢
      by_cases h2 : x.kind = 2
      · rw [if_pos h2] at W ⊢
        obtain ⟨r, hr, e⟩ := merge_fin W gz gz_W rfl 2 2 t3 2 2 2 hp
        refine ⟨r, hr, ?_⟩
        revert e
        generalize (okN _).2 = er
        intro e
        unfold skL skZL at e ⊢
        simp only [h2] at lk e ⊢
        simp [skZ, gz, LF] at e
        simp [getSc, getC, getN, putN, lk, q3, e]
      · rw [if_neg h2] at W ⊢
        by_cases h3 : x.kind = 3
        · rw [if_pos h3] at W ⊢
          obtain ⟨r, hr, e⟩ := merge_fin W gz gz_W rfl 2 2 2 2 2 2 hp
          refine ⟨r, hr, ?_⟩
          revert e
          generalize (okN _).2 = er
          intro e
          unfold skL skZL at e ⊢
          simp only [h3] at lk e ⊢
          simp [skZ, gz, LF] at e
          simp [getSc, getC, getN, putN, lk, q4, e]
        · rw [if_neg h3] at W ⊢
          by_cases h4 : x.kind = 4
          · rw [if_pos h4] at W ⊢
            obtain ⟨r, hr, e⟩ := merge_fin W gz gz_W rfl 2 2 2 2 t5 2 hp
            refine ⟨r, hr, ?_⟩
            revert e
            generalize (okN _).2 = er
            intro e
            unfold skL skZL at e ⊢
            simp only [h4] at lk e ⊢
            simp [skZ, gz, LF] at e
            simp [getSc, getC, getN, putN, lk, q5, e]
          · rw [if_neg h4] at W ⊢
            by_cases h5 : x.kind = 5
            · rw [if_pos h5] at W ⊢
              obtain ⟨r, hr, e⟩ := merge_fin W (gmg x.gK g g') (gmg_W (hx.gK2 h5) gw gw') (by rw [gmg_nf, gn, gn']) 2 2 2 2 2 2 hp
              refine ⟨r, hr, ?_⟩
              revert e
              generalize (okN _).2 = er
              intro e
              unfold skL skZL at e ⊢
              simp only [h5] at lk e ⊢
              simp [skZ] at e
              simp [getSc, getC, getN, putN, lk, q6, e]
            · rw [if_neg h5] at W ⊢
              obtain ⟨r, hr, e⟩ := merge_fin W gz gz_W rfl 2 2 2 2 2 2 hp
              refine ⟨r, hr, ?_⟩
              revert e
              generalize (okN _).2 = er
              intro e
              unfold skL skZL at e ⊢
              simp [skZ, gz, LF] at e
              simp [getSc, getC, getN, putN, lk, h0, h1, h2, h3, h4, h5, e]
theorem run_skmerge {x y : SkN} {v u : AV} (hv : IsSk x v) (hu : IsSk y u) (hx : x.W2) (hy : y.W2) (hp : Hp) : ∃ r, IsSk (mergeN x y).1 r ∧ run cxX 48 [v, u] hp = some (.tup [r, .sc (.int .i64 (mergeN x y).2)], hp) := by
  obtain ⟨g, a, b, c, d, e, f, gw, gn, rfl⟩ := hv
  obtain ⟨g', a', b', c', d', e', f', gw', gn', rfl⟩ := hu
  have c1 := run_skcheck (isSk_tags gw gn (rk a) (rk b) (rk c) (rk d) (rk e) (rk f)) hx.toW hp0
  have c2 := run_skcheck (isSk_tags gw' gn' (rk a') (rk b') (rk c') (rk d') (rk e') (rk f')) hy.toW hp0
  have lk := run_sklike (isSk_tags gw gn (rk a) (rk b) (rk c) (rk d) (rk e) (rk f)) (isSk_tags gw' gn' (rk a') (rk b') (rk c') (rk d') (rk e') (rk f')) hp0
  have key : ∃ r, IsSk (mergeN x y).1 r ∧ B48_2 (.agg (skL x g (rk a) (rk b) (rk c) (rk d) (rk e) (rk f) ++ skL y g' (rk a') (rk b') (rk c') (rk d') (rk e') (rk f'))) (.int .i64 0) (skL x g (rk a) (rk b) (rk c) (rk d) (rk e) (rk f)) (skL y g' (rk a') (rk b') (rk c') (rk d') (rk e') (rk f')) skZL hp = some (.tup [r, .sc (.int .i64 (mergeN x y).2)], hp) := by
    rw [B48_2_eq]
    unfold mergeN
    unfold skA at c1 c2 lk
    by_cases h1 : checkN x = 0
    · rw [if_neg (by simpa using h1)]
      by_cases h2 : checkN y = 0
      · rw [if_neg (by simpa using h2)]
        by_cases h3 : likeN x y = false
        · rw [if_pos h3]
          refine ⟨.agg skZL, isSk_zero, ?_⟩
          have i1 : B48_2 (.agg (skL x g (rk a) (rk b) (rk c) (rk d) (rk e) (rk f) ++ skL y g' (rk a') (rk b') (rk c') (rk d') (rk e') (rk f'))) (.int .i64 1) (skL x g (rk a) (rk b) (rk c) (rk d) (rk e) (rk f)) (skL y g' (rk a') (rk b') (rk c') (rk d') (rk e') (rk f')) skZL hp = some (.tup [.agg skZL, .sc (.int .i64 13)], hp) := by
            have i2 : B48_2 (.agg (skL x g (rk a) (rk b) (rk c) (rk d) (rk e) (rk f) ++ skL y g' (rk a') (rk b') (rk c') (rk d') (rk e') (rk f'))) (.int .i64 2) (skL x g (rk a) (rk b) (rk c) (rk d) (rk e) (rk f)) (skL y g' (rk a') (rk b') (rk c') (rk d') (rk e') (rk f')) skZL hp = some (.tup [.agg skZL, .sc (.int .i64 13)], hp) := by
              rw [B48_2_eq]
              rw [h3] at lk
              unfold skL skZL
              simp [getN, putN, lk]
            rw [B48_2_eq]
            unfold skL skZL at i2 ⊢
            simp at i2
            rw [h2] at c2
            simp [getN, putN, c2, idx2_at1, i2]
          unfold skL skZL at i1 ⊢
          simp at i1
          rw [h1] at c1
          simp [getN, putN, c1, idx2_at0, i1]
        · rw [if_neg h3]
          have h3' : likeN x y = true := by simpa using h3
          obtain ⟨r, hr, i2⟩ := mergeN0_run hx hy g g' gw gn gw' gn' (rk a) (rk b) (rk c) (rk d) (rk e) (rk f) (rk a') (rk b') (rk c') (rk d') (rk e') (rk f') (.agg (skL x g (rk a) (rk b) (rk c) (rk d) (rk e) (rk f) ++ skL y g' (rk a') (rk b') (rk c') (rk d') (rk e') (rk f'))) h3' hp
          refine ⟨r, hr, ?_⟩
          generalize (okN (mergeN0 x y)).2 = er at i2 ⊢
          have i1 : B48_2 (.agg (skL x g (rk a) (rk b) (rk c) (rk d) (rk e) (rk f) ++ skL y g' (rk a') (rk b') (rk c') (rk d') (rk e') (rk f'))) (.int .i64 1) (skL x g (rk a) (rk b) (rk c) (rk d) (rk e) (rk f)) (skL y g' (rk a') (rk b') (rk c') (rk d') (rk e') (rk f')) skZL hp = some (.tup [r, .sc (.int .i64 er)], hp) := by
            rw [B48_2_eq]
            unfold skL skZL at i2 ⊢
            simp at i2
            rw [h2] at c2
            simp [getN, putN, c2, idx2_at1, i2]
          unfold skL skZL at i1 ⊢
          simp at i1
          rw [h1] at c1
          simp [getN, putN, c1, idx2_at0, i1]
      · rw [if_pos h2]
        refine ⟨.agg skZL, isSk_zero, ?_⟩
        have i1 : B48_2 (.agg (skL x g (rk a) (rk b) (rk c) (rk d) (rk e) (rk f) ++ skL y g' (rk a') (rk b') (rk c') (rk d') (rk e') (rk f'))) (.int .i64 1) (skL x g (rk a) (rk b) (rk c) (rk d) (rk e) (rk f)) (skL y g' (rk a') (rk b') (rk c') (rk d') (rk e') (rk f')) skZL hp = some (.tup [.agg skZL, .sc (.int .i64 (checkN y))], hp) := by
          rw [B48_2_eq]
          unfold skL skZL
          simp [getN, putN, c2, idx2_at1, h2]
        unfold skL skZL at i1 ⊢
        simp at i1
        rw [h1] at c1
        simp [getN, putN, c1, idx2_at0, i1]
    · rw [if_pos h1]
      refine ⟨.agg skZL, isSk_zero, ?_⟩
      unfold skL skZL
      simp [getN, putN, c1, idx2_at0, h1]
  obtain ⟨r, hr, i0⟩ := key
  refine ⟨r, hr, ?_⟩
  rw [E48]
  generalize (mergeN x y).2 = er at i0 ⊢
  unfold skL skZL at i0
  unfold skA
  simp at i0
  simp [getN, putN, i0]
/-! ### a hash more -/
noncomputable def seeN0 (x : SkN) (h : Int) : SkN :=
  if x.kind = 0 then { x with set := mrg x.set [h % 4294967296] }
  else if x.kind = 1 then { x with hs := (mrg x.hs [h]).take x.K.toNat }
  else if x.kind = 2 then { x with rg := hadd x.P x.rg h }
  else if x.kind = 3 then { x with bs := adds x.bs (plg x.B x.H h) }
  else if x.kind = 4 then { x with cs := cadd x.R x.C h 1 x.cs }
  else x
noncomputable def seeN (x : SkN) (h : Int) : SkN × Int := if checkN x ≠ 0 then (skZ, checkN x) else okN (seeN0 x h)
theorem see_fin {o : SkN} (w : o.W) (g : Gs) (gw : g.W) (gn : g.nf = o.g) (a b c d e f : Nat) (hp : Hp) : ∃ r, IsSk (okN o).1 r ∧ B58_16 skZL (skL o g a b c d e f) hp = some (.tup [r, .sc (.int .i64 (okN o).2)], hp) := by
  have ck := run_skcheck (isSk_tags gw gn (rk a) (rk b) (rk c) (rk d) (rk e) (rk f)) w hp0
  unfold okN
  rw [B58_16_eq]
  by_cases h : checkN o = 0
  · rw [if_pos h]
    refine ⟨skA o g a b c d e f, isSk_tags gw gn a b c d e f, ?_⟩
    rw [h] at ck
    unfold skA at ck ⊢
    unfold skL skZL
    simp [getN, putN, ck]
  · rw [if_neg h]
    refine ⟨.agg skZL, isSk_zero, ?_⟩
    unfold skA at ck
    unfold skL skZL
    simp [getN, putN, ck, h]
theorem adds_len_le {B : Int} {l r : List Int} (hB : B ≤ 4096) (hg : Good B l) (hr : ∀ n ∈ r, 0 ≤ n ∧ n < B) : (adds l r).length ≤ 4096 := (adds_good hg hr).len hB
theorem hadd_u8 {P : Int} {l : List Int} {h : Int} (hP : 4 ≤ P ∧ P ≤ 8) (hl : ∀ n ∈ l, 0 ≤ n ∧ n < 256) : ∀ n ∈ hadd P l h, 0 ≤ n ∧ n < 256 := by
  unfold hadd
  split
  · rename_i hi
    intro n hn
    rcases List.mem_or_eq_of_mem_set hn with hn | rfl
    · exact hl n hn
    · have h1 := hrow_in (h := h) hP
      have h2 := hl l[hplc P h] (List.getElem_mem hi)
      have e : l.getD (hplc P h) 0 = l[hplc P h] := by simp [hi]
      rw [e]; omega
  · exact hl
theorem run_sksee {x : SkN} {v : AV} (hv : IsSk x v) (hx : x.W2) (h : Int) (hh : 0 ≤ h ∧ h < 18446744073709551616) (hp : Hp) : ∃ r, IsSk (seeN x h).1 r ∧ run cxX 58 [v, .sc (.int .u64 h)] hp = some (.tup [r, .sc (.int .i64 (seeN x h).2)], hp) := by
  obtain ⟨g, a, b, c, d, e, f, gw, gn, rfl⟩ := hv
  have ck := run_skcheck (isSk_tags gw gn (rk a) (rk b) (rk c) (rk d) (rk e) (rk f)) hx.toW hp0
  unfold seeN
  rw [E58]
  by_cases h1 : checkN x = 0
  · rw [if_neg (by simpa using h1)]
    obtain ⟨kd, on, sp⟩ := checkN_ok.mp h1
    have w := hx.toW
    have a1 := hx.set2; have a3 := hx.hs2
    have hw : IntKind.u32.wrap h = h % 4294967296 := by rw [IntKind.wrap_u32]
    have hm : 0 ≤ h % 4294967296 ∧ h % 4294967296 < 4294967296 := by omega
    rw [h1] at ck
    unfold skA at ck ⊢
    unfold seeN0
    by_cases k0 : x.kind = 0
    · rw [if_pos k0]
      have W : SkN.W { x with set := mrg x.set [h % 4294967296] } := ⟨w.kind, mem_u32_mrg w.set (by intro n hn; simp at hn; subst hn; exact hm), by have := len_mrg x.set [h % 4294967296]; simp at this; show (mrg x.set [h % 4294967296]).length ≤ _; omega, w.hsL, w.rg, w.rgL, w.bs, w.bsL, w.cs, w.csL⟩
      obtain ⟨r, hr, ef⟩ := see_fin W g gw gn 2 (rk b) (rk c) (rk d) (rk e) (rk f) hp
      refine ⟨r, hr, ?_⟩
      revert ef
      generalize (okN _).2 = er
      intro ef
      have q := fun k k' hp => run_or x.set [h % 4294967296] k k' hp (by simp; omega)
      unfold skL skZL at ef
      simp only [k0] at ck ef ⊢
      simp [LI] at ef q
      simp [getSc, getC, getN, putN, ck, hw, q, ef]
      simp [LI] at ck ⊢
      simp [LI, q, ef, ck]
    · rw [if_neg k0] at sp ⊢
      by_cases k1 : x.kind = 1
      · rw [if_pos k1]
        have W : SkN.W { x with hs := (mrg x.hs [h]).take x.K.toNat } := ⟨w.kind, w.set, w.setL, by have := len_mrg x.hs [h]; simp at this; show ((mrg x.hs [h]).take x.K.toNat).length ≤ _; rw [List.length_take]; omega, w.rg, w.rgL, w.bs, w.bsL, w.cs, w.csL⟩
        obtain ⟨r, hr, ef⟩ := see_fin W g gw gn (rk a) 2 (rk c) (rk d) (rk e) (rk f) hp
        refine ⟨r, hr, ?_⟩
        revert ef
        generalize (okN _).2 = er
        intro ef
        have q := fun k hp => run_kadd x.K x.hs h k hp (by omega)
        unfold skL skZL at ef
        simp only [k1] at ck ef ⊢
        simp at ef
        simp [getSc, getC, getN, putN, ck, q, ef]
      · rw [if_neg k1] at sp ⊢
        by_cases k2 : x.kind = 2
        · rw [if_pos k2] at sp ⊢
          obtain ⟨hP, hl, _⟩ := hchk_ok.mp sp
          have W : SkN.W { x with rg := hadd x.P x.rg h } := ⟨w.kind, w.set, w.setL, w.hsL, hadd_u8 hP w.rg, by show (hadd x.P x.rg h).length ≤ _; rw [hadd_len]; exact w.rgL, w.bs, w.bsL, w.cs, w.csL⟩
          obtain ⟨t, hp1, q⟩ := run_hadd x.P x.rg (rk c) h hP hh (by have := w.rgL; omega) hp0
          obtain ⟨r, hr, ef⟩ := see_fin W g gw gn (rk a) (rk b) t (rk d) (rk e) (rk f) hp
          refine ⟨r, hr, ?_⟩
          revert ef
          generalize (okN _).2 = er
          intro ef
          unfold skL skZL at ef
          simp only [k2] at ck ef ⊢
          simp at ef
          simp [getSc, getC, getN, putN, ck, q, ef]
        · rw [if_neg k2] at sp ⊢
          by_cases k3 : x.kind = 3
          · rw [if_pos k3] at sp ⊢
            obtain ⟨hB, hH, hg⟩ := good_chk sp w.bs
            have hga := adds_good hg (plg_in (H := x.H) (h := h) hB.1)
            have W : SkN.W { x with bs := adds x.bs (plg x.B x.H h) } := ⟨w.kind, w.set, w.setL, w.hsL, w.rg, w.rgL, hga.in32 hB.2, by have := hga.len hB.2; show (adds x.bs (plg x.B x.H h)).length ≤ _; omega, w.cs, w.csL⟩
            obtain ⟨r, hr, ef⟩ := see_fin W g gw gn (rk a) (rk b) (rk c) 2 (rk e) (rk f) hp
            refine ⟨r, hr, ?_⟩
            revert ef
            generalize (okN _).2 = er
            intro ef
            have q := fun k hp => run_add x.B x.H x.bs k h hB hH hg hp
            unfold skL skZL at ef
            simp only [k3] at ck ef ⊢
            simp at ef
            simp [getSc, getC, getN, putN, ck, q, ef]
          · rw [if_neg k3] at sp ⊢
            by_cases k4 : x.kind = 4
            · rw [if_pos k4] at sp ⊢
              have W : SkN.W { x with cs := cadd x.R x.C h 1 x.cs } := ⟨w.kind, w.set, w.setL, w.hsL, w.rg, w.rgL, w.bs, w.bsL, cadd_u32 (by omega) w.cs, by show (cadd x.R x.C h 1 x.cs).length ≤ _; rw [cadd_len]; exact w.csL⟩
              obtain ⟨t, hp1, q⟩ := run_cadd x.R x.C h 1 x.cs (rk e) (by omega) (by have := w.csL; omega) w.cs hp0
              obtain ⟨r, hr, ef⟩ := see_fin W g gw gn (rk a) (rk b) (rk c) (rk d) t (rk f) hp
              refine ⟨r, hr, ?_⟩
              revert ef
              generalize (okN _).2 = er
              intro ef
              unfold skL skZL at ef
              simp only [k4] at ck ef ⊢
              simp at ef
              simp [getSc, getC, getN, putN, ck, q, ef]
            · rw [if_neg k4]
              obtain ⟨r, hr, ef⟩ := see_fin w g gw gn (rk a) (rk b) (rk c) (rk d) (rk e) (rk f) hp
              refine ⟨r, hr, ?_⟩
              revert ef
              generalize (okN _).2 = er
              intro ef
              unfold skL skZL at ef
              simp at ef
              simp [getSc, getC, getN, putN, ck, k0, k1, k2, k3, k4, ef]
  · rw [if_pos h1]
    refine ⟨.agg skZL, isSk_zero, ?_⟩
    unfold skA at ck ⊢
    unfold skZL
    simp [getN, putN, ck, h1]
end Go.Proofs.Ytalnoedhacobkaa.AI
