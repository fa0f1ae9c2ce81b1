/- Sketches of any kind: the same, what is of a kind alone, may it be one, may two be merged, both as one, a hash more. -/
import Derived.Test.YtchmioacjkbfcaaGreatEqSketch
import Derived.Test.YtchmioacjkbfcaaGreatSpSet
import Derived.Test.YtchmioacjkbfcaaGreatSpKmv
import Derived.Test.YtchmioacjkbfcaaGreatSpHll
import Derived.Test.YtchmioacjkbfcaaGreatSpBloom
import Derived.Test.YtchmioacjkbfcaaGreatSpCms
import Derived.Test.YtchmioacjkbfcaaGreatSpGaugeB
namespace Go.Proofs.YtchmioacjkbfcaaGreat.AI
open Go
set_option linter.unusedVariables false
set_option linter.unusedSimpArgs false
set_option maxRecDepth 100000

structure SkN where
  kind : Int
  set : List Int
  K : Int
  hs : List Int
  P : Int
  rg : List Int
  B : Int
  H : Int
  bs : List Int
  R : Int
  C : Int
  cs : List Int
  gK : Int
  g : GN
deriving DecidableEq
def gz : Gs := ⟨0, 0, 0, 0, 0, 0, 0, 0, 0, []⟩
theorem gz_W : gz.W := ⟨in0, in0, in0, in0, in0, in0, in0, by decide, by decide, by simp [gz, Ws], by decide⟩
def skZ : SkN := ⟨0, [], 0, [], 0, [], 0, 0, [], 0, 0, [], 0, gz.nf⟩
def skA (x : SkN) (g : Gs) (a b c d e f : Nat) : AV := .agg [.sc (.int .u8 x.kind), S a 1 (LI .u32 x.set), .sc (.int .i64 x.K), S b 1 (LI .u64 x.hs), .sc (.int .i64 x.P), S c 1 (LI .u8 x.rg), .sc (.int .i64 x.B), .sc (.int .i64 x.H), S d 1 (LI .u32 x.bs), .sc (.int .i64 x.R), .sc (.int .i64 x.C), S e 1 (LI .u32 x.cs),
  .sc (.int .i64 x.gK), .sc (.int .u32 g.M), .sc (.int .u32 g.e0), .sc (.int .u32 g.e1), .sc (.int .u32 g.e2), .sc (.int .u32 g.e3), .sc (.int .u32 g.e4), .sc (.int .u32 g.e5), fl g.lo, fl g.hi, S f 1 (LF g.L)]
/-- A sketch's cells. -/
def IsSk (x : SkN) (v : AV) : Prop := ∃ g a b c d e f, g.W ∧ g.nf = x.g ∧ v = skA x g a b c d e f
/-- Within bounds. -/
structure SkN.W (x : SkN) : Prop where
  kind : 0 ≤ x.kind ∧ x.kind < 256
  set : U32 x.set
  setL : x.set.length ≤ 100000
  hsL : x.hs.length ≤ 100000
  rg : ∀ n ∈ x.rg, 0 ≤ n ∧ n < 256
  rgL : x.rg.length ≤ 100000
  bs : U32 x.bs
  bsL : x.bs.length ≤ 100000
  cs : U32 x.cs
  csL : x.cs.length ≤ 100000
theorem skZ_W : skZ.W := ⟨by decide, by simp [skZ, U32], by decide, by decide, by simp [skZ], by decide, by simp [skZ, U32], by decide, by simp [skZ, U32], by decide⟩
/-! ### the same -/
def skEq (x y : SkN) : Prop := x.kind = y.kind ∧ x.set = y.set ∧ (x.K = y.K ∧ x.hs = y.hs) ∧ (x.P = y.P ∧ x.rg = y.rg) ∧ (x.B = y.B ∧ x.H = y.H ∧ x.bs = y.bs) ∧ (x.R = y.R ∧ x.C = y.C ∧ x.cs = y.cs) ∧ x.gK = y.gK ∧ x.g = y.g
instance (x y : SkN) : Decidable (skEq x y) := by unfold skEq; infer_instance
theorem skEq_iff (x y : SkN) : skEq x y ↔ x = y := by
  cases x; cases y
  simp only [skEq, SkN.mk.injEq]
  constructor
  · rintro ⟨h1, h2, ⟨h3, h4⟩, ⟨h5, h6⟩, ⟨h7, h8, h9⟩, ⟨h10, h11, h12⟩, h13, h14⟩
    exact ⟨h1, h2, h3, h4, h5, h6, h7, h8, h9, h10, h11, h12, h13, h14⟩
  · rintro ⟨h1, h2, h3, h4, h5, h6, h7, h8, h9, h10, h11, h12, h13, h14⟩
    exact ⟨h1, h2, ⟨h3, h4⟩, ⟨h5, h6⟩, ⟨h7, h8, h9⟩, ⟨h10, h11, h12⟩, h13, h14⟩
theorem run_sksame {x y : SkN} {v u : AV} (hv : IsSk x v) (hu : IsSk y u) (wx : x.W) (wy : y.W) (hp : Hp) : run cxX 60 [v, u] hp = some (.sc (.bool (decide (x = y))), hp) := by
  obtain ⟨g, a, b, c, d, e, f, gw, gn, rfl⟩ := hv
  obtain ⟨g', a', b', c', d', e', f', gw', gn', rfl⟩ := hu
  have hd : decide (x = y) = decide (skEq x y) := decide_eq_decide.mpr (skEq_iff x y).symm
  have r1 := fun k k' hp => run_ssame x.set y.set k k' hp (by have := wx.setL; omega)
  have r2 := fun k k' hp => run_ksame x.K y.K x.hs y.hs k k' hp (by have := wx.hsL; omega) (by have := wy.hsL; omega)
  have r3 := fun k k' hp => run_hsame x.P y.P x.rg y.rg k k' wx.rg wy.rg hp
  have r4 := fun k k' hp => run_same x.B x.H y.B y.H x.bs y.bs k k' hp (by have := wx.bsL; omega) (by have := wy.bsL; omega)
  have r5 := fun k k' hp => run_csame x.R x.C y.R y.C x.cs y.cs k k' hp (by have := wx.csL; omega)
  have r6 := fun k k' hp => run_gsameD x.gK y.gK g g' k k' gw gw' hp
  rw [hd, E60]
  unfold skA
  by_cases h1 : x.kind = y.kind
  · by_cases h2 : x.set = y.set
    · simp only [eq_true h2, decide_true] at r1
      by_cases h3 : x.K = y.K ∧ x.hs = y.hs
      · simp only [eq_true h3, decide_true] at r2
        by_cases h4 : x.P = y.P ∧ x.rg = y.rg
        · simp only [eq_true h4, decide_true] at r3
          by_cases h5 : x.B = y.B ∧ x.H = y.H ∧ x.bs = y.bs
          · simp only [eq_true h5, decide_true] at r4
            by_cases h6 : x.R = y.R ∧ x.C = y.C ∧ x.cs = y.cs
            · simp only [eq_true h6, decide_true] at r5
              have e : decide (skEq x y) = decide (x.gK = y.gK ∧ x.g = y.g) := decide_eq_decide.mpr ⟨fun h => h.2.2.2.2.2.2, fun h => ⟨h1, h2, h3, h4, h5, h6, h⟩⟩
              rw [gn, gn'] at r6
              rw [e]
              simp [getSc, getC, getN, eq_true h1, r1, r2, r3, r4, r5, r6]
            · simp only [eq_false h6, decide_false] at r5
              rw [decide_eq_false (fun h : skEq x y => h6 h.2.2.2.2.2.1)]
              simp [getSc, getC, getN, eq_true h1, r1, r2, r3, r4, r5]
          · simp only [eq_false h5, decide_false] at r4
            rw [decide_eq_false (fun h : skEq x y => h5 h.2.2.2.2.1)]
            simp [getSc, getC, getN, eq_true h1, r1, r2, r3, r4]
        · simp only [eq_false h4, decide_false] at r3
          rw [decide_eq_false (fun h : skEq x y => h4 h.2.2.2.1)]
          simp [getSc, getC, getN, eq_true h1, r1, r2, r3]
      · simp only [eq_false h3, decide_false] at r2
        rw [decide_eq_false (fun h : skEq x y => h3 h.2.2.1)]
        simp [getSc, getC, getN, eq_true h1, r1, r2]
    · simp only [eq_false h2, decide_false] at r1
      rw [decide_eq_false (fun h : skEq x y => h2 h.2.1)]
      simp [getSc, getC, eq_true h1, r1]
  · rw [decide_eq_false (fun h : skEq x y => h1 h.1)]
    simp [getSc, h1]
theorem run_skSame {x y : SkN} {v u : AV} (hv : IsSk x v) (hu : IsSk y u) (wx : x.W) (wy : y.W) (hp : Hp) : run cxX 19 [v, u] hp = some (.sc (.bool (decide (x = y))), hp) := by
  obtain ⟨g, a, b, c, d, e, f, gw, gn, rfl⟩ := hv
  obtain ⟨g', a', b', c', d', e', f', gw', gn', rfl⟩ := hu
  have s := fun hp => run_sksame (x := x) (y := y) (v := skA x g (rk a) (rk b) (rk c) (rk d) (rk e) (rk f)) (u := skA y g' (rk a') (rk b') (rk c') (rk d') (rk e') (rk f')) ⟨g, _, _, _, _, _, _, gw, gn, rfl⟩ ⟨g', _, _, _, _, _, _, gw', gn', rfl⟩ wx wy hp
  rw [E19]
  unfold skA at s ⊢
  simp [getN, s]
/-! ### of its kind alone -/
def onlyN (x : SkN) : SkN :=
  if x.kind = 0 then { skZ with kind := x.kind, set := x.set }
  else if x.kind = 1 then { skZ with kind := x.kind, K := x.K, hs := x.hs }
  else if x.kind = 2 then { skZ with kind := x.kind, P := x.P, rg := x.rg }
  else if x.kind = 3 then { skZ with kind := x.kind, B := x.B, H := x.H, bs := x.bs }
  else if x.kind = 4 then { skZ with kind := x.kind, R := x.R, C := x.C, cs := x.cs }
  else if x.kind = 5 then { skZ with kind := x.kind, gK := x.gK, g := x.g }
  else { skZ with kind := x.kind }
theorem onlyN_W {x : SkN} (h : x.W) : (onlyN x).W := by
  have z := skZ_W
  unfold onlyN
  repeat' split
  · exact ⟨h.kind, h.set, h.setL, z.hsL, z.rg, z.rgL, z.bs, z.bsL, z.cs, z.csL⟩
  · exact ⟨h.kind, z.set, z.setL, h.hsL, z.rg, z.rgL, z.bs, z.bsL, z.cs, z.csL⟩
  · exact ⟨h.kind, z.set, z.setL, z.hsL, h.rg, h.rgL, z.bs, z.bsL, z.cs, z.csL⟩
  · exact ⟨h.kind, z.set, z.setL, z.hsL, z.rg, z.rgL, h.bs, h.bsL, z.cs, z.csL⟩
  · exact ⟨h.kind, z.set, z.setL, z.hsL, z.rg, z.rgL, z.bs, z.bsL, h.cs, h.csL⟩
  · exact ⟨h.kind, z.set, z.setL, z.hsL, z.rg, z.rgL, z.bs, z.bsL, z.cs, z.csL⟩
  · exact ⟨h.kind, z.set, z.setL, z.hsL, z.rg, z.rgL, z.bs, z.bsL, z.cs, z.csL⟩
theorem run_skonly {x : SkN} {v : AV} (hv : IsSk x v) (hp : Hp) : ∃ r, IsSk (onlyN x) r ∧ run cxX 61 [v] hp = some (r, hp) := by
  obtain ⟨g, a, b, c, d, e, f, gw, gn, rfl⟩ := hv
  rw [E61]
  unfold onlyN
  by_cases h0 : x.kind = 0
  · rw [if_pos h0]
    refine ⟨skA { skZ with kind := x.kind, set := x.set } gz (rk a) 2 2 2 2 2, ⟨gz, _, _, _, _, _, _, gz_W, rfl, rfl⟩, ?_⟩
    simp [skA, skZ, gz, LF, getSc, getC, getN, putN, h0, B61_15_eq]
  · rw [if_neg h0]
    by_cases h1 : x.kind = 1
    · rw [if_pos h1]
      refine ⟨skA { skZ with kind := x.kind, K := x.K, hs := x.hs } gz 2 (rk b) 2 2 2 2, ⟨gz, _, _, _, _, _, _, gz_W, rfl, rfl⟩, ?_⟩
      simp [skA, skZ, gz, LF, getSc, getC, getN, putN, h1, B61_15_eq]
    · rw [if_neg h1]
      by_cases h2 : x.kind = 2
      · rw [if_pos h2]
        refine ⟨skA { skZ with kind := x.kind, P := x.P, rg := x.rg } gz 2 2 (rk c) 2 2 2, ⟨gz, _, _, _, _, _, _, gz_W, rfl, rfl⟩, ?_⟩
        simp [skA, skZ, gz, LF, getSc, getC, getN, putN, h2, B61_15_eq]
      · rw [if_neg h2]
        by_cases h3 : x.kind = 3
        · rw [if_pos h3]
          refine ⟨skA { skZ with kind := x.kind, B := x.B, H := x.H, bs := x.bs } gz 2 2 2 (rk d) 2 2, ⟨gz, _, _, _, _, _, _, gz_W, rfl, rfl⟩, ?_⟩
          simp [skA, skZ, gz, LF, getSc, getC, getN, putN, h3, B61_15_eq]
        · rw [if_neg h3]
          by_cases h4 : x.kind = 4
          · rw [if_pos h4]
            refine ⟨skA { skZ with kind := x.kind, R := x.R, C := x.C, cs := x.cs } gz 2 2 2 2 (rk e) 2, ⟨gz, _, _, _, _, _, _, gz_W, rfl, rfl⟩, ?_⟩
            simp [skA, skZ, gz, LF, getSc, getC, getN, putN, h4, B61_15_eq]
          · rw [if_neg h4]
            by_cases h5 : x.kind = 5
            · rw [if_pos h5]
              refine ⟨skA { skZ with kind := x.kind, gK := x.gK, g := x.g } g 2 2 2 2 2 (rk f), ⟨g, _, _, _, _, _, _, gw, gn, rfl⟩, ?_⟩
              simp [skA, skZ, gz, LF, getSc, getC, getN, putN, h5, B61_15_eq]
            · rw [if_neg h5]
              refine ⟨skA { skZ with kind := x.kind } gz 2 2 2 2 2 2, ⟨gz, _, _, _, _, _, _, gz_W, rfl, rfl⟩, ?_⟩
              simp [skA, skZ, gz, LF, getSc, getC, getN, putN, h0, h1, h2, h3, h4, h5, B61_15_eq]
/-! ### may it be one -/
def checkN (x : SkN) : Int :=
  if 6 ≤ x.kind then 5 else if x ≠ onlyN x then 4
  else if x.kind = 0 then schk x.set else if x.kind = 1 then kchk x.K x.hs else if x.kind = 2 then hchk x.P x.rg else if x.kind = 3 then bchk x.B x.H x.bs else if x.kind = 4 then cchk x.R x.C x.cs else gchk x.gK x.g
theorem isSk_tags {x : SkN} {g : Gs} (gw : g.W) (gn : g.nf = x.g) (a b c d e f : Nat) : IsSk x (skA x g a b c d e f) := ⟨g, a, b, c, d, e, f, gw, gn, rfl⟩
theorem IsSk.vl {x : SkN} {v : AV} (h : IsSk x v) : vlF v = true ∧ vlV v = true := by
  obtain ⟨g, a, b, c, d, e, f, gw, gn, rfl⟩ := h
  unfold skA
  constructor <;> simp
theorem IsSk.ro {x : SkN} {v : AV} (h : IsSk x v) : IsSk x (ro v) := by
  obtain ⟨g, a, b, c, d, e, f, gw, gn, rfl⟩ := h
  refine ⟨g, rk a, rk b, rk c, rk d, rk e, rk f, gw, gn, ?_⟩
  simp [skA]
theorem run_skcheck {x : SkN} {v : AV} (hv : IsSk x v) (w : x.W) (hp : Hp) : run cxX 23 [v] hp = some (.sc (.int .i64 (checkN x)), hp) := by
  obtain ⟨g, a, b, c, d, e, f, gw, gn, rfl⟩ := hv
  obtain ⟨o, ho, hr⟩ := run_skonly (isSk_tags gw gn (rk a) (rk b) (rk c) (rk d) (rk e) (rk f)) hp0
  have sm := run_sksame (isSk_tags gw gn (rk a) (rk b) (rk c) (rk d) (rk e) (rk f)) ho.ro w (onlyN_W w) hp0
  have vo := ho.vl
  have vo' := ho.ro.vl
  have hnt : noTup o = some () := by
    obtain ⟨g, a, b, c, d, e, f, gw, gn, rfl⟩ := ho
    rfl
  have hrr : AI.ro (AI.ro o) = AI.ro o := by
    obtain ⟨g, a, b, c, d, e, f, gw, gn, rfl⟩ := ho
    simp [skA]
  have r1 := fun k hp => run_scheck x.set k hp
  have r2 := fun k hp => run_kcheck x.K x.hs k (by have := w.hsL; omega) hp
  have r3 := fun k hp => run_hcheck x.P x.rg k (by have := w.rgL; omega) w.rg hp
  have r4 := fun k hp => run_check x.B x.H x.bs k (by have := w.bsL; omega) w.bs hp
  have r5 := fun k hp => run_ccheck x.R x.C x.cs k (by have := w.csL; omega) hp
  have r6 := fun k hp => run_gcheck x.gK g k gw hp
  rw [gn] at r6
  rw [E23]
  unfold checkN
  unfold skA at hr sm ⊢
  by_cases h6 : 6 ≤ x.kind
  · simp [getSc, h6]
  · rw [if_neg h6]
    by_cases ho' : x = onlyN x
    · rw [if_neg (fun h => h ho')]
      simp only [eq_true ho', decide_true] at sm
      by_cases h0 : x.kind = 0
      · simp only [h0] at hr sm
        simp [getSc, getC, getN, h6, hr, vo, vo', hnt, sm, h0, r1]
      · by_cases h1 : x.kind = 1
        · simp only [h1] at hr sm
          simp [getSc, getC, getN, h6, hr, vo, vo', hnt, sm, h1, r2]
        · by_cases h2 : x.kind = 2
          · simp only [h2] at hr sm
            simp [getSc, getC, getN, h6, hr, vo, vo', hnt, sm, h2, r3]
          · by_cases h3 : x.kind = 3
            · simp only [h3] at hr sm
              simp [getSc, getC, getN, h6, hr, vo, vo', hnt, sm, h3, r4]
            · by_cases h4 : x.kind = 4
              · simp only [h4] at hr sm
                simp [getSc, getC, getN, h6, hr, vo, vo', hnt, sm, h4, r5]
              · simp [getSc, getC, getN, h6, hr, vo, vo', hnt, sm, h0, h1, h2, h3, h4, r6]
    · rw [if_pos ho']
      simp only [eq_false ho', decide_false] at sm
      simp [getSc, getC, getN, h6, hr, vo, vo', hnt, sm]
end Go.Proofs.YtchmioacjkbfcaaGreat.AI
