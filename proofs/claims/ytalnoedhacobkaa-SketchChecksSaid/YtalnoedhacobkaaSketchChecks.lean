/- Sketches: whether it may be one; what has anything of another kind may not. -/
import Derived.Test.YtalnoedhacobkaaEqZSketchChecks
import Derived.Test.YtalnoedhacobkaaSpLaw17C
import Derived.Test.YtalnoedhacobkaaSpArgP
namespace Go.Proofs.Ytalnoedhacobkaa.AI
open Go
set_option linter.unusedVariables false
set_option linter.unusedSimpArgs false
set_option maxRecDepth 100000

theorem gS7c (a b c d e f g : AV) : getN [a, b, c, d, e, f, g] 0 7 = some [a, b, c, d, e, f, g] := rfl
/-- A sketch of a kind has something of it, but for a set. -/
theorem fine_some {a : SkN} (ha : Fine a) : (a.kind = 1 → a.K ≠ 0) ∧ (a.kind = 2 → a.P ≠ 0) ∧ (a.kind = 3 → a.B ≠ 0) ∧ (a.kind = 4 → a.R ≠ 0) ∧ (a.kind = 5 → a.gK ≠ 0) := by
  obtain ⟨kd, on, sp⟩ := checkN_ok.mp ha.c
  refine ⟨fun k => ?_, fun k => ?_, fun k => ?_, fun k => ?_, fun k => ?_⟩
  · simp [k] at sp; have := (kchk_ok.mp sp).1; omega
  · simp [k] at sp; have := (hchk_ok.mp sp).1; omega
  · simp [k] at sp; have := (good_chk sp ha.w.bs).1; omega
  · simp [k] at sp; have := (cchk_ok.mp sp).1; omega
  · simp [k] at sp; have := (gchk_ok.mp sp).1; omega
theorem chk_form {x : SkN} (h : x.kind < 6) (hn : x ≠ onlyN x) : checkN x = 4 := by
  unfold checkN
  rw [if_neg (by omega), if_pos hn]
theorem chk_turn {a : SkN} (ha : Fine a) (q : Int) (hq : 0 ≤ q ∧ q < 8) : checkN { a with kind := q } = if 5 < q then 5 else if q ≠ a.kind then (if 0 < a.set.length ∨ a.kind ≠ 0 then 4 else 2) else 0 := by
  obtain ⟨kd, on, sp⟩ := checkN_ok.mp ha.c
  obtain ⟨s1, s2, s3, s4, s5⟩ := fine_some ha
  obtain ⟨a0, a1, a2, a3, a4, a5⟩ := onlyN_idem a on
  have c := six ha.w kd
  by_cases h5 : 5 < q
  · rw [if_pos h5]
    unfold checkN
    rw [if_pos (by show (6 : Int) ≤ q; omega)]
  · rw [if_neg h5]
    by_cases hk : q = a.kind
    · rw [if_neg (by simpa using hk)]
      subst hk
      exact ha.c
    · rw [if_pos hk]
      by_cases hs : 0 < a.set.length ∨ a.kind ≠ 0
      · rw [if_pos hs]
        refine chk_form (by show q < 6; omega) (fun h => ?_)
        obtain ⟨b0, b1, b2, b3, b4, b5⟩ := onlyN_idem _ h
        simp only at b0 b1 b2 b3 b4 b5
        rcases c with k | k | k | k | k | k
        · have e := b0 (by omega)
          rcases hs with hs | hs
          · rw [e] at hs; simp at hs
          · exact hs k
        · exact s1 k (b1 (by omega)).1
        · exact s2 k (b2 (by omega)).1
        · exact s3 k (b3 (by omega)).1
        · exact s4 k (b4 (by omega)).1
        · exact s5 k (b5 (by omega)).1
      · rw [if_neg hs]
        have k0 : a.kind = 0 := by
          by_cases h : a.kind = 0
          · exact h
          · exact absurd (.inr h) hs
        have e0 : a.set = [] := by
          have : ¬(0 < a.set.length) := fun h => hs (.inl h)
          exact List.length_eq_zero_iff.mp (by omega)
        have e : ({ a with kind := q } : SkN) = { skZ with kind := q } := by
          rw [on]
          simp [onlyN, k0, e0, skZ]
        rw [e]
        have c' : q = 1 ∨ q = 2 ∨ q = 3 ∨ q = 4 ∨ q = 5 := by omega
        rcases c' with rfl | rfl | rfl | rfl | rfl <;> decide
/-- One with something of another. -/
def mixN (a b : SkN) : SkN :=
  if b.kind = 0 then { a with set := [1] } else if b.kind = 1 then { a with K := b.K, hs := b.hs } else if b.kind = 2 then { a with P := b.P, rg := b.rg } else if b.kind = 3 then { a with B := b.B, H := b.H, bs := b.bs } else if b.kind = 4 then { a with R := b.R, C := b.C, cs := b.cs } else { a with gK := b.gK, g := b.g }
theorem mix_same {a b : SkN} (ha : Fine a) (hb : Fine b) (h : a.kind = b.kind) (h0 : b.kind ≠ 0) : mixN a b = b := by
  obtain ⟨kd, on, sp⟩ := checkN_ok.mp ha.c
  obtain ⟨kd', on', sp'⟩ := checkN_ok.mp hb.c
  conv => rhs; rw [on']
  unfold mixN
  rw [on]
  rcases six hb.w kd' with k | k | k | k | k | k
  · exact absurd k h0
  all_goals simp [onlyN, h, k]
theorem mix_W {a b : SkN} (ha : Fine a) (hb : Fine b) : (mixN a b).W := by
  have w := ha.w
  have v := hb.w
  unfold mixN
  repeat' split
  · exact ⟨w.kind, by intro n hn; simp at hn; omega, by simp, w.hsL, w.rg, w.rgL, w.bs, w.bsL, w.cs, w.csL⟩
  · exact ⟨w.kind, w.set, w.setL, v.hsL, w.rg, w.rgL, w.bs, w.bsL, w.cs, w.csL⟩
  · exact ⟨w.kind, w.set, w.setL, w.hsL, v.rg, v.rgL, w.bs, w.bsL, w.cs, w.csL⟩
  · exact ⟨w.kind, w.set, w.setL, w.hsL, w.rg, w.rgL, v.bs, v.bsL, w.cs, w.csL⟩
  · exact ⟨w.kind, w.set, w.setL, w.hsL, w.rg, w.rgL, w.bs, w.bsL, v.cs, v.csL⟩
  · exact ⟨w.kind, w.set, w.setL, w.hsL, w.rg, w.rgL, w.bs, w.bsL, w.cs, w.csL⟩
theorem chk_mix {a b : SkN} (ha : Fine a) (hb : Fine b) : (checkN (mixN a b) = 4) ↔ ¬(a.kind = b.kind) := by
  obtain ⟨kd, on, sp⟩ := checkN_ok.mp ha.c
  obtain ⟨kd', on', sp'⟩ := checkN_ok.mp hb.c
  obtain ⟨s1, s2, s3, s4, s5⟩ := fine_some hb
  by_cases h : a.kind = b.kind
  · have key : checkN (mixN a b) = 0 := by
      by_cases h0 : b.kind = 0
      · have e : mixN a b = { skZ with set := [1] } := by
          unfold mixN
          rw [if_pos h0, on]
          simp [onlyN, h, h0, skZ]
        rw [e]; decide
      · rw [mix_same ha hb h h0]; exact hb.c
    rw [key]
    exact ⟨fun e => absurd e (by decide), fun e => absurd h e⟩
  · refine ⟨fun _ => h, fun _ => ?_⟩
    have mk : (mixN a b).kind = a.kind := by unfold mixN; repeat' split
                                             all_goals rfl
    refine chk_form (by rw [mk]; exact kd) (fun e => ?_)
    obtain ⟨b0, b1, b2, b3, b4, b5⟩ := onlyN_idem _ e
    rw [mk] at b0 b1 b2 b3 b4 b5
    unfold mixN at b0 b1 b2 b3 b4 b5
    rcases six hb.w kd' with k | k | k | k | k | k
    · simp [k] at b0; omega
    · simp [k] at b1; exact s1 k (b1 (by omega)).1
    · simp [k] at b2; exact s2 k (b2 (by omega)).1
    · simp [k] at b3; exact s3 k (b3 (by omega)).1
    · simp [k] at b4; exact s4 k (b4 (by omega)).1
    · simp [k] at b5; exact s5 k (b5 (by omega)).1
theorem checks28 {a b : SkN} (ha : Fine a) (hb : Fine b) (q : Int) (hq : 0 ≤ q ∧ q < 8) (A B X M : List AV) (ca : Cl a (A.map ro1)) (cb : Cl b (B.map ro1)) (cx : Cl { a with kind := q } (X.map ro1)) (cm : Cl (mixN a b) (M.map ro1)) (la : A.length = 23) (lx : X.length = 23) (lm : M.length = 23) (hp : Hp) :
    B11_28 (.int .i64 (checkN { a with kind := q })) A B X M hp = some (.sc (.bool true), hp) := by
  have wq : SkN.W { a with kind := q } := ⟨by show 0 ≤ q ∧ q < 256; omega, ha.w.set, ha.w.setL, ha.w.hsL, ha.w.rg, ha.w.rgL, ha.w.bs, ha.w.bsL, ha.w.cs, ha.w.csL⟩
  have c1 := run_skcheck cm.sk (mix_W ha hb) hp0
  have c2 := run_skcheck cx.sk wq hp0
  have sm := run_skSame ca.sk ca.sk ha.w ha.w hp0
  have sx := run_skSame ca.sk cx.sk ha.w wq hp0
  simp only [decide_true] at sm
  have ea : decide (a = { a with kind := q }) = decide (a.kind = q) := decide_eq_decide.mpr ⟨fun h => by rw [h], fun h => by subst h; rfl⟩
  rw [ea] at sx
  have hm := chk_mix ha hb
  have k0 := ca.k0
  have k1 := cb.k0
  have k2 := cx.k0
  rw [getSc_map] at k0 k1 k2
  simp only at k2
  have em : decide (checkN (mixN a b) = 4) = !decide (a.kind = b.kind) := by
    by_cases h : a.kind = b.kind
    · rw [decide_eq_false (fun e => hm.mp e h), decide_eq_true h]; rfl
    · rw [decide_eq_true (hm.mpr h), decide_eq_false h]; rfl
  have eq' : decide (q = a.kind) = decide (a.kind = q) := decide_eq_decide.mpr ⟨Eq.symm, Eq.symm⟩
  generalize checkN (mixN a b) = e1 at *
  generalize checkN { a with kind := q } = e2 at *
  rw [B11_28_eq]
  simp [-List.map_map, -List.all_map, -List.all_eq_true, getN_full, la, lx, lm, c1, c2, ca.vl, ca.ro, cb.vl, cb.ro, cx.vl, cx.ro, cm.vl, cm.ro, k0, k1, k2, sm, sx, em, eq']
theorem checks21 {a b : SkN} (ha : Fine a) (hb : Fine b) (q : Int) (hq : 0 ≤ q ∧ q < 8) (g : Gs) (gw : g.W) (gn : g.nf = a.g) (t1 t2 t3 t4 t5 t6 u1 u2 u3 u4 u5 u6 : Nat) (B M : List AV) (cb : Cl b (B.map ro1)) (cm : Cl (mixN a b) (M.map ro1)) (lm : M.length = 23) (hp : Hp) :
    B11_21 (skL a g t1 t2 t3 t4 t5 t6) B (skL { a with kind := q } g u1 u2 u3 u4 u5 u6) M hp = some (.sc (.bool true), hp) := by
  have ca : Cl a ((skL a g t1 t2 t3 t4 t5 t6).map ro1) := ⟨by have := isSk_tags gw gn (rk t1) (rk t2) (rk t3) (rk t4) (rk t5) (rk t6); unfold skA at this; unfold skL; simpa using this, rfl, by unfold skL; simp, by unfold skL; simp, by unfold skL; simp [getSc]⟩
  have cx : Cl { a with kind := q } ((skL { a with kind := q } g u1 u2 u3 u4 u5 u6).map ro1) := ⟨by have := isSk_tags (x := { a with kind := q }) gw gn (rk u1) (rk u2) (rk u3) (rk u4) (rk u5) (rk u6); unfold skA at this; unfold skL; simpa using this, rfl, by unfold skL; simp, by unfold skL; simp, by unfold skL; simp [getSc]⟩
  have fin := checks28 ha hb q hq (skL a g t1 t2 t3 t4 t5 t6) B (skL { a with kind := q } g u1 u2 u3 u4 u5 u6) M ca cb cx cm rfl rfl lm hp
  rw [chk_turn ha q hq] at fin
  have ka : getSc (skL a g t1 t2 t3 t4 t5 t6) 0 = some (.int .u8 a.kind) := rfl
  have kx : getSc (skL { a with kind := q } g u1 u2 u3 u4 u5 u6) 0 = some (.int .u8 q) := rfl
  have k1 : getC (skL a g t1 t2 t3 t4 t5 t6) 1 = some (S t1 1 (LI .u32 a.set)) := rfl
  generalize skL a g t1 t2 t3 t4 t5 t6 = A at *
  generalize skL { a with kind := q } g u1 u2 u3 u4 u5 u6 = X at *
  rw [B11_21_eq]
  by_cases h5 : 5 < q
  · rw [if_pos h5] at fin
    simp [kx, h5, fin]
  · rw [if_neg h5] at fin
    by_cases hk : q = a.kind
    · rw [if_neg (by simpa using hk)] at fin
      simp [kx, ka, h5, hk, B11_26_eq, fin]
      have h5' : ¬(5 < a.kind) := by omega
      simp [h5', kx, ka, hk, B11_26_eq, fin]
    · rw [if_pos hk] at fin
      by_cases hs : 0 < a.set.length
      · rw [if_pos (.inl hs)] at fin
        simp [kx, ka, k1, h5, hk, hs, B11_25_eq, fin]
      · by_cases h0 : a.kind = 0
        · rw [if_neg (by rintro (h | h); exact hs h; exact h h0)] at fin
          have hq0 : ¬(q = 0) := by omega
          simp [kx, ka, k1, h5, hk, hs, h0, hq0, B11_26_eq, fin]
          try (have e0 : a.set = [] := List.length_eq_zero_iff.mp (by omega)
               simp [e0, kx, ka, k1, h5, hk, hs, h0, hq0, B11_26_eq, fin])
        · rw [if_pos (.inr h0)] at fin
          simp [kx, ka, k1, h5, hk, hs, h0, B11_25_eq, fin]
          try (have e0 : a.set = [] := List.length_eq_zero_iff.mp (by omega)
               simp [e0, kx, ka, k1, h5, hk, hs, h0, B11_25_eq, fin])
theorem skL_cl {x : SkN} {g : Gs} (gw : g.W) (gn : g.nf = x.g) (a b c d e f : Nat) : Cl x ((skL x g a b c d e f).map ro1) :=
  ⟨by have := isSk_tags gw gn (rk a) (rk b) (rk c) (rk d) (rk e) (rk f); unfold skA at this; unfold skL; simpa using this, rfl, by unfold skL; simp, by unfold skL; simp, by unfold skL; simp [getSc]⟩
theorem checks5 (s t : Sm) (q : Int) (hq : 0 ≤ q ∧ q < 256) (k1 k2 k3 k4 : Nat) (oks : s.Ok) (okt : t.Ok) (hs : s.hs.length ≤ 40 ∧ s.fl.length ≤ 40) (ht : t.hs.length ≤ 40 ∧ t.fl.length ≤ 40) (hp : Hp) :
    B11_5 (.int .u8 q) [.sc (.int .u8 s.kind), .sc (.int .u8 s.A), .sc (.int .u8 s.B), .sc (.int .u16 s.wide), .sc (.bool s.few), S (rk k1) 1 (LI .u64 s.hs), S (rk k2) 2 (LP s.fl)] [.sc (.int .u8 t.kind), .sc (.int .u8 t.A), .sc (.int .u8 t.B), .sc (.int .u16 t.wide), .sc (.bool t.few), S (rk k3) 1 (LI .u64 t.hs), S (rk k4) 2 (LP t.fl)] hp = some (.sc (.bool true), hp) := by
  obtain ⟨r, hr, e⟩ := run_sketch s (rk k1) (rk k2) oks hs.1 hs.2 hp0
  obtain ⟨r', hr', e'⟩ := run_sketch t (rk k3) (rk k4) okt ht.1 ht.2 hp0
  have fx := sketchN_fine s oks hs.1 hs.2
  have fy := sketchN_fine t okt ht.1 ht.2
  generalize sketchN s = x at *
  generalize sketchN t = y at *
  obtain ⟨g, a, b, c, d, e0, f, gw, gn, rfl⟩ := hr
  obtain ⟨g', a', b', c', d', e0', f', gw', gn', rfl⟩ := hr'
  have r8 : ∀ t a b, binV Go.Proofs.Try.prog .rem t a b (.int .u8 q) (.int .u8 8) = some (.int .u8 (q % 8)) := by
    intro t a b; rw [binV_rem _ _ _ _ _ _ _ (by omega), tmod_pos hq.1]
  have fin := fun t1 t2 t3 t4 t5 t6 (G : Gs) (gw2 : G.W) (gn2 : G.nf = (mixN x y).g) => checks21 fx fy (q % 8) (by omega) g gw gn a b c d e0 f (rk a) (rk b) (rk c) (rk d) (rk e0) (rk f) (skL y g' a' b' c' d' e0' f') (skL (mixN x y) G t1 t2 t3 t4 t5 t6) (skL_cl gw' gn' _ _ _ _ _ _) (skL_cl gw2 gn2 _ _ _ _ _ _) rfl hp
  obtain ⟨kd', on', sp'⟩ := checkN_ok.mp fy.c
  rw [B11_5_eq]
  unfold mixN at fin
  unfold skL at fin
  unfold skA at e e'
  rcases six fy.w kd' with k | k | k | k | k | k
  · simp [k] at fin
    have fin := fin 1 (rk b) (rk c) (rk d) (rk e0) (rk f) g gw gn
    have l1 : LI .u32 [1] = [.sc (.int .u32 1)] := rfl
    rw [l1] at fin
    simp [gS7c, e, e', putN_full, getSc, k, r8]
    simp [getN, putN]
    simpa using fin
  · simp [k] at fin
    have fin := fin (rk a) (rk b') (rk c) (rk d) (rk e0) (rk f) g gw gn
    simp [gS7c, e, e', putN_full, getSc, k, r8]
    simp [getN, putN, fin]
  · simp [k] at fin
    have fin := fin (rk a) (rk b) (rk c') (rk d) (rk e0) (rk f) g gw gn
    simp [gS7c, e, e', putN_full, getSc, k, r8]
    simp [getN, putN, fin]
  · simp [k] at fin
    have fin := fin (rk a) (rk b) (rk c) (rk d') (rk e0) (rk f) g gw gn
    simp [gS7c, e, e', putN_full, getSc, k, r8]
    simp [getN, putN, fin]
  · simp [k] at fin
    have fin := fin (rk a) (rk b) (rk c) (rk d) (rk e0') (rk f) g gw gn
    simp [gS7c, e, e', putN_full, getSc, k, r8]
    simp [getN, putN, fin]
  · simp [k] at fin
    have fin := fin (rk a) (rk b) (rk c) (rk d) (rk e0) (rk f') g' gw' gn'
    simp [gS7c, e, e', putN_full, getSc, k, r8]
    simp [getN, putN, fin]
theorem run_skchecks (s t : Sm) (q : Int) (hq : 0 ≤ q ∧ q < 256) (k1 k2 k3 k4 : Nat) (oks : s.Ok) (okt : t.Ok) (hp : Hp) : run cxX 11 [smA s k1 k2, smA t k3 k4, .sc (.int .u8 q)] hp = some (.sc (.bool true), hp) := by
  have li := fun k k' hp => run_light s k k' hp
  have li' := fun k k' hp => run_light t k k' hp
  have b4 : B11_4 hp = some (.sc (.bool true), hp) := B11_4_eq hp
  rw [E11]
  by_cases hs : s.hs.length ≤ 40 ∧ s.fl.length ≤ 40
  · simp only [eq_true hs, decide_true] at li
    by_cases ht : t.hs.length ≤ 40 ∧ t.fl.length ≤ 40
    · simp only [eq_true ht, decide_true] at li'
      have fin := checks5 s t q hq k1 k2 k3 k4 oks okt hs ht hp
      simp [li, li', run_awake17, gS7c, fin]
    · simp only [eq_false ht, decide_false] at li'
      simp [li, li', run_awake17, gS7c, b4]
  · simp only [eq_false hs, decide_false] at li
    simp [li, run_awake17, gS7c, b4]
theorem law_SketchChecks (a : Int) (wa : InK .u8 a) (b : Int) (wb : InK .u8 b) (c : Int) (wc : InK .u8 c) (d : Int) (wd : InK .u16 d) (f : Bool) (k : Nat) (l : List Int) (wl : ∀ n ∈ l, InK .u64 n) (k' : Nat) (m : List (Int × Int)) (wm : ∀ p ∈ m, InI p)
    (a2 : Int) (wa2 : InK .u8 a2) (b2 : Int) (wb2 : InK .u8 b2) (c2 : Int) (wc2 : InK .u8 c2) (d2 : Int) (wd2 : InK .u16 d2) (f2 : Bool) (k2 : Nat) (l2 : List Int) (wl2 : ∀ n ∈ l2, InK .u64 n) (k2' : Nat) (m2 : List (Int × Int)) (wm2 : ∀ p ∈ m2, InI p) (q : Int) (wq : InK .u8 q) (hp : Hp) :
    ∃ hp', run cxX 11 [.agg [.sc (.int .u8 a), .sc (.int .u8 b), .sc (.int .u8 c), .sc (.int .u16 d), .sc (.bool f), S k 1 (LI .u64 l), S k' 2 (LP m)], .agg [.sc (.int .u8 a2), .sc (.int .u8 b2), .sc (.int .u8 c2), .sc (.int .u16 d2), .sc (.bool f2), S k2 1 (LI .u64 l2), S k2' 2 (LP m2)], .sc (.int .u8 q)] hp = some (.sc (.bool true), hp') :=
  ⟨hp, run_skchecks ⟨a, b, c, d, f, l, m⟩ ⟨a2, b2, c2, d2, f2, l2, m2⟩ q wq.u8 k k' k2 k2' ⟨wa.u8, wb.u8, wc.u8, wd.u16, fun n hn => (wl n hn).u64, wm⟩ ⟨wa2.u8, wb2.u8, wc2.u8, wd2.u16, fun n hn => (wl2 n hn).u64, wm2⟩ hp⟩
end Go.Proofs.Ytalnoedhacobkaa.AI
