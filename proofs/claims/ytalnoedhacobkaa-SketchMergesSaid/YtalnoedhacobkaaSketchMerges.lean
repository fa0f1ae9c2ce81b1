/- Sketches: two as one, or why not. -/
import Derived.Test.YtalnoedhacobkaaEqZSketchMerges
import Derived.Test.YtalnoedhacobkaaSpLaw17C
import Derived.Test.YtalnoedhacobkaaSpArgP
namespace Go.Proofs.Ytalnoedhacobkaa.AI
open Go
set_option linter.unusedVariables false
set_option linter.unusedSimpArgs false
set_option maxRecDepth 100000

theorem gS7m (a b c d e f g : AV) : getN [a, b, c, d, e, f, g] 0 7 = some [a, b, c, d, e, f, g] := rfl
/-- What is wanted. -/
theorem merges28 (m : SkN) (e : Int) (M : List AV) (cm : Cl m M) (wm : m.W) (o : SkN) (wo : o.W) (h : (4096 < o.set.length ∧ e = 7) ∨ (o.set.length ≤ 4096 ∧ e = 0 ∧ m = o)) (g : Gs) (gw : g.W) (gn : g.nf = o.g) (a b c d e' f : Nat) (hp : Hp) :
    B9_28 (.int .i64 e) M (skL o g a b c d e' f) hp = some (.sc (.bool true), hp) := by
  have sm := run_skSame cm.sk (isSk_tags gw gn (rk a) (rk b) (rk c) (rk d) (rk e') (rk f)) wm wo hp0
  have g23 : ∀ (l : List AV), l.length = 23 → getN l 0 23 = some l := fun l hl => getN_full l 23 hl
  have l1 := cm.len; have v1 := cm.vl; have r1 := cm.ro
  rw [B9_28_eq]
  unfold skL
  rcases h with ⟨h1, rfl⟩ | ⟨h1, rfl, rfl⟩
  · have h1' : (4096 : Int) < (o.set.length : Int) := by omega
    simp [getC, h1']
  · have h1' : ¬((4096 : Int) < (m.set.length : Int)) := by omega
    unfold skA at sm
    simp only [decide_true] at sm
    simp [-List.map_map, -List.all_map, -List.all_eq_true, getC, h1', g23, l1, v1, r1, sm]
theorem merges12 {x y : SkN} (hx : Fine x) (hy : Fine y) (M : List AV) (cm : Cl (mergeN x y).1 M) (g g' : Gs) (gw : g.W) (gn : g.nf = x.g) (gw' : g'.W) (gn' : g'.nf = y.g) (a b c d e f a' b' c' d' e' f' : Nat) (hp : Hp) :
    B9_12 (.bool (likeN x y)) (.int .i64 (mergeN x y).2) (skL x g a b c d e f) (skL y g' a' b' c' d' e' f') M hp = some (.sc (.bool true), hp) := by
  have em := mergeN_eq hx hy
  have g23 : ∀ (l : List AV), l.length = 23 → getN l 0 23 = some l := fun l hl => getN_full l 23 hl
  have l1 := cm.len; have v1 := cm.vl; have r1 := cm.ro
  cases hl : likeN x y with
  | false =>
    rw [hl] at em
    simp only [if_true] at em
    rw [em] at cm ⊢
    have sz : IsSk skZ (.agg [.sc (.int .u8 0), S 2 1 [], .sc (.int .i64 0), S 2 1 [], .sc (.int .i64 0), S 2 1 [], .sc (.int .i64 0), .sc (.int .i64 0), S 2 1 [], .sc (.int .i64 0), .sc (.int .i64 0), S 2 1 [], .sc (.int .i64 0), .sc (.int .u32 0), .sc (.int .u32 0), .sc (.int .u32 0), .sc (.int .u32 0), .sc (.int .u32 0), .sc (.int .u32 0), .sc (.int .u32 0), fl 0, fl 0, S 2 1 []]) := ⟨gz, 2, 2, 2, 2, 2, 2, gz_W, rfl, rfl⟩
    have sm := run_skSame cm.sk sz skZ_W skZ_W hp0
    simp only [decide_true] at sm
    rw [B9_12_eq]
    simp [-List.map_map, -List.all_map, -List.all_eq_true, g23, l1, v1, r1, sm]
  | true =>
    rw [hl] at em
    have Wx := hx.W2; have Wy := hy.W2
    have W := mergeN0_W Wx Wy
    have a1 := Wx.set2; have a2 := Wy.set2; have a3 := Wx.hs2; have a4 := Wy.hs2; have a5 := Wx.bs2; have a6 := Wy.bs2
    obtain ⟨kd, on, sp⟩ := checkN_ok.mp hx.c
    have wm : (mergeN x y).1.W := by
      rw [em]; simp only [Bool.true_eq_false, if_false]
      split
      · exact skZ_W
      · exact W
    have hset : x.kind ≠ 0 → (mergeN0 x y).set = [] := fun k => by
      have := (onlyN_idem _ (mergeN0_only (x := x) y)).1
      rw [mergeN0_kind] at this
      exact this k
    have key : (4096 < (mergeN0 x y).set.length ∧ (mergeN x y).2 = 7) ∨ ((mergeN0 x y).set.length ≤ 4096 ∧ (mergeN x y).2 = 0 ∧ (mergeN x y).1 = mergeN0 x y) := by
      rw [em]
      simp only [Bool.true_eq_false, if_false]
      by_cases k : x.kind = 0
      · have es : (mergeN0 x y).set = mrg x.set y.set := by unfold mergeN0; rw [if_pos k]
        rw [es]
        by_cases h : 4096 < (mrg x.set y.set).length
        · rw [if_pos ⟨k, h⟩]; exact .inl ⟨h, rfl⟩
        · rw [if_neg (fun h' => h h'.2)]; exact .inr ⟨by omega, rfl, rfl⟩
      · rw [hset k, if_neg (fun h' => k h'.1)]
        exact .inr ⟨by simp, rfl, rfl⟩
    have q1 := fun k k' hp => run_or x.set y.set k k' hp (by omega)
    have q2 := fun (B' : AV) k k' hp => run_kmerge x.K B' x.hs y.hs k k' hp (by omega)
    obtain ⟨t3, hp3, q3⟩ := run_hmerge x.P (.sc (.int .i64 y.P)) x.rg y.rg (rk c) (rk c') hp0 (by have := hx.w.rgL; omega) (by have := hy.w.rgL; omega)
    have q4 := fun (B' H' : Value) k k' hp => run_merge (.int .i64 x.B) (.int .i64 x.H) B' H' x.bs y.bs k k' hp (by omega)
    obtain ⟨t5, hp5, q5⟩ := run_cmerge x.R x.C (.sc (.int .i64 y.R)) (.sc (.int .i64 y.C)) x.cs y.cs (rk e) (rk e') hp0 (by have := hx.w.csL; omega) (by have := hy.w.csL; omega) hx.w.cs hy.w.cs
    have q6 := fun k k' hp => run_gmW x.gK y.gK k k' gw gw' hp
    have fin := fun g t1 t2 t3 t4 t5 t6 gw gn => merges28 (mergeN x y).1 (mergeN x y).2 M cm wm (mergeN0 x y) W key g gw gn t1 t2 t3 t4 t5 t6 hp
    generalize (mergeN x y).2 = er at fin ⊢
    clear key hset em wm cm
    rw [B9_12_eq]
    have W' := Wx.gK2
    unfold mergeN0 at fin
    rcases six hx.w kd with k | k | k | k | k | k
    · simp only [k, if_true] at fin
      have fin := fin gz 2 2 2 2 2 2 gz_W rfl
      unfold skL at fin ⊢
      simp [skZ, gz, LF] at fin
      simp [getSc, getC, getN, putN, k, q1, fin]
    · simp [k] at fin
      have fin := fin gz 2 2 2 2 2 2 gz_W rfl
      unfold skL at fin ⊢
      simp [skZ, gz, LF] at fin
      simp [getSc, getC, getN, putN, k, q2, fin]
    · simp [k] at fin
      have fin := fin gz 2 2 t3 2 2 2 gz_W rfl
      unfold skL at fin ⊢
      simp [skZ, gz, LF] at fin
      simp [getSc, getC, getN, putN, k, q3, fin]
    · simp [k] at fin
      have fin := fin gz 2 2 2 2 2 2 gz_W rfl
      unfold skL at fin ⊢
      simp [skZ, gz, LF] at fin
      simp [getSc, getC, getN, putN, k, q4, fin]
    · simp [k] at fin
      have fin := fin gz 2 2 2 2 t5 2 gz_W rfl
      unfold skL at fin ⊢
      simp [skZ, gz, LF] at fin
      simp [getSc, getC, getN, putN, k, q5, fin]
    · simp [k] at fin
      have fin := fin (gmg x.gK g g') 2 2 2 2 2 2 (gmg_W (W' k) gw gw') (by rw [gmg_nf, gn, gn'])
      unfold skL at fin ⊢
      simp [skZ] at fin
      simp [getSc, getC, getN, putN, k, q6, fin]
theorem merges9 {x y : SkN} (hx : Fine x) (hy : Fine y) (g g' : Gs) (gw : g.W) (gn : g.nf = x.g) (gw' : g'.W) (gn' : g'.nf = y.g) (a b c d e f a' b' c' d' e' f' : Nat) (hp : Hp) :
    B9_9 (.bool (likeN x y)) (skL x g a b c d e f) (skL y g' a' b' c' d' e' f') hp = some (.sc (.bool true), hp) := by
  obtain ⟨q, hq, eq1⟩ := run_skmerge (isSk_tags gw gn (rk a) (rk b) (rk c) (rk d) (rk e) (rk f)) (isSk_tags gw' gn' (rk a') (rk b') (rk c') (rk d') (rk e') (rk f')) hx.W2 hy.W2 hp0
  obtain ⟨M, rfl, ml, mv, mc⟩ := hq.cl
  have lk := run_sklike (isSk_tags gw gn (rk a) (rk b) (rk c) (rk d) (rk e) (rk f)) (isSk_tags gw' gn' (rk a') (rk b') (rk c') (rk d') (rk e') (rk f')) hp0
  have c1 := run_skcheck (isSk_tags gw gn (rk a) (rk b) (rk c) (rk d) (rk e) (rk f)) hx.w hp0
  have c2 := run_skcheck (isSk_tags gw' gn' (rk a') (rk b') (rk c') (rk d') (rk e') (rk f')) hy.w hp0
  rw [hx.c] at c1
  rw [hy.c] at c2
  have fin := merges12 hx hy (M.map ro1) mc g g' gw gn gw' gn' a b c d e f a' b' c' d' e' f' hp
  generalize (mergeN x y).2 = er at eq1 fin
  rw [B9_9_eq]
  have g23 : ∀ (l : List AV), l.length = 23 → getN l 0 23 = some l := fun l hl => getN_full l 23 hl
  have bn : ∀ x y (p : Bool), binV Go.Proofs.Try.prog .neq 4 x y (.bool p) (.bool p) = some (.bool false) := by
    intro x y p; cases p <;> kernel_rfl
  unfold skL at fin ⊢
  unfold skA at eq1 lk c1 c2
  simp [-List.map_map, -List.all_map, -List.all_eq_true, g23, putN_full, ml, mv, mc.vl, mc.ro, eq1, lk, c1, c2, bn, fin]
theorem merges7 (s t : Sm) (k1 k2 k3 k4 : Nat) (oks : s.Ok) (okt : t.Ok) (hs : s.hs.length ≤ 40 ∧ s.fl.length ≤ 40) (ht : t.hs.length ≤ 40 ∧ t.fl.length ≤ 40) (hp : Hp) :
    B9_7 [.sc (.int .u8 s.kind), .sc (.int .u8 s.A), .sc (.int .u8 s.B), .sc (.int .u16 s.wide), .sc (.bool s.few), S (rk k1) 1 (LI .u64 s.hs), S (rk k2) 2 (LP s.fl)] [.sc (.int .u8 t.kind), .sc (.int .u8 t.A), .sc (.int .u8 t.B), .sc (.int .u16 t.wide), .sc (.bool t.few), S (rk k3) 1 (LI .u64 t.hs), S (rk k4) 2 (LP t.fl)] hp = some (.sc (.bool true), hp) := by
  obtain ⟨r, hr, e⟩ := run_sketch s (rk k1) (rk k2) oks hs.1 hs.2 hp0
  obtain ⟨r', hr', e'⟩ := run_sketch t (rk k3) (rk k4) okt ht.1 ht.2 hp0
  have fx := sketchN_fine s oks hs.1 hs.2
  have fy := sketchN_fine t okt ht.1 ht.2
  generalize sketchN s = x at hr fx
  generalize sketchN t = y at hr' fy
  obtain ⟨g, a, b, c, d, e0, f, gw, gn, rfl⟩ := hr
  obtain ⟨g', a', b', c', d', e0', f', gw', gn', rfl⟩ := hr'
  have fin := merges9 fx fy g g' gw gn gw' gn' a b c d e0 f a' b' c' d' e0' f' hp
  rw [same_like fx fy] at fin
  rw [B9_7_eq]
  have g23 : ∀ (l : List AV), l.length = 23 → getN l 0 23 = some l := fun l hl => getN_full l 23 hl
  unfold skL at fin
  unfold skA at e e'
  simp [-List.map_map, -List.all_map, -List.all_eq_true, gS7m, e, e', putN_full, getSc]
  by_cases h1 : x.kind = y.kind
  · by_cases h2 : x.K = y.K
    · by_cases h3 : x.P = y.P
      · by_cases h4 : x.B = y.B
        · by_cases h5 : x.H = y.H
          · by_cases h6 : x.R = y.R
            · by_cases h7 : x.C = y.C
              · simp [h1, h2, h3, h4, h5, h6, h7] at fin ⊢
                exact fin
              · simp [h1, h2, h3, h4, h5, h6, h7] at fin ⊢
                exact fin
            · simp [h1, h2, h3, h4, h5, h6] at fin ⊢
              exact fin
          · simp [h1, h2, h3, h4, h5] at fin ⊢
            exact fin
        · simp [h1, h2, h3, h4] at fin ⊢
          exact fin
      · simp [h1, h2, h3] at fin ⊢
        exact fin
    · simp [h1, h2] at fin ⊢
      exact fin
  · simp [h1] at fin ⊢
    exact fin
theorem run_skmerges (s t : Sm) (like : Bool) (k1 k2 k3 k4 : Nat) (oks : s.Ok) (okt : t.Ok) (hp : Hp) : run cxX 9 [smA s k1 k2, smA t k3 k4, .sc (.bool like)] hp = some (.sc (.bool true), hp) := by
  have li := fun k k' hp => run_light s k k' hp
  have li' := fun k k' hp => run_light t k k' hp
  have b4 : B9_4 hp = some (.sc (.bool true), hp) := B9_4_eq hp
  rw [E9]
  by_cases hs : s.hs.length ≤ 40 ∧ s.fl.length ≤ 40
  · simp only [eq_true hs, decide_true] at li
    by_cases ht : t.hs.length ≤ 40 ∧ t.fl.length ≤ 40
    · simp only [eq_true ht, decide_true] at li'
      cases like with
      | false =>
        have fin := merges7 s t k1 k2 k3 k4 oks okt hs ht hp
        simp [li, li', run_awake17, gS7m, B9_5_eq, fin]
      | true =>
        have fin := merges7 s { t with kind := s.kind, A := s.A, B := s.B, wide := s.wide } k1 k2 k3 k4 oks ⟨oks.kind, oks.A, oks.B, oks.wide, okt.hs, okt.fl⟩ hs ht hp
        simp [li, li', run_awake17, gS7m, B9_5_eq, getSc, putN, fin]
    · simp only [eq_false ht, decide_false] at li'
      simp [li, li', run_awake17, gS7m, b4]
  · simp only [eq_false hs, decide_false] at li
    simp [li, run_awake17, gS7m, b4]
theorem law_SketchMerges (a : Int) (wa : InK .u8 a) (b : Int) (wb : InK .u8 b) (c : Int) (wc : InK .u8 c) (d : Int) (wd : InK .u16 d) (f : Bool) (k : Nat) (l : List Int) (wl : ∀ n ∈ l, InK .u64 n) (k' : Nat) (m : List (Int × Int)) (wm : ∀ p ∈ m, InI p)
    (a2 : Int) (wa2 : InK .u8 a2) (b2 : Int) (wb2 : InK .u8 b2) (c2 : Int) (wc2 : InK .u8 c2) (d2 : Int) (wd2 : InK .u16 d2) (f2 : Bool) (k2 : Nat) (l2 : List Int) (wl2 : ∀ n ∈ l2, InK .u64 n) (k2' : Nat) (m2 : List (Int × Int)) (wm2 : ∀ p ∈ m2, InI p) (like : Bool) (hp : Hp) :
    ∃ hp', run cxX 9 [.agg [.sc (.int .u8 a), .sc (.int .u8 b), .sc (.int .u8 c), .sc (.int .u16 d), .sc (.bool f), S k 1 (LI .u64 l), S k' 2 (LP m)], .agg [.sc (.int .u8 a2), .sc (.int .u8 b2), .sc (.int .u8 c2), .sc (.int .u16 d2), .sc (.bool f2), S k2 1 (LI .u64 l2), S k2' 2 (LP m2)], .sc (.bool like)] hp = some (.sc (.bool true), hp') :=
  ⟨hp, run_skmerges ⟨a, b, c, d, f, l, m⟩ ⟨a2, b2, c2, d2, f2, l2, m2⟩ like k k' k2 k2' ⟨wa.u8, wb.u8, wc.u8, wd.u16, fun n hn => (wl n hn).u64, wm⟩ ⟨wa2.u8, wb2.u8, wc2.u8, wd2.u16, fun n hn => (wl2 n hn).u64, wm2⟩ hp⟩
end Go.Proofs.Ytalnoedhacobkaa.AI
