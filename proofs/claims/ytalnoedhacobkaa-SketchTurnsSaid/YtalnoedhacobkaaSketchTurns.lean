/- Sketches: merged the other way round, with itself, in three. -/
import Derived.Test.YtalnoedhacobkaaEqZSketchTurns
import Derived.Test.YtalnoedhacobkaaSpLaw17C
import Derived.Test.YtalnoedhacobkaaSpArgP
namespace Go.Proofs.Ytalnoedhacobkaa.AI
open Go
set_option linter.unusedVariables false
set_option linter.unusedSimpArgs false
set_option maxRecDepth 100000

theorem len_mrg_r : ∀ a b, b.length ≤ (mrg a b).length := by
  apply mrg_ind (motive := fun a b => b.length ≤ (mrg a b).length)
  · intro b; simp
  · intro a; simp
  · intro x a y b h ih
    rw [mrg_cons, if_pos h]
    simp at ih ⊢; omega
  · intro x a y b h ih
    rw [mrg_cons, if_neg (by omega), if_pos h]
    simp at ih ⊢; omega
  · intro x a b ih
    rw [mrg_cons, if_neg (by omega), if_neg (by omega)]
    simp at ih ⊢; omega
theorem mergeN0_like (x y z : SkN) : likeN (mergeN0 x y) z = likeN x z := by
  unfold likeN
  rw [mergeN0_kind]
  unfold mergeN0
  by_cases k1 : x.kind = 1
  · simp [k1]
  · by_cases k2 : x.kind = 2
    · simp [k2]
    · by_cases k3 : x.kind = 3
      · simp [k3]
      · by_cases k4 : x.kind = 4
        · simp [k4]
        · by_cases k5 : x.kind = 5
          · simp [k5]
          · simp [k1, k2, k3, k4, k5]
theorem mergeN_fine {x y : SkN} (hx : Fine x) (hy : Fine y) : Fine (mergeN x y).1 := by
  rw [mergeN_eq hx hy]
  by_cases hl : likeN x y = false
  · rw [if_pos hl]; exact skZ_fine
  · rw [if_neg hl]
    by_cases h : x.kind = 0 ∧ 4096 < (mrg x.set y.set).length
    · rw [if_pos h]; exact skZ_fine
    · rw [if_neg h]; exact merge_fine hx hy (by simpa using hl) h
theorem mergeN_comm {x y : SkN} (hx : Fine x) (hy : Fine y) (hl : likeN x y = true) : mergeN y x = mergeN x y := by
  have hl' : likeN y x = true := by rw [like_comm]; exact hl
  have hk := like_kind hl
  have c1 := check_merge hx hy hl
  have c2 := check_merge hy hx hl'
  have cm := merge_comm hx hy hl
  rw [← cm, c1] at c2
  rw [mergeN_eq hx hy, mergeN_eq hy hx, hl, hl', ← cm]
  simp only [Bool.true_eq_false, if_false]
  by_cases h : x.kind = 0 ∧ 4096 < (mrg x.set y.set).length
  · rw [if_pos h] at c2
    by_cases h' : y.kind = 0 ∧ 4096 < (mrg y.set x.set).length
    · rw [if_pos h, if_pos h']
    · rw [if_neg h'] at c2; cases c2
  · rw [if_neg h] at c2
    by_cases h' : y.kind = 0 ∧ 4096 < (mrg y.set x.set).length
    · rw [if_pos h'] at c2; cases c2
    · rw [if_neg h, if_neg h']
theorem mergeN_self {x : SkN} (hx : Fine x) : mergeN x x = (mergeN0 x x, 0) := by
  rw [mergeN_eq hx hx, like_self]
  simp only [Bool.true_eq_false, if_false]
  rw [if_neg]
  rintro ⟨k, h⟩
  obtain ⟨kd, on, sp⟩ := checkN_ok.mp hx.c
  rw [if_pos k] at sp
  obtain ⟨a, b⟩ := schk_ok.mp sp
  rw [mrg_self b] at h
  omega
theorem mergeN_three {a b c : SkN} (ha : Fine a) (hb : Fine b) (hc : Fine c) (hab : likeN a b = true) (hbc : likeN b c = true) (e : (mergeN a b).2 = 0) (g : (mergeN (mergeN a b).1 c).2 = 0) :
    (mergeN a (mergeN b c).1).2 = 0 ∧ (mergeN (mergeN a b).1 c).1 = (mergeN a (mergeN b c).1).1 := by
  have hac : likeN a c = true := by
    have k1 := like_kind hab
    have k2 := like_kind hbc
    obtain ⟨l1, l2, l3, l4, l5⟩ := like_sz hab
    obtain ⟨m1, m2, m3, m4, m5⟩ := like_sz hbc
    rw [← k1] at m1 m2 m3 m4 m5
    exact like_of (k1.trans k2) ⟨fun k => (l1 k).trans (m1 k), fun k => (l2 k).trans (m2 k), fun k => ⟨(l3 k).1.trans (m3 k).1, (l3 k).2.trans (m3 k).2⟩, fun k => ⟨(l4 k).1.trans (m4 k).1, (l4 k).2.trans (m4 k).2⟩, fun k => (l5 k).trans (m5 k)⟩
  have hk := like_kind hab
  have e1 := mergeN_eq ha hb
  rw [hab] at e1
  simp only [Bool.true_eq_false, if_false] at e1
  by_cases h1 : a.kind = 0 ∧ 4096 < (mrg a.set b.set).length
  · rw [if_pos h1] at e1; rw [e1] at e; cases e
  · rw [if_neg h1] at e1
    rw [e1] at g ⊢
    have f1 := merge_fine ha hb hab h1
    have e2 := mergeN_eq f1 hc
    rw [mergeN0_like, hac] at e2
    simp only [Bool.true_eq_false, if_false] at e2
    by_cases h2 : (mergeN0 a b).kind = 0 ∧ 4096 < (mrg (mergeN0 a b).set c.set).length
    · rw [if_pos h2] at e2; simp only at g; rw [e2] at g; cases g
    · rw [if_neg h2] at e2
      have e3 := mergeN_eq hb hc
      rw [hbc] at e3
      simp only [Bool.true_eq_false, if_false] at e3
      have asc := merge_assoc ha hb hc hab hbc
      have ck := check_merge f1 hc (by rw [mergeN0_like]; exact hac)
      rw [if_neg h2] at ck
      have h3 : ¬(b.kind = 0 ∧ 4096 < (mrg b.set c.set).length) := by
        rintro ⟨k, h⟩
        have ka : a.kind = 0 := by omega
        obtain ⟨_, _, sa⟩ := checkN_ok.mp ha.c
        obtain ⟨_, _, sb⟩ := checkN_ok.mp hb.c
        obtain ⟨_, _, sc⟩ := checkN_ok.mp hc.c
        have kc : c.kind = 0 := by have := like_kind hbc; omega
        rw [if_pos ka] at sa
        rw [if_pos k] at sb
        rw [if_pos kc] at sc
        apply h2
        refine ⟨by rw [mergeN0_kind]; exact ka, ?_⟩
        have es : (mergeN0 a b).set = mrg a.set b.set := by unfold mergeN0; rw [if_pos ka]
        rw [es, mrg_assoc (schk_ok.mp sa).2 (schk_ok.mp sb).2 (schk_ok.mp sc).2]
        have := len_mrg_r a.set (mrg b.set c.set)
        omega
      rw [if_neg h3] at e3
      rw [e3]
      have f2 := merge_fine hb hc hbc h3
      have lq : likeN a (mergeN0 b c) = true := by rw [like_comm, mergeN0_like, like_comm]; exact hab
      have e4 : mergeN a (mergeN0 b c) = (mergeN0 a (mergeN0 b c), 0) := by
        unfold mergeN okN
        rw [if_neg (by simpa using ha.c), if_neg (by simpa using f2.c), if_neg (by simp [lq]), ← asc, if_pos ck]
      simp only
      rw [e2, e4]
      exact ⟨rfl, asc⟩
theorem gS7t (a b c d e f g : AV) : getN [a, b, c, d, e, f, g] 0 7 = some [a, b, c, d, e, f, g] := rfl
theorem turns18 {p r : SkN} (hp : p.W) (hr : r.W) (e g h : Int) (P R : List AV) (cp : Cl p P) (cr : Cl r R) (hk : e = 0 → g = 0 → h = 0 ∧ p = r) (q : Hp) : B10_18 (.int .i64 e) (.int .i64 g) (.int .i64 h) P R q = some (.sc (.bool true), q) := by
  have sm := run_skSame cp.sk cr.sk hp hr hp0
  rw [B10_18_eq]
  by_cases e0 : e = 0
  · by_cases g0 : g = 0
    · obtain ⟨h0, rfl⟩ := hk e0 g0
      simp only [decide_true] at sm
      simp [-List.map_map, -List.all_map, -List.all_eq_true, e0, g0, h0, getN_full, cp.len, cr.len, cp.vl, cr.vl, cp.ro, cr.ro, sm]
    · simp [e0, g0]
  · simp [e0]
theorem turns12 {a b c : SkN} (ha : Fine a) (hb : Fine b) (hc : Fine c) (hab : likeN a b = true) (hbc : likeN b c = true) (A B C X : List AV) (ca : Cl a (A.map ro1)) (cb : Cl b (B.map ro1)) (cc : Cl c (C.map ro1)) (cx : Cl (mergeN a b).1 X) (la : A.length = 23) (lb : B.length = 23) (lc : C.length = 23) (va : A.all vl = true) (vb : B.all vl = true) (vc : C.all vl = true) (hp : Hp) :
    B10_12 (.int .i64 (mergeN a b).2) A B C X hp = some (.sc (.bool true), hp) := by
  have fx := mergeN_fine ha hb
  have fq := mergeN_fine hb hc
  have fp := mergeN_fine fx hc
  have fr := mergeN_fine ha fq
  obtain ⟨p, h1, e1⟩ := run_skmerge cx.sk cc.sk fx.W2 hc.W2 hp0
  obtain ⟨q, h2, e2⟩ := run_skmerge cb.sk cc.sk hb.W2 hc.W2 hp0
  obtain ⟨P, rfl, pl, pv, pc⟩ := h1.cl
  obtain ⟨Q, rfl, ql, qv, qc⟩ := h2.cl
  obtain ⟨r, h3, e3⟩ := run_skmerge ca.sk qc.sk ha.W2 fq.W2 hp0
  obtain ⟨R, rfl, rl, rv, rc⟩ := h3.cl
  obtain ⟨o, h4, e4⟩ := run_skmerge ca.sk ca.sk ha.W2 ha.W2 hp0
  rw [mergeN_self ha] at h4 e4
  obtain ⟨O, rfl, ol, ov, oc⟩ := h4.cl
  have fin := turns18 fp.w fr.w (mergeN a b).2 (mergeN (mergeN a b).1 c).2 (mergeN a (mergeN b c).1).2 (P.map ro1) (R.map ro1) pc rc (fun h h' => mergeN_three ha hb hc hab hbc h h') hp
  have fo : (mergeN0 a a).W := mergeN0_W ha.W2 ha.W2
  have sm := run_skSame oc.sk ca.sk fo ha.w hp0
  generalize (mergeN a b).2 = x1 at *
  generalize (mergeN (mergeN a b).1 c).2 = x2 at *
  generalize (mergeN a (mergeN b c).1).2 = x3 at *
  generalize (mergeN b c).2 = x4 at *
  have k0 := ca.k0
  rw [getSc_map] at k0
  rw [B10_12_eq]
  by_cases k4 : a.kind = 4
  · simp [-List.map_map, -List.all_map, -List.all_eq_true, getN_full, putN_full, la, lb, lc, va, vb, vc, ca.vl, ca.ro, cb.vl, cb.ro, cc.vl, cc.ro, cx.len, cx.vl, cx.ro, e1, e2, e3, e4, pl, pv, pc.vl, pc.ro, ql, qv, qc.vl, qc.ro, rl, rv, rc.vl, rc.ro, ol, ov, oc.vl, oc.ro, k0, k4, fin]
  · by_cases k5 : a.kind = 5
    · simp [-List.map_map, -List.all_map, -List.all_eq_true, getN_full, putN_full, la, lb, lc, va, vb, vc, ca.vl, ca.ro, cb.vl, cb.ro, cc.vl, cc.ro, cx.len, cx.vl, cx.ro, e1, e2, e3, e4, pl, pv, pc.vl, pc.ro, ql, qv, qc.vl, qc.ro, rl, rv, rc.vl, rc.ro, ol, ov, oc.vl, oc.ro, k0, k5, fin]
    · have es := merge_self ha k4 k5
      simp only [eq_true es, decide_true] at sm
      simp [-List.map_map, -List.all_map, -List.all_eq_true, getN_full, putN_full, la, lb, lc, va, vb, vc, ca.vl, ca.ro, cb.vl, cb.ro, cc.vl, cc.ro, cx.len, cx.vl, cx.ro, e1, e2, e3, e4, pl, pv, pc.vl, pc.ro, ql, qv, qc.vl, qc.ro, rl, rv, rc.vl, rc.ro, ol, ov, oc.vl, oc.ro, k0, k4, k5, sm, fin]
theorem run_skturns (s t u : Sm) (k1 k2 k3 k4 k5 k6 : Nat) (oks : s.Ok) (okt : t.Ok) (oku : u.Ok) (hp : Hp) : run cxX 10 [smA s k1 k2, smA t k3 k4, smA u k5 k6] hp = some (.sc (.bool true), hp) := by
  have li := fun k k' hp => run_light s k k' hp
  have li' := fun k k' hp => run_light t k k' hp
  have li'' := fun k k' hp => run_light u k k' hp
  have b4 : B10_4 hp = some (.sc (.bool true), hp) := B10_4_eq hp
  rw [E10]
  by_cases hs : s.hs.length ≤ 40 ∧ s.fl.length ≤ 40
  · simp only [eq_true hs, decide_true] at li
    by_cases ht : t.hs.length ≤ 40 ∧ t.fl.length ≤ 40
    · simp only [eq_true ht, decide_true] at li'
      by_cases hu : u.hs.length ≤ 40 ∧ u.fl.length ≤ 40
      · simp only [eq_true hu, decide_true] at li''
        have okt2 : Sm.Ok { t with kind := s.kind, A := s.A, B := s.B, wide := s.wide } := ⟨oks.kind, oks.A, oks.B, oks.wide, okt.hs, okt.fl⟩
        have oku2 : Sm.Ok { u with kind := s.kind, A := s.A, B := s.B, wide := s.wide } := ⟨oks.kind, oks.A, oks.B, oks.wide, oku.hs, oku.fl⟩
        obtain ⟨r, hr, e⟩ := run_sketch s (rk k1) (rk k2) oks hs.1 hs.2 hp0
        obtain ⟨r', hr', e'⟩ := run_sketch { t with kind := s.kind, A := s.A, B := s.B, wide := s.wide } (rk k3) (rk k4) okt2 ht.1 ht.2 hp0
        obtain ⟨r'', hr'', e''⟩ := run_sketch { u with kind := s.kind, A := s.A, B := s.B, wide := s.wide } (rk k5) (rk k6) oku2 hu.1 hu.2 hp0
        have fx := sketchN_fine s oks hs.1 hs.2
        have fy := sketchN_fine _ okt2 ht.1 ht.2
        have fz := sketchN_fine _ oku2 hu.1 hu.2
        have lab := sketchN_like s _ oks okt2 rfl rfl rfl rfl
        have lbc := sketchN_like _ _ okt2 oku2 rfl rfl rfl rfl
        generalize sketchN s = x at *
        generalize sketchN { t with kind := s.kind, A := s.A, B := s.B, wide := s.wide } = y at *
        generalize sketchN { u with kind := s.kind, A := s.A, B := s.B, wide := s.wide } = z at *
        obtain ⟨A, rfl, la, va, ca⟩ := hr.cl
        obtain ⟨B, rfl, lb, vb, cb⟩ := hr'.cl
        obtain ⟨C, rfl, lc, vc, cc⟩ := hr''.cl
        obtain ⟨m, hm, em⟩ := run_skmerge ca.sk cb.sk fx.W2 fy.W2 hp0
        obtain ⟨m', hm', em'⟩ := run_skmerge cb.sk ca.sk fy.W2 fx.W2 hp0
        rw [mergeN_comm fx fy lab] at hm' em'
        obtain ⟨M, rfl, ml, mv, mc⟩ := hm.cl
        obtain ⟨M', rfl, ml', mv', mc'⟩ := hm'.cl
        have fin := turns12 fx fy fz lab lbc A B C (M.map ro1) ca cb cc mc la lb lc va vb vc hp
        have fm := mergeN_fine fx fy
        have sm := run_skSame mc.sk mc'.sk fm.w fm.w hp0
        simp only [decide_true] at sm
        generalize (mergeN x y).2 = er at *
        have b5 : B10_5 [.sc (.int .u8 s.kind), .sc (.int .u8 s.A), .sc (.int .u8 s.B), .sc (.int .u16 s.wide), .sc (.bool s.few), S (rk k1) 1 (LI .u64 s.hs), S (rk k2) 2 (LP s.fl)] [.sc (.int .u8 t.kind), .sc (.int .u8 t.A), .sc (.int .u8 t.B), .sc (.int .u16 t.wide), .sc (.bool t.few), S (rk k3) 1 (LI .u64 t.hs), S (rk k4) 2 (LP t.fl)] [.sc (.int .u8 u.kind), .sc (.int .u8 u.A), .sc (.int .u8 u.B), .sc (.int .u16 u.wide), .sc (.bool u.few), S (rk k5) 1 (LI .u64 u.hs), S (rk k6) 2 (LP u.fl)] hp = some (.sc (.bool true), hp) := by
          rw [B10_5_eq]
          have p0 : ∀ (a b c d e f g x : AV), putN [a, b, c, d, e, f, g] 0 [x] = some [x, b, c, d, e, f, g] := fun _ _ _ _ _ _ _ _ => rfl
          have p1 : ∀ (a b c d e f g x : AV), putN [a, b, c, d, e, f, g] 1 [x] = some [a, x, c, d, e, f, g] := fun _ _ _ _ _ _ _ _ => rfl
          have p2 : ∀ (a b c d e f g x : AV), putN [a, b, c, d, e, f, g] 2 [x] = some [a, b, x, d, e, f, g] := fun _ _ _ _ _ _ _ _ => rfl
          have p3 : ∀ (a b c d e f g x : AV), putN [a, b, c, d, e, f, g] 3 [x] = some [a, b, c, x, e, f, g] := fun _ _ _ _ _ _ _ _ => rfl
          simp [-List.map_map, -List.all_map, -List.all_eq_true, getSc, p0, p1, p2, p3, gS7t, e, e', e'', getN_full, putN_full, la, lb, lc, va, vb, vc, ca.vl, ca.ro, cb.vl, cb.ro, cc.vl, cc.ro, em, em', ml, mv, mc.vl, mc.ro, ml', mv', mc'.vl, mc'.ro, sm, fin]
        simp [li, li', li'', run_awake17, gS7t, b5]
      · simp only [eq_false hu, decide_false] at li''
        simp [li, li', li'', run_awake17, gS7t, b4]
    · simp only [eq_false ht, decide_false] at li'
      simp [li, li', run_awake17, gS7t, b4]
  · simp only [eq_false hs, decide_false] at li
    simp [li, run_awake17, gS7t, b4]
theorem law_SketchTurns (a : Int) (wa : InK .u8 a) (b : Int) (wb : InK .u8 b) (c : Int) (wc : InK .u8 c) (d : Int) (wd : InK .u16 d) (f : Bool) (k : Nat) (l : List Int) (wl : ∀ n ∈ l, InK .u64 n) (k' : Nat) (m : List (Int × Int)) (wm : ∀ p ∈ m, InI p)
    (a2 : Int) (wa2 : InK .u8 a2) (b2 : Int) (wb2 : InK .u8 b2) (c2 : Int) (wc2 : InK .u8 c2) (d2 : Int) (wd2 : InK .u16 d2) (f2 : Bool) (k2 : Nat) (l2 : List Int) (wl2 : ∀ n ∈ l2, InK .u64 n) (k2' : Nat) (m2 : List (Int × Int)) (wm2 : ∀ p ∈ m2, InI p)
    (a3 : Int) (wa3 : InK .u8 a3) (b3 : Int) (wb3 : InK .u8 b3) (c3 : Int) (wc3 : InK .u8 c3) (d3 : Int) (wd3 : InK .u16 d3) (f3 : Bool) (k3 : Nat) (l3 : List Int) (wl3 : ∀ n ∈ l3, InK .u64 n) (k3' : Nat) (m3 : List (Int × Int)) (wm3 : ∀ p ∈ m3, InI p) (hp : Hp) :
    ∃ hp', run cxX 10 [.agg [.sc (.int .u8 a), .sc (.int .u8 b), .sc (.int .u8 c), .sc (.int .u16 d), .sc (.bool f), S k 1 (LI .u64 l), S k' 2 (LP m)], .agg [.sc (.int .u8 a2), .sc (.int .u8 b2), .sc (.int .u8 c2), .sc (.int .u16 d2), .sc (.bool f2), S k2 1 (LI .u64 l2), S k2' 2 (LP m2)], .agg [.sc (.int .u8 a3), .sc (.int .u8 b3), .sc (.int .u8 c3), .sc (.int .u16 d3), .sc (.bool f3), S k3 1 (LI .u64 l3), S k3' 2 (LP m3)]] hp = some (.sc (.bool true), hp') :=
  ⟨hp, run_skturns ⟨a, b, c, d, f, l, m⟩ ⟨a2, b2, c2, d2, f2, l2, m2⟩ ⟨a3, b3, c3, d3, f3, l3, m3⟩ k k' k2 k2' k3 k3' ⟨wa.u8, wb.u8, wc.u8, wd.u16, fun n hn => (wl n hn).u64, wm⟩ ⟨wa2.u8, wb2.u8, wc2.u8, wd2.u16, fun n hn => (wl2 n hn).u64, wm2⟩ ⟨wa3.u8, wb3.u8, wc3.u8, wd3.u16, fun n hn => (wl3 n hn).u64, wm3⟩ hp⟩
end Go.Proofs.Ytalnoedhacobkaa.AI
