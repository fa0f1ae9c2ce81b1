/- Sketches: which are like each other. -/
import Derived.Test.YtalnoedhacobkaaEqZSketchLike
import Derived.Test.YtalnoedhacobkaaSpLaw17C
import Derived.Test.YtalnoedhacobkaaSpArgP
namespace Go.Proofs.Ytalnoedhacobkaa.AI
open Go
set_option linter.unusedVariables false
set_option linter.unusedSimpArgs false
set_option maxRecDepth 100000

theorem gS7 (a b c d e f g : AV) : getN [a, b, c, d, e, f, g] 0 7 = some [a, b, c, d, e, f, g] := rfl
theorem run_sklikes (s t : Sm) (k1 k2 k3 k4 : Nat) (oks : s.Ok) (okt : t.Ok) (h : Int) (hh : 0 ≤ h ∧ h < 18446744073709551616) (hp : Hp) : run cxX 14 [smA s k1 k2, smA t k3 k4, .sc (.int .u64 h)] hp = some (.sc (.bool true), hp) := by
  have li := fun k k' hp => run_light s k k' hp
  have li' := fun k k' hp => run_light t k k' hp
  rw [E14]
  have b4 : B14_4 hp = some (.sc (.bool true), hp) := B14_4_eq hp
  by_cases hs : s.hs.length ≤ 40 ∧ s.fl.length ≤ 40
  · simp only [eq_true hs, decide_true] at li
    by_cases ht : t.hs.length ≤ 40 ∧ t.fl.length ≤ 40
    · simp only [eq_true ht, decide_true] at li'
      obtain ⟨r, hr, e⟩ := run_sketch s (rk k1) (rk k2) oks hs.1 hs.2 hp0
      obtain ⟨r', hr', e'⟩ := run_sketch t (rk k3) (rk k4) okt ht.1 ht.2 hp0
      have fx := sketchN_fine s oks hs.1 hs.2
      have fy := sketchN_fine t okt ht.1 ht.2
      have sl := sketchN_set s oks hs.1
      have fz := see_fine fx hh (fun _ => by omega)
      obtain ⟨L, rfl, hl, hv, c⟩ := hr.cl
      obtain ⟨L', rfl, hl', hv', c'⟩ := hr'.cl
      obtain ⟨q, hq, eq1⟩ := run_sksee c.sk fx.W2 h hh hp0
      rw [seeN_ok fx hh (fun _ => by omega)] at hq eq1
      obtain ⟨M, rfl, ml, mv, mc⟩ := hq.cl
      have l1 := run_sklike c.sk c.sk hp0
      have l2 := run_sklike c.sk c'.sk hp0
      have l3 := run_sklike c'.sk c.sk hp0
      have l4 := run_sklike c.sk mc.sk hp0
      rw [like_self] at l1
      rw [like_comm] at l3
      rw [see_like] at l4
      have s1 := run_skSame c.sk c'.sk fx.w fy.w hp0
      have s2 := run_skSame c'.sk c.sk fy.w fx.w hp0
      have ec : decide (sketchN t = sketchN s) = decide (sketchN s = sketchN t) := decide_eq_decide.mpr ⟨Eq.symm, Eq.symm⟩
      rw [ec] at s2
      have v1 := c.vl; have v2 := c'.vl; have v3 := mc.vl
      have r1 := c.ro; have r2 := c'.ro; have r3 := mc.ro
      have k1' := c.k0; have k2' := c'.k0
      rw [getSc_map] at k1' k2'
      have b5 : B14_5 (.int .u64 h) [.sc (.int .u8 s.kind), .sc (.int .u8 s.A), .sc (.int .u8 s.B), .sc (.int .u16 s.wide), .sc (.bool s.few), S (rk k1) 1 (LI .u64 s.hs), S (rk k2) 2 (LP s.fl)] [.sc (.int .u8 t.kind), .sc (.int .u8 t.A), .sc (.int .u8 t.B), .sc (.int .u16 t.wide), .sc (.bool t.few), S (rk k3) 1 (LI .u64 t.hs), S (rk k4) 2 (LP t.fl)] hp = some (.sc (.bool true), hp) := by
        rw [B14_5_eq]
        cases hlk : likeN (sketchN s) (sketchN t) with
        | false =>
          rw [hlk] at l2 l3
          simp [-List.map_map, -List.all_map, -List.all_eq_true, e, e', gS7, putN_full, getN_full, hl, hl', hv, hv', ml, mv, v1, v2, v3, r1, r2, r3, eq1, l1, l2, l3, l4, s1, s2, k1', k2']
        | true =>
          rw [hlk] at l2 l3
          have hk := like_kind hlk
          simp [-List.map_map, -List.all_map, -List.all_eq_true, e, e', gS7, putN_full, getN_full, hl, hl', hv, hv', ml, mv, v1, v2, v3, r1, r2, r3, eq1, l1, l2, l3, l4, s1, s2, k1', k2', hk]
      simp [li, li', run_awake17, gS7, b5]
    · simp only [eq_false ht, decide_false] at li'
      simp [li, li', run_awake17, gS7, b4]
  · simp only [eq_false hs, decide_false] at li
    simp [li, run_awake17, gS7, b4]
theorem law_SketchLike (a : Int) (wa : InK .u8 a) (b : Int) (wb : InK .u8 b) (c : Int) (wc : InK .u8 c) (d : Int) (wd : InK .u16 d) (f : Bool) (k : Nat) (l : List Int) (wl : ∀ n ∈ l, InK .u64 n) (k' : Nat) (m : List (Int × Int)) (wm : ∀ p ∈ m, InI p)
    (a2 : Int) (wa2 : InK .u8 a2) (b2 : Int) (wb2 : InK .u8 b2) (c2 : Int) (wc2 : InK .u8 c2) (d2 : Int) (wd2 : InK .u16 d2) (f2 : Bool) (k2 : Nat) (l2 : List Int) (wl2 : ∀ n ∈ l2, InK .u64 n) (k2' : Nat) (m2 : List (Int × Int)) (wm2 : ∀ p ∈ m2, InI p) (h : Int) (wh : InK .u64 h) (hp : Hp) :
    ∃ hp', run cxX 14 [.agg [.sc (.int .u8 a), .sc (.int .u8 b), .sc (.int .u8 c), .sc (.int .u16 d), .sc (.bool f), S k 1 (LI .u64 l), S k' 2 (LP m)], .agg [.sc (.int .u8 a2), .sc (.int .u8 b2), .sc (.int .u8 c2), .sc (.int .u16 d2), .sc (.bool f2), S k2 1 (LI .u64 l2), S k2' 2 (LP m2)], .sc (.int .u64 h)] hp = some (.sc (.bool true), hp') :=
  ⟨hp, run_sklikes ⟨a, b, c, d, f, l, m⟩ ⟨a2, b2, c2, d2, f2, l2, m2⟩ k k' k2 k2' ⟨wa.u8, wb.u8, wc.u8, wd.u16, fun n hn => (wl n hn).u64, wm⟩ ⟨wa2.u8, wb2.u8, wc2.u8, wd2.u16, fun n hn => (wl2 n hn).u64, wm2⟩ h wh.u64 hp⟩
end Go.Proofs.Ytalnoedhacobkaa.AI
