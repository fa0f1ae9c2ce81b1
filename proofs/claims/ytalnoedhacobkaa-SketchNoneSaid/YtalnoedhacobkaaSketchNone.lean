/- Sketches: merged with one that saw nothing it is itself. -/
import Derived.Test.YtalnoedhacobkaaEqZSketchNone
import Derived.Test.YtalnoedhacobkaaSpLaw17C
import Derived.Test.YtalnoedhacobkaaSpArgP
namespace Go.Proofs.Ytalnoedhacobkaa.AI
open Go
set_option linter.unusedVariables false
set_option linter.unusedSimpArgs false
set_option maxRecDepth 100000

theorem run_sknone (s : Sm) (k k' : Nat) (ok : s.Ok) (hp : Hp) : run cxX 12 [smA s k k'] hp = some (.sc (.bool true), hp) := by
  have li := fun k k' hp => run_light s k k' hp
  rw [E12]
  by_cases h : s.hs.length ≤ 40 ∧ s.fl.length ≤ 40
  · simp only [eq_true h, decide_true] at li
    obtain ⟨r, hr, e⟩ := run_sketch s (rk k) (rk k') ok h.1 h.2 hp0
    obtain ⟨r', hr', e'⟩ := run_sketch s.none 2 2 ok.none (by simp [Sm.none]) (by simp [Sm.none]) hp0
    have fx := sketchN_fine s ok h.1 h.2
    have fn := sketchN_fine s.none ok.none (by simp [Sm.none]) (by simp [Sm.none])
    have lk : likeN (sketchN s) (sketchN s.none) = true := sketchN_like s s.none ok ok.none rfl rfl rfl rfl
    have lk' : likeN (sketchN s.none) (sketchN s) = true := by rw [like_comm]; exact lk
    have mn := merge_none s ok h.1 h.2
    have cm := check_merge fx fn lk
    rw [mn, fx.c] at cm
    have m1 : mergeN (sketchN s) (sketchN s.none) = (sketchN s, 0) := by
      unfold mergeN okN
      rw [if_neg (by simpa using fx.c), if_neg (by simpa using fn.c), if_neg (by simp [lk]), mn, if_pos fx.c]
    have m2 : mergeN (sketchN s.none) (sketchN s) = (sketchN s, 0) := by
      unfold mergeN okN
      rw [if_neg (by simpa using fn.c), if_neg (by simpa using fx.c), if_neg (by simp [lk']), merge_comm fn fx lk', mn, if_pos fx.c]
    obtain ⟨L, rfl, hl, hv, c⟩ := hr.cl
    obtain ⟨L', rfl, hl', hv', c'⟩ := hr'.cl
    obtain ⟨q, hq, eq1⟩ := run_skmerge c.sk c'.sk fx.W2 fn.W2 hp0
    obtain ⟨q', hq', eq2⟩ := run_skmerge c'.sk c.sk fn.W2 fx.W2 hp0
    rw [m1] at hq eq1
    rw [m2] at hq' eq2
    obtain ⟨M, rfl, ml, mv, mc⟩ := hq.cl
    obtain ⟨M', rfl, ml', mv', mc'⟩ := hq'.cl
    have sm1 := run_skSame mc.sk c.sk fx.w fx.w hp0
    have sm2 := run_skSame mc'.sk c.sk fx.w fx.w hp0
    have lk1 := run_sklike c.sk c'.sk hp0
    rw [lk] at lk1
    have nP : S 2 2 (LP []) = S 2 1 [] := rfl
    unfold smA at e e'
    simp [Sm.none, nP] at e'
    have v1 := c.vl; have v2 := c'.vl; have v3 := mc.vl; have v4 := mc'.vl
    have r1 := c.ro; have r2 := c'.ro; have r3 := mc.ro; have r4 := mc'.ro
    have lP : ∀ k l, (S k 2 (LP l)) = S k 2 (LP l) := fun _ _ => rfl
    simp only [decide_true] at sm1 sm2
    have gS : ∀ (a b c d e f g : AV), getN [a, b, c, d, e, f, g] 0 7 = some [a, b, c, d, e, f, g] := fun _ _ _ _ _ _ _ => rfl
    have p5 : ∀ (a b c d e f g x : AV), putN [a, b, c, d, e, f, g] 5 [x] = some [a, b, c, d, e, x, g] := fun _ _ _ _ _ _ _ _ => rfl
    have p6 : ∀ (a b c d e f g x : AV), putN [a, b, c, d, e, f, g] 6 [x] = some [a, b, c, d, e, f, x] := fun _ _ _ _ _ _ _ _ => rfl
    simp [-List.map_map, -List.all_map, -List.all_eq_true, run_awake17, li, e, e', gS, p5, p6, putN_full, getN_full, hl, hl', hv, hv', ml, ml', mv, mv', v1, v2, v3, v4, r1, r2, r3, r4, eq1, eq2, sm1, sm2, lk1]
  · simp only [eq_false h, decide_false] at li
    have gS : ∀ (a b c d e f g : AV), getN [a, b, c, d, e, f, g] 0 7 = some [a, b, c, d, e, f, g] := fun _ _ _ _ _ _ _ => rfl
    simp [run_awake17, li, gS]
theorem law_SketchNone (a : Int) (wa : InK .u8 a) (b : Int) (wb : InK .u8 b) (c : Int) (wc : InK .u8 c) (d : Int) (wd : InK .u16 d) (f : Bool) (k : Nat) (l : List Int) (wl : ∀ n ∈ l, InK .u64 n) (k' : Nat) (m : List (Int × Int)) (wm : ∀ p ∈ m, InI p) (hp : Hp) :
    ∃ hp', run cxX 12 [.agg [.sc (.int .u8 a), .sc (.int .u8 b), .sc (.int .u8 c), .sc (.int .u16 d), .sc (.bool f), S k 1 (LI .u64 l), S k' 2 (LP m)]] hp = some (.sc (.bool true), hp') :=
  ⟨hp, run_sknone ⟨a, b, c, d, f, l, m⟩ k k' ⟨wa.u8, wb.u8, wc.u8, wd.u16, fun n hn => (wl n hn).u64, wm⟩ hp⟩
end Go.Proofs.Ytalnoedhacobkaa.AI
