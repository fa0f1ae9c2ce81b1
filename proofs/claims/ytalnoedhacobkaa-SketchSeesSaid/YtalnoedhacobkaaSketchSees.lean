/- Sketches: a hash was seen. -/
import Derived.Test.YtalnoedhacobkaaEqZSketchSees
import Derived.Test.YtalnoedhacobkaaSpLaw17C
import Derived.Test.YtalnoedhacobkaaSpArgP
namespace Go.Proofs.Ytalnoedhacobkaa.AI
open Go
set_option linter.unusedVariables false
set_option linter.unusedSimpArgs false
set_option maxRecDepth 100000

theorem gS7' (a b c d e f g : AV) : getN [a, b, c, d, e, f, g] 0 7 = some [a, b, c, d, e, f, g] := rfl
theorem sees19 {x : SkN} (hx : Fine x) (h : Int) (hh : 0 ≤ h ∧ h < 18446744073709551616) (o : SkN) (ho : Fine o) (hs : o.set.length ≤ 4096) (M : List AV) (cm : Cl o M) (g g' : Gs) (gw : g.W) (gn : g.nf = x.g) (gw' : g'.W) (gn' : g'.nf = o.g) (a b c d e f a' b' c' d' e' f' : Nat) (hp : Hp) :
    B13_19 (.int .u64 h) (.int .i64 0) (skL x g a b c d e f) M (skL o g' a' b' c' d' e' f') hp = some (.sc (.bool true), hp) := by
  have w := hx.W2
  have W7 : SkN.W2 { x with kind := 7 } := ⟨⟨by show (0 : Int) ≤ 7 ∧ (7 : Int) < 256; omega, w.set, w.setL, w.hsL, w.rg, w.rgL, w.bs, w.bsL, w.cs, w.csL⟩, w.set2, w.hs2, w.bs2, fun h => by simp at h⟩
  obtain ⟨q, hq, e1⟩ := run_sksee (isSk_tags (x := { x with kind := 7 }) gw gn (rk a) (rk b) (rk c) (rk d) (rk e) (rk f)) W7 h hh hp0
  have c7 : checkN { x with kind := 7 } = 5 := by unfold checkN; rw [if_pos (by show (6 : Int) ≤ 7; omega)]
  have s7 : seeN { x with kind := 7 } h = (skZ, 5) := by unfold seeN; rw [c7]; simp
  rw [s7] at hq e1
  have z := skZ_W
  have Wn : SkN.W2 { skZ with kind := 2, P := 4 } := ⟨⟨by decide, z.set, z.setL, z.hsL, z.rg, z.rgL, z.bs, z.bsL, z.cs, z.csL⟩, by decide, by decide, by decide, fun h => by simp at h⟩
  obtain ⟨q', hq', e2⟩ := run_sksee (isSk_tags (x := { skZ with kind := 2, P := 4 }) gz_W rfl 2 2 2 2 2 2) Wn h hh hp0
  have cn : checkN { skZ with kind := 2, P := 4 } = 6 := by decide
  have sn : seeN { skZ with kind := 2, P := 4 } h = (skZ, 6) := by unfold seeN; rw [cn]; simp
  rw [sn] at hq' e2
  obtain ⟨N, rfl, nl, nv, nc⟩ := hq.cl
  obtain ⟨N', rfl, nl', nv', nc'⟩ := hq'.cl
  have sm := run_skSame cm.sk (isSk_tags gw' gn' (rk a') (rk b') (rk c') (rk d') (rk e') (rk f')) ho.w ho.w hp0
  have v1 := cm.vl; have r1 := cm.ro; have l1 := cm.len
  have hs' : ¬((4096 : Int) < (o.set.length : Int)) := by omega
  rw [B13_19_eq]
  unfold skL
  unfold skA at e1 e2 sm
  simp [skZ, gz, LF] at e2
  simp only [decide_true] at sm
  have g23 : ∀ (l : List AV), l.length = 23 → getN l 0 23 = some l := fun l hl => getN_full l 23 hl
  simp [-List.map_map, -List.all_map, -List.all_eq_true, getC, g23, putN_full, nl, nl', nv, nv', v1, r1, l1, hs', sm]
  have p0 : ∀ (y : AV) (l : List AV), putN (y :: l) 0 [.sc (.int .u8 7)] = some (.sc (.int .u8 7) :: l) := by
    intro y l; simp [putN]
  simp [-List.map_map, -List.all_map, -List.all_eq_true, p0, e1, e2, getC, g23, putN_full, nl, nl', nv, nv', v1, r1, l1, hs', sm]
theorem run_sksees (s : Sm) (k1 k2 : Nat) (oks : s.Ok) (h : Int) (hh : 0 ≤ h ∧ h < 18446744073709551616) (hp : Hp) : run cxX 13 [smA s k1 k2, .sc (.int .u64 h)] hp = some (.sc (.bool true), hp) := by
  have li := fun k k' hp => run_light s k k' hp
  rw [E13]
  by_cases hs : s.hs.length ≤ 40 ∧ s.fl.length ≤ 40
  · simp only [eq_true hs, decide_true] at li
    obtain ⟨r, hr, er⟩ := run_sketch s (rk k1) (rk k2) oks hs.1 hs.2 hp0
    have fx := sketchN_fine s oks hs.1 hs.2
    have sl := sketchN_set s oks hs.1
    generalize sketchN s = x at hr fx sl
    have fz := see_fine fx hh (fun _ => by omega)
    obtain ⟨kd, on, sp⟩ := checkN_ok.mp fx.c
    have w := fx.w
    obtain ⟨g, a, b, c, d, e, f, gw, gn, rfl⟩ := hr
    obtain ⟨q, hq, eq1⟩ := run_sksee (isSk_tags gw gn (rk a) (rk b) (rk c) (rk d) (rk e) (rk f)) fx.W2 h hh hp0
    rw [seeN_ok fx hh (fun _ => by omega)] at hq eq1
    obtain ⟨M, rfl, ml, mv, mc⟩ := hq.cl
    have hso : (seeN0 x h).set.length ≤ 4096 := by
      have := len_mrg x.set [h % 4294967296]
      simp at this
      unfold seeN0
      repeat' split
      all_goals first | (show (mrg x.set [h % 4294967296]).length ≤ _; omega) | (show x.set.length ≤ _; omega)
    have fin := fun t1 t2 t3 t4 t5 t6 (hg : g.nf = (seeN0 x h).g) => sees19 fx h hh (seeN0 x h) fz hso (M.map ro1) mc g g gw gn gw hg a b c d e f t1 t2 t3 t4 t5 t6 hp
    have w32 : IntKind.u32.wrap h = h % 4294967296 := by rw [IntKind.wrap_u32]
    have li7 : ∀ (l : List AV), l.length = 23 → getN l 0 23 = some l := fun l hl => getN_full l 23 hl
    unfold skL at fin
    unfold skA at er eq1
    rcases six w kd with k | k | k | k | k | k
    · have eo : seeN0 x h = { x with set := mrg x.set [h % 4294967296] } := by unfold seeN0; simp [k]
      have fin := fin 2 (rk b) (rk c) (rk d) (rk e) (rk f) (by rw [eo]; exact gn)
      rw [eo] at fin
      have q := fun k k' hp => run_or x.set [h % 4294967296] k k' hp (by simp; omega)
      simp only [k] at er eq1 fin
      simp [LI] at er eq1 fin q
      simp [-List.map_map, -List.all_map, -List.all_eq_true, li, run_awake17, gS7', er, eq1, li7, putN_full, getSc, getC, ml, mv, w32, mc.vl, mc.ro, k]
      simp [LI, putN, q, fin, mc.ro, er, eq1, ml, mv]
    · have eo : seeN0 x h = { x with hs := (mrg x.hs [h]).take x.K.toNat } := by unfold seeN0; simp [k]
      have fin := fin (rk a) 2 (rk c) (rk d) (rk e) (rk f) (by rw [eo]; exact gn)
      rw [eo] at fin
      have hsL := w.hsL
      have q := fun k k' hp => run_kmerge x.K (.sc (.int .i64 x.K)) x.hs [h] k k' hp (by simp; omega)
      simp only [k] at er eq1 fin
      simp [LI] at er eq1 fin q
      simp [-List.map_map, -List.all_map, -List.all_eq_true, li, run_awake17, gS7', er, eq1, li7, putN_full, getSc, getC, ml, mv, mc.vl, mc.ro, k]
      simp [LI, getN, putN, q, fin, mc.ro, er, eq1, ml, mv]
    · have eo : seeN0 x h = { x with rg := hadd x.P x.rg h } := by unfold seeN0; simp [k]
      simp [k] at sp
      obtain ⟨c1, c2, c3⟩ := hchk_ok.mp sp
      obtain ⟨t, hp1, q⟩ := run_hadd x.P x.rg (rk c) h c1 hh (by have := w.rgL; omega) hp0
      have fin := fin (rk a) (rk b) t (rk d) (rk e) (rk f) (by rw [eo]; exact gn)
      rw [eo] at fin
      simp only [k] at er eq1 fin
      simp [-List.map_map, -List.all_map, -List.all_eq_true, li, run_awake17, gS7', er, eq1, li7, putN_full, getSc, getC, ml, mv, mc.vl, mc.ro, k]
      simp [getN, putN, q, fin, mc.ro, er, eq1, ml, mv]
    · have eo : seeN0 x h = { x with bs := adds x.bs (plg x.B x.H h) } := by unfold seeN0; simp [k]
      simp [k] at sp
      obtain ⟨c1, c2, c3⟩ := good_chk sp w.bs
      have q := fun k hp => run_add x.B x.H x.bs k h c1 c2 c3 hp
      have fin := fin (rk a) (rk b) (rk c) 2 (rk e) (rk f) (by rw [eo]; exact gn)
      rw [eo] at fin
      simp only [k] at er eq1 fin
      simp [-List.map_map, -List.all_map, -List.all_eq_true, li, run_awake17, gS7', er, eq1, li7, putN_full, getSc, getC, ml, mv, mc.vl, mc.ro, k]
      simp [getN, putN, q, fin, mc.ro, er, eq1, ml, mv]
    · have eo : seeN0 x h = { x with cs := cadd x.R x.C h 1 x.cs } := by unfold seeN0; simp [k]
      obtain ⟨t, hp1, q⟩ := run_cadd x.R x.C h 1 x.cs (rk e) (by omega) (by have := w.csL; omega) w.cs hp0
      have fin := fin (rk a) (rk b) (rk c) (rk d) t (rk f) (by rw [eo]; exact gn)
      rw [eo] at fin
      simp only [k] at er eq1 fin
      simp [-List.map_map, -List.all_map, -List.all_eq_true, li, run_awake17, gS7', er, eq1, li7, putN_full, getSc, getC, ml, mv, mc.vl, mc.ro, k]
      simp [getN, putN, q, fin, mc.ro, er, eq1, ml, mv]
    · have eo : seeN0 x h = x := by unfold seeN0; simp [k]
      have fin := fin (rk a) (rk b) (rk c) (rk d) (rk e) (rk f) (by rw [eo]; exact gn)
      rw [eo] at fin
      simp only [k] at er eq1 fin
      simp [-List.map_map, -List.all_map, -List.all_eq_true, li, run_awake17, gS7', er, eq1, li7, putN_full, getSc, getC, ml, mv, mc.vl, mc.ro, k]
      simp [getN, putN, fin, mc.ro, er, eq1, ml, mv]
  · simp only [eq_false hs, decide_false] at li
    simp [li, run_awake17, gS7']
theorem law_SketchSees (a : Int) (wa : InK .u8 a) (b : Int) (wb : InK .u8 b) (c : Int) (wc : InK .u8 c) (d : Int) (wd : InK .u16 d) (f : Bool) (k : Nat) (l : List Int) (wl : ∀ n ∈ l, InK .u64 n) (k' : Nat) (m : List (Int × Int)) (wm : ∀ p ∈ m, InI p) (h : Int) (wh : InK .u64 h) (hp : Hp) :
    ∃ hp', run cxX 13 [.agg [.sc (.int .u8 a), .sc (.int .u8 b), .sc (.int .u8 c), .sc (.int .u16 d), .sc (.bool f), S k 1 (LI .u64 l), S k' 2 (LP m)], .sc (.int .u64 h)] hp = some (.sc (.bool true), hp') :=
  ⟨hp, run_sksees ⟨a, b, c, d, f, l, m⟩ k k' ⟨wa.u8, wb.u8, wc.u8, wd.u16, fun n hn => (wl n hn).u64, wm⟩ h wh.u64 hp⟩
end Go.Proofs.Ytalnoedhacobkaa.AI
