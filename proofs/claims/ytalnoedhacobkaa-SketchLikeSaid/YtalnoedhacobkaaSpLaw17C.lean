/- The laws of sketches: cells of sketches as rows; the fixed fact. -/
import Derived.Test.YtalnoedhacobkaaSpLaw17B
namespace Go.Proofs.Ytalnoedhacobkaa.AI
open Go
set_option linter.unusedVariables false
set_option linter.unusedSimpArgs false
set_option maxRecDepth 100000

theorem putN_full (Z L : List AV) (h : Z.length = L.length) : putN Z 0 L = some L := by
  unfold putN
  rw [if_pos (by omega)]
  simp [h]
theorem getN_full (L : List AV) (n : Nat) (h : L.length = n) : getN L 0 n = some L := by
  subst h; exact getN_all L
theorem getSc_map (L : List AV) (i : Nat) : getSc (L.map ro1) i = getSc L i := by
  unfold getSc
  rw [List.getElem?_map]
  cases L[i]? with
  | none => rfl
  | some x => cases x <;> rfl
/-- What simp needs of a sketch's cells. -/
structure Cl (x : SkN) (L : List AV) : Prop where
  sk : IsSk x (.agg L)
  len : L.length = 23
  vl : L.all vl = true
  ro : L.map ro1 = L
  k0 : getSc L 0 = some (.int .u8 x.kind)
theorem IsSk.cl {x : SkN} {r : AV} (h : IsSk x r) : ∃ L, r = .agg L ∧ L.length = 23 ∧ L.all AI.vl = true ∧ Cl x (L.map ro1) := by
  obtain ⟨g, a, b, c, d, e, f, gw, gn, rfl⟩ := h
  refine ⟨_, rfl, rfl, by simp, ⟨⟨g, rk a, rk b, rk c, rk d, rk e, rk f, gw, gn, by simp [skA]⟩, by simp, by simp, by simp, by simp [getSc]⟩⟩
theorem skZ_fine : Fine skZ := ⟨skZ_W, by decide, gz_pos⟩
theorem run_awake17 (hp : Hp) : run cxX 45 [] hp = some (.sc (.bool true), hp) := by
  have s1 : IsSk skZ (.agg [.sc (.int .u8 0), S 2 1 [], .sc (.int .i64 0), S 2 1 [], .sc (.int .i64 0), S 2 1 [], .sc (.int .i64 0), .sc (.int .i64 0), S 2 1 [], .sc (.int .i64 0), .sc (.int .i64 0), S 2 1 [], .sc (.int .i64 0), .sc (.int .u32 0), .sc (.int .u32 0), .sc (.int .u32 0), .sc (.int .u32 0), .sc (.int .u32 0), .sc (.int .u32 0), .sc (.int .u32 0), fl 0, fl 0, S 2 1 []]) := ⟨gz, 2, 2, 2, 2, 2, 2, gz_W, rfl, rfl⟩
  have s2 : IsSk { skZ with set := [3] } (.agg [.sc (.int .u8 0), S 0 1 [.sc (.int .u32 3)], .sc (.int .i64 0), S 2 1 [], .sc (.int .i64 0), S 2 1 [], .sc (.int .i64 0), .sc (.int .i64 0), S 2 1 [], .sc (.int .i64 0), .sc (.int .i64 0), S 2 1 [], .sc (.int .i64 0), .sc (.int .u32 0), .sc (.int .u32 0), .sc (.int .u32 0), .sc (.int .u32 0), .sc (.int .u32 0), .sc (.int .u32 0), .sc (.int .u32 0), fl 0, fl 0, S 2 1 []]) := ⟨gz, 0, 2, 2, 2, 2, 2, gz_W, rfl, rfl⟩
  have s3 : IsSk { skZ with kind := 9 } (.agg [.sc (.int .u8 9), S 2 1 [], .sc (.int .i64 0), S 2 1 [], .sc (.int .i64 0), S 2 1 [], .sc (.int .i64 0), .sc (.int .i64 0), S 2 1 [], .sc (.int .i64 0), .sc (.int .i64 0), S 2 1 [], .sc (.int .i64 0), .sc (.int .u32 0), .sc (.int .u32 0), .sc (.int .u32 0), .sc (.int .u32 0), .sc (.int .u32 0), .sc (.int .u32 0), .sc (.int .u32 0), fl 0, fl 0, S 2 1 []]) := ⟨gz, 2, 2, 2, 2, 2, 2, gz_W, rfl, rfl⟩
  have z := skZ_W
  have f2 : Fine { skZ with set := [3] } := ⟨⟨by decide, by simp [U32], by decide, z.hsL, z.rg, z.rgL, z.bs, z.bsL, z.cs, z.csL⟩, by decide, gz_pos⟩
  have w3 : SkN.W { skZ with kind := 9 } := ⟨by decide, z.set, z.setL, z.hsL, z.rg, z.rgL, z.bs, z.bsL, z.cs, z.csL⟩
  obtain ⟨r, hr, m⟩ := run_skmerge s1 s2 skZ_fine.W2 f2.W2 hp0
  have e : mergeN skZ { skZ with set := [3] } = ({ skZ with set := [3] }, 0) := by
    rw [mergeN_eq skZ_fine f2]
    have l : likeN skZ { skZ with set := [3] } = true := by decide
    rw [l, if_neg (by simp), if_neg (by simp [skZ])]
    simp [skZ, mergeN0]
  rw [e] at hr m
  have c := run_skcheck s3 w3 hp0
  have c9 : checkN { skZ with kind := 9 } = 5 := by decide
  rw [c9] at c
  obtain ⟨g, a, b, c', d, e', f, gw, gn, rfl⟩ := hr
  rw [E45]
  unfold skA at m
  simp [skZ] at m
  simp [m, c, getC, putN, skZ]
/-! ### a hash more -/
theorem onlyN_idem (x : SkN) (h : x = onlyN x) : (x.kind ≠ 0 → x.set = []) ∧ (x.kind ≠ 1 → x.K = 0 ∧ x.hs = []) ∧ (x.kind ≠ 2 → x.P = 0 ∧ x.rg = []) ∧ (x.kind ≠ 3 → x.B = 0 ∧ x.H = 0 ∧ x.bs = []) ∧ (x.kind ≠ 4 → x.R = 0 ∧ x.C = 0 ∧ x.cs = []) ∧ (x.kind ≠ 5 → x.gK = 0 ∧ x.g = gz.nf) := by
  unfold onlyN at h
  refine ⟨fun k => ?_, fun k => ?_, fun k => ?_, fun k => ?_, fun k => ?_, fun k => ?_⟩
  all_goals (rw [h]; repeat' split)
  all_goals first | exact rfl | exact ⟨rfl, rfl⟩ | exact ⟨rfl, rfl, rfl⟩ | (exfalso; omega)
theorem onlyN_of {x : SkN} (hk : x.kind = 0 ∨ x.kind = 1 ∨ x.kind = 2 ∨ x.kind = 3 ∨ x.kind = 4 ∨ x.kind = 5) (h : (x.kind ≠ 0 → x.set = []) ∧ (x.kind ≠ 1 → x.K = 0 ∧ x.hs = []) ∧ (x.kind ≠ 2 → x.P = 0 ∧ x.rg = []) ∧ (x.kind ≠ 3 → x.B = 0 ∧ x.H = 0 ∧ x.bs = []) ∧ (x.kind ≠ 4 → x.R = 0 ∧ x.C = 0 ∧ x.cs = []) ∧ (x.kind ≠ 5 → x.gK = 0 ∧ x.g = gz.nf)) : x = onlyN x := by
  obtain ⟨a0, a1, a2, a3, a4, a5⟩ := h
  cases x
  simp only at hk a0 a1 a2 a3 a4 a5
  unfold onlyN skZ
  rcases hk with k | k | k | k | k | k
  all_goals subst k
  all_goals simp at a0 a1 a2 a3 a4 a5
  all_goals simp [a0, a1, a2, a3, a4, a5]
/-- The same sizes in all are the same sizes of one's kind. -/
theorem same_like {x y : SkN} (hx : Fine x) (hy : Fine y) : likeN x y = decide (x.kind = y.kind ∧ x.K = y.K ∧ x.P = y.P ∧ x.B = y.B ∧ x.H = y.H ∧ x.R = y.R ∧ x.C = y.C ∧ x.gK = y.gK) := by
  obtain ⟨kd, on, sp⟩ := checkN_ok.mp hx.c
  obtain ⟨kd', on', sp'⟩ := checkN_ok.mp hy.c
  obtain ⟨a0, a1, a2, a3, a4, a5⟩ := onlyN_idem x on
  obtain ⟨b0, b1, b2, b3, b4, b5⟩ := onlyN_idem y on'
  apply Bool.eq_iff_iff.mpr
  rw [decide_eq_true_eq]
  constructor
  · intro h
    have hk := like_kind h
    obtain ⟨l1, l2, l3, l4, l5⟩ := like_sz h
    rw [← hk] at b1 b2 b3 b4 b5
    refine ⟨hk, ?_, ?_, ?_, ?_, ?_, ?_, ?_⟩
    · by_cases k : x.kind = 1
      · exact l1 k
      · rw [(a1 k).1, (b1 k).1]
    · by_cases k : x.kind = 2
      · exact l2 k
      · rw [(a2 k).1, (b2 k).1]
    · by_cases k : x.kind = 3
      · exact (l3 k).1
      · rw [(a3 k).1, (b3 k).1]
    · by_cases k : x.kind = 3
      · exact (l3 k).2
      · rw [(a3 k).2.1, (b3 k).2.1]
    · by_cases k : x.kind = 4
      · exact (l4 k).1
      · rw [(a4 k).1, (b4 k).1]
    · by_cases k : x.kind = 4
      · exact (l4 k).2
      · rw [(a4 k).2.1, (b4 k).2.1]
    · by_cases k : x.kind = 5
      · exact l5 k
      · rw [(a5 k).1, (b5 k).1]
  · rintro ⟨h1, h2, h3, h4, h5, h6, h7, h8⟩
    exact like_of h1 ⟨fun _ => h2, fun _ => h3, fun _ => ⟨h4, h5⟩, fun _ => ⟨h6, h7⟩, fun _ => h8⟩
theorem seeN0_kind (x : SkN) (h : Int) : (seeN0 x h).kind = x.kind := by
  unfold seeN0; repeat' split
  all_goals rfl
theorem see_fine {x : SkN} (hx : Fine x) {h : Int} (hh : 0 ≤ h ∧ h < 18446744073709551616) (hs : x.kind = 0 → x.set.length < 4096) : Fine (seeN0 x h) := by
  obtain ⟨kd, on, sp⟩ := checkN_ok.mp hx.c
  have w := hx.w
  obtain ⟨a0, a1, a2, a3, a4, a5⟩ := onlyN_idem x on
  have hm : 0 ≤ h % 4294967296 ∧ h % 4294967296 < 4294967296 := by omega
  have only : ∀ o : SkN, o.kind = x.kind → (x.kind ≠ 0 → o.set = x.set) → (x.kind ≠ 1 → o.hs = x.hs) → (x.kind ≠ 2 → o.rg = x.rg) → (x.kind ≠ 3 → o.bs = x.bs) → (x.kind ≠ 4 → o.cs = x.cs) → o.K = x.K → o.P = x.P → o.B = x.B → o.H = x.H → o.R = x.R → o.C = x.C → o.gK = x.gK → o.g = x.g → o = onlyN o := by
    intro o e1 e2 e3 e4 e5 e6 e7 e8 e9 e10 e11 e12 e13 e14
    have c := six w kd
    rw [← e1] at e2 e3 e4 e5 e6 a0 a1 a2 a3 a4 a5 c
    exact onlyN_of c ⟨fun k => (e2 k).trans (a0 k), fun k => ⟨e7.trans (a1 k).1, (e3 k).trans (a1 k).2⟩, fun k => ⟨e8.trans (a2 k).1, (e4 k).trans (a2 k).2⟩, fun k => ⟨e9.trans (a3 k).1, e10.trans (a3 k).2.1, (e5 k).trans (a3 k).2.2⟩, fun k => ⟨e11.trans (a4 k).1, e12.trans (a4 k).2.1, (e6 k).trans (a4 k).2.2⟩, fun k => ⟨e13.trans (a5 k).1, e14.trans (a5 k).2⟩⟩
  rcases six w kd with k | k | k | k | k | k
  · have e : seeN0 x h = { x with set := mrg x.set [h % 4294967296] } := by unfold seeN0; simp [k]
    have l := len_mrg x.set [h % 4294967296]
    have hs := hs k
    simp at l
    rw [e]
    simp [k] at sp
    refine ⟨⟨w.kind, mem_u32_mrg w.set (by intro n hn; simp at hn; subst hn; exact hm), by show (mrg x.set [h % 4294967296]).length ≤ _; omega, w.hsL, w.rg, w.rgL, w.bs, w.bsL, w.cs, w.csL⟩, ?_, hx.pos⟩
    rw [checkN_ok]
    refine ⟨kd, only _ rfl (fun h => absurd k h) (fun _ => rfl) (fun _ => rfl) (fun _ => rfl) (fun _ => rfl) rfl rfl rfl rfl rfl rfl rfl rfl, ?_⟩
    simp [k]
    exact schk_ok.mpr ⟨by omega, rise_mrg _ _ (schk_ok.mp sp).2 (by simp)⟩
  · have e : seeN0 x h = { x with hs := (mrg x.hs [h]).take x.K.toNat } := by unfold seeN0; simp [k]
    have l := len_mrg x.hs [h]
    simp at l
    have hl := w.hsL
    rw [e]
    simp [k] at sp
    obtain ⟨c1, c2, c3⟩ := kchk_ok.mp sp
    refine ⟨⟨w.kind, w.set, w.setL, by show ((mrg x.hs [h]).take x.K.toNat).length ≤ _; rw [List.length_take]; omega, w.rg, w.rgL, w.bs, w.bsL, w.cs, w.csL⟩, ?_, hx.pos⟩
    rw [checkN_ok]
    refine ⟨kd, only _ rfl (fun _ => rfl) (fun h => absurd k h) (fun _ => rfl) (fun _ => rfl) (fun _ => rfl) rfl rfl rfl rfl rfl rfl rfl rfl, ?_⟩
    simp [k]
    exact kchk_ok.mpr ⟨c1, by rw [List.length_take]; omega, rise_take _ (rise_mrg _ _ c3 (by simp))⟩
  · have e : seeN0 x h = { x with rg := hadd x.P x.rg h } := by unfold seeN0; simp [k]
    rw [e]
    simp [k] at sp
    obtain ⟨c1, c2, c3⟩ := hchk_ok.mp sp
    refine ⟨⟨w.kind, w.set, w.setL, w.hsL, hadd_u8 c1 w.rg, by show (hadd x.P x.rg h).length ≤ _; rw [hadd_len]; exact w.rgL, w.bs, w.bsL, w.cs, w.csL⟩, ?_, hx.pos⟩
    rw [checkN_ok]
    refine ⟨kd, only _ rfl (fun _ => rfl) (fun _ => rfl) (fun h => absurd k h) (fun _ => rfl) (fun _ => rfl) rfl rfl rfl rfl rfl rfl rfl rfl, ?_⟩
    simp [k]
    exact hchk_ok.mpr ⟨c1, by rw [hadd_len]; exact c2, hadd_le c1 c3⟩
  · have e : seeN0 x h = { x with bs := adds x.bs (plg x.B x.H h) } := by unfold seeN0; simp [k]
    rw [e]
    simp [k] at sp
    obtain ⟨hB, hH, hg⟩ := good_chk sp w.bs
    have hga := adds_good hg (plg_in (H := x.H) (h := h) hB.1)
    have hl := hga.len hB.2
    refine ⟨⟨w.kind, w.set, w.setL, w.hsL, w.rg, w.rgL, hga.in32 hB.2, by show (adds x.bs (plg x.B x.H h)).length ≤ _; omega, w.cs, w.csL⟩, ?_, hx.pos⟩
    rw [checkN_ok]
    refine ⟨kd, only _ rfl (fun _ => rfl) (fun _ => rfl) (fun _ => rfl) (fun h => absurd k h) (fun _ => rfl) rfl rfl rfl rfl rfl rfl rfl rfl, ?_⟩
    simp [k]
    exact chk_good hB hH hga
  · have e : seeN0 x h = { x with cs := cadd x.R x.C h 1 x.cs } := by unfold seeN0; simp [k]
    rw [e]
    simp [k] at sp
    obtain ⟨c1, c2, c3⟩ := cchk_ok.mp sp
    refine ⟨⟨w.kind, w.set, w.setL, w.hsL, w.rg, w.rgL, w.bs, w.bsL, cadd_u32 (by omega) w.cs, by show (cadd x.R x.C h 1 x.cs).length ≤ _; rw [cadd_len]; exact w.csL⟩, ?_, hx.pos⟩
    rw [checkN_ok]
    refine ⟨kd, only _ rfl (fun _ => rfl) (fun _ => rfl) (fun _ => rfl) (fun _ => rfl) (fun h => absurd k h) rfl rfl rfl rfl rfl rfl rfl rfl, ?_⟩
    simp [k]
    exact cchk_ok.mpr ⟨c1, c2, by rw [cadd_len]; exact c3⟩
  · have e : seeN0 x h = x := by unfold seeN0; simp [k]
    rw [e]; exact hx
theorem see_like (x : SkN) (h : Int) : likeN x (seeN0 x h) = true := by
  refine like_of (seeN0_kind x h).symm ?_
  unfold seeN0
  repeat' split
  all_goals exact ⟨fun _ => rfl, fun _ => rfl, fun _ => ⟨rfl, rfl⟩, fun _ => ⟨rfl, rfl⟩, fun _ => rfl⟩
theorem seeN_ok {x : SkN} (hx : Fine x) {h : Int} (hh : 0 ≤ h ∧ h < 18446744073709551616) (hs : x.kind = 0 → x.set.length < 4096) : seeN x h = (seeN0 x h, 0) := by
  unfold seeN okN
  rw [if_neg (by simpa using hx.c), if_pos (see_fine hx hh hs).c]
theorem sketchN_set (s : Sm) (ok : s.Ok) (hl : s.hs.length ≤ 40) : (sketchN s).set.length ≤ 1600 := by
  have l := srt_len (smset s.few s.hs) []
  have l2 := smset_len s.few ok.hs
  simp at l
  unfold sketchN
  repeat' split
  · show (srt [] (smset s.few s.hs)).length ≤ _; omega
  all_goals exact Nat.zero_le _
end Go.Proofs.Ytalnoedhacobkaa.AI
