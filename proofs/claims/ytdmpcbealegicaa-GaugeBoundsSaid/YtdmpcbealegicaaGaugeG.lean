/- Gauges: the law of the bounds. -/
import Derived.Test.YtdmpcbealegicaaGaugeE
namespace Go.Proofs.Ytdmpcbealegicaa.AI
open Go
set_option linter.unusedVariables false
set_option linter.unusedSimpArgs false

section
variable (e0 e1 e2 e3 e4 e5 : Int)
theorem ix44_0 : ixV Go.Proofs.Try.prog 44 (.agg #[.int .u32 e0, .int .u32 e1, .int .u32 e2, .int .u32 e3, .int .u32 e4, .int .u32 e5]) (.int .i64 0) = some (.int .u32 e0) := by kernel_rfl
theorem ix44_1 : ixV Go.Proofs.Try.prog 44 (.agg #[.int .u32 e0, .int .u32 e1, .int .u32 e2, .int .u32 e3, .int .u32 e4, .int .u32 e5]) (.int .i64 1) = some (.int .u32 e1) := by kernel_rfl
theorem ix44_2 : ixV Go.Proofs.Try.prog 44 (.agg #[.int .u32 e0, .int .u32 e1, .int .u32 e2, .int .u32 e3, .int .u32 e4, .int .u32 e5]) (.int .i64 2) = some (.int .u32 e2) := by kernel_rfl
theorem ix44_3 : ixV Go.Proofs.Try.prog 44 (.agg #[.int .u32 e0, .int .u32 e1, .int .u32 e2, .int .u32 e3, .int .u32 e4, .int .u32 e5]) (.int .i64 3) = some (.int .u32 e3) := by kernel_rfl
theorem ix44_4 : ixV Go.Proofs.Try.prog 44 (.agg #[.int .u32 e0, .int .u32 e1, .int .u32 e2, .int .u32 e3, .int .u32 e4, .int .u32 e5]) (.int .i64 4) = some (.int .u32 e4) := by kernel_rfl
theorem ix44_5 : ixV Go.Proofs.Try.prog 44 (.agg #[.int .u32 e0, .int .u32 e1, .int .u32 e2, .int .u32 e3, .int .u32 e4, .int .u32 e5]) (.int .i64 5) = some (.int .u32 e5) := by kernel_rfl
end
theorem bounds_end (K : Int) (k : Nat) (l : List (Int × Int)) (g : Gs) (p : Int × Int) (hK : 1 ≤ K) (hl : l.length ≤ 50) (hI : ∀ q ∈ l, InI q) (hpI : InI p) (hg : GR K (l.map wd) g) (hp : Hp) : ∀ (r : List (Int × Int)) (i : Nat), l.drop i = r →
    B8_13 (.int .u32 g.M) (S k 2 (LP l)) (.int .i64 l.length) (.int .i64 i) [.sc (.int .u64 p.1), .sc (.int .u8 p.2)] [.sc (.int .i64 K), .sc (.int .u32 g.M), .sc (.int .u32 g.e0), .sc (.int .u32 g.e1), .sc (.int .u32 g.e2), .sc (.int .u32 g.e3), .sc (.int .u32 g.e4), .sc (.int .u32 g.e5), fl g.lo, fl g.hi, S 2 1 (LF g.L)] hp =
      some (.sc (.bool true), hp) := by
  intro r
  induction r with
  | nil =>
    intro i hr
    have := drop_nil hr
    have hlt : ¬((i : Int) < (l.length : Int)) := by omega
    have it := fun hp => run_item p hpI hp
    have hw := (wd_ok hpI).1
    have ad := fun k hp => run_gadd K k (wd p) hK hg (by simp; omega) hw hp
    have h2 := hg.merge (gone_ok hK hw) (by simp; omega)
    generalize gmg K g (gone (wd p)) = G at ad h2
    have ed := fun hp => run_edge (wd p) hw hp
    have hM : G.M = g.M + 1 := by rw [h2.M, hg.M]; simp
    have wM : IntKind.u32.wrap (g.M + 1) = g.M + 1 := wrapu32 (by rw [hg.M]; omega) (by rw [hg.M]; simp; omega)
    have lo := fun hp => run_less g.lo G.lo hg.lo h2.lo hp
    have hi := fun hp => run_less G.hi g.hi h2.hi hg.hi hp
    have l1 : (kw g.lo < kw G.lo) = False := eq_false (by rw [hg.klo, h2.klo, lowK_append]; omega)
    have l2 : (kw G.hi < kw g.hi) = False := eq_false (by rw [hg.khi, h2.khi, highK_append]; omega)
    simp only [l1, l2, decide_false] at lo hi
    have nn : ¬isN G.lo := by
      intro hn
      have h3 := kw_nan hn
      have h4 := lowK_le (l.map wd ++ [wd p])
      rw [h2.klo] at h3
      omega
    have u0 : idx 6 (.int .u8 0) = some 0 := by kernel_rfl
    have u1 : idx 6 (.int .u8 1) = some 1 := by kernel_rfl
    have u2 : idx 6 (.int .u8 2) = some 2 := by kernel_rfl
    have u3 : idx 6 (.int .u8 3) = some 3 := by kernel_rfl
    have u4 : idx 6 (.int .u8 4) = some 4 := by kernel_rfl
    have u5 : idx 6 (.int .u8 5) = some 5 := by kernel_rfl
    have he := edge_in (wd p)
    have hc : edge (wd p) = 0 ∨ edge (wd p) = 1 ∨ edge (wd p) = 2 ∨ edge (wd p) = 3 ∨ edge (wd p) = 4 ∨ edge (wd p) = 5 := by omega
    have b32 : ∀ (n : Nat), n ≤ 50 → IntKind.u32.wrap ((n : Int) + 1) = (n : Int) + 1 := fun n hn => wrapu32 (by omega) (by omega)
    have cl : ∀ i, cnt i (l.map wd) ≤ 50 := fun i => by have := cnt_le i (l.map wd); simp at this; omega
    rw [B8_13_eq]
    rcases hc with e | e | e | e | e | e <;> rw [e] at ed
    · have q : G.e0 = g.e0 + 1 := by rw [h2.e0, hg.e0, cnt_append]; simp [cnt, e]
      have w : IntKind.u32.wrap (g.e0 + 1) = g.e0 + 1 := by rw [hg.e0]; exact b32 _ (cl 0)
      simp [hlt, getN, it, ad, putN, getSc, hM, wM, ed, u0, q, w, lo, hi, fEq_self, nn]
    · have q : G.e1 = g.e1 + 1 := by rw [h2.e1, hg.e1, cnt_append]; simp [cnt, e]
      have w : IntKind.u32.wrap (g.e1 + 1) = g.e1 + 1 := by rw [hg.e1]; exact b32 _ (cl 1)
      simp [hlt, getN, it, ad, putN, getSc, hM, wM, ed, u1, q, w, lo, hi, fEq_self, nn]
    · have q : G.e2 = g.e2 + 1 := by rw [h2.e2, hg.e2, cnt_append]; simp [cnt, e]
      have w : IntKind.u32.wrap (g.e2 + 1) = g.e2 + 1 := by rw [hg.e2]; exact b32 _ (cl 2)
      simp [hlt, getN, it, ad, putN, getSc, hM, wM, ed, u2, q, w, lo, hi, fEq_self, nn]
    · have q : G.e3 = g.e3 + 1 := by rw [h2.e3, hg.e3, cnt_append]; simp [cnt, e]
      have w : IntKind.u32.wrap (g.e3 + 1) = g.e3 + 1 := by rw [hg.e3]; exact b32 _ (cl 3)
      simp [hlt, getN, it, ad, putN, getSc, hM, wM, ed, u3, q, w, lo, hi, fEq_self, nn]
    · have q : G.e4 = g.e4 + 1 := by rw [h2.e4, hg.e4, cnt_append]; simp [cnt, e]
      have w : IntKind.u32.wrap (g.e4 + 1) = g.e4 + 1 := by rw [hg.e4]; exact b32 _ (cl 4)
      simp [hlt, getN, it, ad, putN, getSc, hM, wM, ed, u4, q, w, lo, hi, fEq_self, nn]
    · have q : G.e5 = g.e5 + 1 := by rw [h2.e5, hg.e5, cnt_append]; simp [cnt, e]
      have w : IntKind.u32.wrap (g.e5 + 1) = g.e5 + 1 := by rw [hg.e5]; exact b32 _ (cl 5)
      simp [hlt, getN, it, ad, putN, getSc, hM, wM, ed, u5, q, w, lo, hi, fEq_self, nn]
  | cons q r ih =>
    intro i hr
    obtain ⟨e1, e2, hi, e3⟩ := drop_cons hr
    have hq := List.mem_of_getElem? e1
    have hqI := hI q hq
    have hmem : wd q ∈ l.map wd := List.mem_map.mpr ⟨q, hq, rfl⟩
    have it := fun hp => run_item q hqI hp
    have hw := (wd_ok hqI).1
    have ix := idxA_P k e1
    have g1 := ih (i + 1) e2
    have hwi : IntKind.i64.wrap ((i : Int) + 1) = ((i + 1 : Nat) : Int) := by rw [wrap64] <;> omega
    rw [B8_13_eq]
    simp at g1 hwi
    by_cases hn : isN (wd q)
    · simp [hi, ix, getN, putN, it, fEq_self, hn, B8_18_eq, hwi, g1]
    · have lo := fun hp => run_less (wd q) g.lo hw hg.lo hp
      have hh := fun hp => run_less g.hi (wd q) hg.hi hw hp
      have l1 : (kw (wd q) < kw g.lo) = False := eq_false (by rw [hg.klo]; have := lowK_mem hmem hn; omega)
      have l2 : (kw g.hi < kw (wd q)) = False := eq_false (by rw [hg.khi]; have := highK_mem hmem hn; omega)
      simp only [l1, l2, decide_false] at lo hh
      simp [hi, ix, getN, putN, it, fEq_self, hn, getSc, lo, hh, B8_18_eq, hwi, g1]
theorem law_GaugeBounds (c : Int) (wc : InK .u8 c) (k : Nat) (l : List (Int × Int)) (wl : ∀ q ∈ l, InI q) (x : Int) (wx : InK .u64 x) (e : Int) (we : InK .u8 e) (hp : Hp) :
    ∃ hp', run cxX 8 [.sc (.int .u8 c), S k 2 (LP l), .agg [.sc (.int .u64 x), .sc (.int .u8 e)]] hp = some (.sc (.bool true), hp') := by
  refine ⟨hp, ?_⟩
  rw [E8]
  by_cases h1 : (50 : Int) < (l.length : Int)
  · simp [run_gawake, lenA_P, h1]
  · have r1 := fun k hp => run_gauge c k l wc.u8 (by omega) wl hp
    have hK : 1 ≤ 1 + c % 16 := by have := wc.u8; omega
    generalize 1 + c % 16 = K at r1 hK
    have g1 := gfold_ok hK (gnew_ok K) (ws_wd wl) (by simp; omega)
    generalize gfold K gnew (l.map wd) = g at r1 g1
    rw [List.nil_append] at g1
    have t := fun k hp => bounds_end K k l g (x, e) hK (by omega) wl ⟨wx.u64, we.u8⟩ g1 hp l 0 rfl
    have cs := cnt_sum (l.map wd)
    rw [List.length_map] at cs
    have hM : g.M = g.e0 + g.e1 + g.e2 + g.e3 + g.e4 + g.e5 := by
      rw [g1.M, g1.e0, g1.e1, g1.e2, g1.e3, g1.e4, g1.e5, List.length_map]; omega
    have p0 : 0 ≤ g.e0 := by rw [g1.e0]; omega
    have p1 : 0 ≤ g.e1 := by rw [g1.e1]; omega
    have p2 : 0 ≤ g.e2 := by rw [g1.e2]; omega
    have p3 : 0 ≤ g.e3 := by rw [g1.e3]; omega
    have p4 : 0 ≤ g.e4 := by rw [g1.e4]; omega
    have p5 : 0 ≤ g.e5 := by rw [g1.e5]; omega
    have pM : g.M ≤ 50 := by rw [g1.M, List.length_map]; omega
    have v0 : IntKind.u32.wrap g.e0 = g.e0 := wrapu32 p0 (by omega)
    have v1 : IntKind.u32.wrap (g.e0 + g.e1) = g.e0 + g.e1 := wrapu32 (by omega) (by omega)
    have v2 : IntKind.u32.wrap (g.e0 + g.e1 + g.e2) = g.e0 + g.e1 + g.e2 := wrapu32 (by omega) (by omega)
    have v3 : IntKind.u32.wrap (g.e0 + g.e1 + g.e2 + g.e3) = g.e0 + g.e1 + g.e2 + g.e3 := wrapu32 (by omega) (by omega)
    have v4 : IntKind.u32.wrap (g.e0 + g.e1 + g.e2 + g.e3 + g.e4) = g.e0 + g.e1 + g.e2 + g.e3 + g.e4 := wrapu32 (by omega) (by omega)
    have v5 : IntKind.u32.wrap (g.e0 + g.e1 + g.e2 + g.e3 + g.e4 + g.e5) = g.M := by rw [hM]; exact wrapu32 (by omega) (by omega)
    have w2 : IntKind.i64.wrap 2 = 2 := rfl
    have w3 : IntKind.i64.wrap 3 = 3 := rfl
    have w4 : IntKind.i64.wrap 4 = 4 := rfl
    have w5 : IntKind.i64.wrap 5 = 5 := rfl
    have w6 : IntKind.i64.wrap 6 = 6 := rfl
    simp at t
    simp [run_gawake, lenA_P, h1, r1, putN, getN]
    rw [B8_8_eq]
    simp [concA, allSc, ix44_0, v0]
    rw [B8_8_eq]
    simp [concA, allSc, ix44_1, v1, w2]
    rw [B8_8_eq]
    simp [concA, allSc, ix44_2, v2, w3]
    rw [B8_8_eq]
    simp [concA, allSc, ix44_3, v3, w4]
    rw [B8_8_eq]
    simp [concA, allSc, ix44_4, v4, w5]
    rw [B8_8_eq]
    simp [concA, allSc, ix44_5, v5, w6]
    rw [B8_8_eq]
    simp [lenA_P, t]
end Go.Proofs.Ytdmpcbealegicaa.AI
