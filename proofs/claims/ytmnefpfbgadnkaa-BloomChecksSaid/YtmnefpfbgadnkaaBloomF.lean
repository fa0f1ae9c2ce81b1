/- Filters: the laws of what is full and of the same hash again. -/
import Derived.Test.YtmnefpfbgadnkaaBloomE
namespace Go.Proofs.Ytmnefpfbgadnkaa.AI
open Go
set_option linter.unusedVariables false
set_option linter.unusedSimpArgs false

theorem plg_ne {B H h : Int} (hH : 1 ≤ H) : plg B H h ≠ [] := by
  intro e
  have := plg_len B H h
  rw [e] at this
  simp at this
  omega
/-- Has, of a filter that may be. -/
theorem run_has_good (B H : Int) (l : List Int) (k : Nat) (h : Int) (hB : 1 ≤ B ∧ B ≤ 4096) (hH : 1 ≤ H ∧ H ≤ 8) (hg : Good B l) (hp : Hp) :
    run cxX 17 [Bl (.int .i64 B) (.int .i64 H) (S k 1 (LI .u32 l)), .sc (.int .u64 h)] hp = some (.sc (.bool (decide (∀ n ∈ plg B H h, n ∈ l))), hp) := by
  have hlen := hg.len hB.2
  rw [run_has B H l k h (by omega) (hg.in32 hB.2) hp, pls_good hB hH hg]
  have := plg_ne (B := B) (h := h) hH.1
  simp [this]
/-! ### BloomFull -/
/-- The numbers below. -/
def upto : Nat → List Int
  | 0 => []
  | n + 1 => upto n ++ [(n : Int)]
theorem upto_len : ∀ n, (upto n).length = n
  | 0 => rfl
  | n + 1 => by simp [upto, upto_len n]
theorem mem_upto (x : Int) : ∀ n : Nat, x ∈ upto n ↔ 0 ≤ x ∧ x < n
  | 0 => by simp [upto] <;> omega
  | n + 1 => by
    rw [upto, List.mem_append, mem_upto x n]
    simp
    omega
theorem upto_rise : ∀ n, Rise (upto n)
  | 0 => List.Pairwise.nil
  | n + 1 => by
    rw [upto]
    refine List.pairwise_append.mpr ⟨upto_rise n, by simp, fun a ha b hb => ?_⟩
    have := (mem_upto a n).mp ha
    simp at hb
    omega
theorem upto_good (n : Nat) : Good n (upto n) := ⟨upto_rise n, fun x hx => (mem_upto x n).mp hx⟩
theorem full_tail (B H h : Int) (l : List Int) (k : Nat) (hB : 1 ≤ B ∧ B ≤ 4096) (hH : 1 ≤ H ∧ H ≤ 8) (hl : l = upto B.toNat) (hp : Hp) : ∀ (r : List Int) (i : Nat), (plg B H h).drop i = r →
    B7_12 (.int .u64 h) (S k 1 (LI .u32 (plg B H h))) (.int .i64 (plg B H h).length) (.int .i64 i) [.sc (.int .i64 B), .sc (.int .i64 H), S 2 1 []] [.sc (.int .i64 B), .sc (.int .i64 H), S 2 1 (LI .u32 l)] hp = some (.sc (.bool true), hp) := by
  have hlen := plg_len B H h
  have hg : Good B l := by
    have := upto_good B.toNat
    rw [← hl] at this
    have e : ((B.toNat : Nat) : Int) = B := by omega
    rwa [e] at this
  have gl := hg.len hB.2
  have hall : ∀ n ∈ plg B H h, n ∈ l := fun n hn => by
    have := plg_in hB.1 n hn
    rw [hl, mem_upto]; omega
  intro r
  induction r with
  | nil =>
    intro i hr
    have := drop_nil hr
    have hlt : ¬((i : Int) < ((plg B H h).length : Int)) := by omega
    have c := fun k hp => run_check B H l k (by omega) (hg.in32 hB.2) hp
    rw [chk_good hB hH hg] at c
    have a := fun k hp => run_has_good B H l k h hB hH hg hp
    have a0 := fun k hp => run_has_good B H [] k h hB hH (Good.nil B) hp
    have hne : ¬∀ (n : Int), n ∈ plg B H h → n ∈ ([] : List Int) := by
      intro hh
      cases e : plg B H h with
      | nil => exact plg_ne hH.1 e
      | cons x r => exact absurd (hh x (by rw [e]; simp)) (by simp)
    have d := fun k hp => run_add B H l k h hB hH hg hp
    have e1 : adds l (plg B H h) = l := rise_ext (adds_good hg (plg_in hB.1)).1 hg.1 fun n => by
      rw [mem_adds]; exact ⟨fun h' => h'.elim id (hall n), .inl⟩
    rw [e1] at d
    have m := fun k k' hp => run_merge (.int .i64 B) (.int .i64 H) (.int .i64 B) (.int .i64 H) [] l k k' hp (by simp; omega)
    have s := fun k k' hp => run_same B H B H l l k k' hp (by omega) (by omega)
    have p0 := fun k hp => run_places B H [] k h (by simp) (by simp [In32]) hp
    rw [pls_good hB hH (Good.nil B)] at p0
    have eH : (((plg B H h).length : Nat) : Int) = H := by rw [hlen]; omega
    have hall' : (∀ (n : Int), n ∈ plg B H h → n ∈ l) = True := eq_true hall
    have hne' : (∀ (n : Int), n ∈ plg B H h → n ∈ ([] : List Int)) = False := eq_false hne
    simp only [hall', decide_true] at a
    simp only [hne', decide_false] at a0
    have hlt' : ¬((i : Int) < H) := by omega
    simp at a0 m s p0
    rw [B7_12_eq]
    simp [hlt', getN, getSc, c, a, a0, d, s, m, p0, eH]
  | cons x r ih =>
    intro i hr
    obtain ⟨e1, e2, hi, e3⟩ := drop_cons hr
    have hx := plg_in hB.1 x (List.mem_of_getElem? e1)
    have h := ih (i + 1) e2
    have hw : IntKind.i64.wrap ((i : Int) + 1) = ((i + 1 : Nat) : Int) := by rw [wrap64] <;> omega
    have hwx : IntKind.i64.wrap x = x := wrap64 (by omega) (by omega)
    have hge : ¬(B ≤ x) := by omega
    rw [B7_12_eq]
    simp at h hw
    simp [hi, e3, getSc, cv_29_3, hwx, hge, hw, h]
theorem full_loop (B H h : Int) (hB : 1 ≤ B ∧ B ≤ 4096) (hH : 1 ≤ H ∧ H ≤ 8) (hp : Hp) : ∀ (n i : Nat), B = ((i + n : Nat) : Int) →
    B7_7 (.int .u64 h) (.int .u32 B) (.int .u32 i) [.sc (.int .i64 B), .sc (.int .i64 H), S 2 1 []] [.sc (.int .i64 B), .sc (.int .i64 H), S 2 1 (LI .u32 (upto i))] hp = some (.sc (.bool true), hp) := by
  intro n
  induction n with
  | zero =>
    intro i hi
    have hlt : ¬((i : Int) < B) := by omega
    have e : i = B.toNat := by omega
    have t := full_tail B H h (upto i) 2 hB hH (by rw [e]) hp _ 0 rfl
    have p0 := fun k hp => run_places B H [] k h (by simp) (by simp [In32]) hp
    rw [pls_good hB hH (Good.nil B)] at p0
    simp at p0 t
    rw [B7_7_eq]
    simp [hlt, getN, p0, t]
  | succ n ih =>
    intro i hi
    have hlt : (i : Int) < B := by omega
    have h1 := ih (i + 1) (by omega)
    have hw : IntKind.u32.wrap ((i : Int) + 1) = (i : Int) + 1 := wrapu32 (by omega) (by omega)
    have ap := appI .u32 (upto i) 2 (.inr rfl) 4 (by decide) (i : Int) (by rw [upto_len]; omega)
    rw [B7_7_eq]
    simp [upto] at h1
    simp [hlt, getC, ap, putN, hw, h1]
theorem run_full (b h x : Int) (hb : 0 ≤ b ∧ b < 65536) (hh : 0 ≤ h ∧ h < 256) (hp : Hp) : run cxX 7 [.sc (.int .u16 b), .sc (.int .u8 h), .sc (.int .u64 x)] hp = some (.sc (.bool true), hp) := by
  rw [E7]
  have r0 := fun hp => run_bloom b h 2 [] hb hh (by simp) hp
  generalize hB : 1 + b % 300 = B at r0
  generalize hH : 1 + h % 8 = H at r0
  have gB : 1 ≤ B ∧ B ≤ 4096 := by omega
  have gH : 1 ≤ H ∧ H ≤ 8 := by omega
  have hw : IntKind.u32.wrap B = B := wrapu32 (by omega) (by omega)
  have hl := full_loop B H x gB gH hp B.toNat 0 (by omega)
  simp [upto] at hl
  simp [blm] at r0
  simp [run_awake, r0, getN, putN, getSc, cv_3_29, hw, hl]
theorem law_BloomFull (b : Int) (wb : InK .u16 b) (h : Int) (wh : InK .u8 h) (x : Int) (wx : InK .u64 x) (hp : Hp) : ∃ hp', run cxX 7 [.sc (.int .u16 b), .sc (.int .u8 h), .sc (.int .u64 x)] hp = some (.sc (.bool true), hp') :=
  ⟨hp, run_full b h x wb.u16 wh.u8 hp⟩
/-! ### BloomTwice -/
theorem len_adds : ∀ (r l : List Int), (adds l r).length ≤ l.length + r.length
  | [], l => by simp [adds]
  | n :: r, l => by
    have h1 := len_adds r (mrg l [n])
    have h2 := len_mrg l [n]
    simp at h2 ⊢
    rw [adds]
    omega
theorem twice_tail (b h B H x y : Int) (l back : List Int) (k : Nat) (a2 : AV) (hb : 0 ≤ b ∧ b < 65536) (hh : 0 ≤ h ∧ h < 256) (hB : 1 + b % 300 = B) (hH : 1 + h % 8 = H) (hl : back.length ≤ 30) (hs : ∀ n, n ∈ back ↔ n ∈ l) (hp : Hp) :
    B6_8 (.int .u16 b) (.int .u8 h) a2 (.int .u64 x) (.int .u64 y) (S 2 1 (LI .u64 back)) (.int .i64 (-1)) [.sc (.int .i64 B), .sc (.int .i64 H), S k 1 (LI .u32 (blm B H [] l))] hp = some (.sc (.bool true), hp) := by
  have gB : 1 ≤ B ∧ B ≤ 4096 := by omega
  have gH : 1 ≤ H ∧ H ≤ 8 := by omega
  have r1 := fun k hp => run_bloom b h k back hb hh (by omega) hp
  rw [hB, hH] at r1
  have e0 : blm B H [] back = blm B H [] l := rise_ext (blm_good gB.1 (Good.nil B)).1 (blm_good gB.1 (Good.nil B)).1 fun n => by
    rw [mem_blm, mem_blm]; simp [hs]
  rw [e0] at r1
  have gA := blm_good gB.1 (r := l) (H := H) (Good.nil B)
  generalize blm B H [] l = A at r1 gA
  have gC := adds_good gA (plg_in (H := H) (h := x) gB.1)
  have lA := gA.len gB.2
  have lC := gC.len gB.2
  have d1 := fun k hp => run_add B H A k x gB gH gA hp
  have d2 := fun k hp => run_add B H (adds A (plg B H x)) k x gB gH gC hp
  have e1 : adds (adds A (plg B H x)) (plg B H x) = adds A (plg B H x) := rise_ext (adds_good gC (plg_in gB.1)).1 gC.1 fun n => by
    rw [mem_adds, mem_adds, or_assoc, or_self]
  rw [e1] at d2
  have h1 := fun k hp => run_has_good B H (adds A (plg B H x)) k x gB gH gC hp
  have h2 := fun k hp => run_has_good B H (adds A (plg B H x)) k y gB gH gC hp
  have h3 := fun k hp => run_has_good B H A k x gB gH gA hp
  have h4 := fun k hp => run_has_good B H A k y gB gH gA hp
  have hC : ∀ n ∈ plg B H x, n ∈ adds A (plg B H x) := fun n hn => (mem_adds n _ _).mpr (.inr hn)
  have hAC : (∀ n ∈ plg B H y, n ∈ A) → ∀ n ∈ plg B H y, n ∈ adds A (plg B H x) := fun hh n hn => (mem_adds n _ _).mpr (.inl (hh n hn))
  have e2 : (∀ n ∈ plg B H x, n ∈ A) → adds A (plg B H x) = A := fun hh => rise_ext gC.1 gA.1 fun n => by
    rw [mem_adds]; exact ⟨fun h' => h'.elim id (hh n), .inl⟩
  have hlen : ((adds A (plg B H x)).length : Int) ≤ (A.length : Int) + H := by
    have := len_adds (plg B H x) A
    rw [plg_len] at this
    omega
  have hw : IntKind.i64.wrap ((A.length : Int) + H) = (A.length : Int) + H := wrap64 (by omega) (by omega)
  have s1 := fun k k' hp => run_same B H B H (adds A (plg B H x)) (adds A (plg B H x)) k k' hp (by omega) (by omega)
  have s2 := fun k k' hp => run_same B H B H A A k k' hp (by omega) (by omega)
  have s3 := fun k k' hp => run_same B H B H A (adds A (plg B H x)) k k' hp (by omega) (by omega)
  simp at s1 s2 s3
  rw [B6_8_eq]
  by_cases c1 : ∀ n ∈ plg B H y, n ∈ A
  · have c2 := hAC c1
    by_cases c3 : ∀ n ∈ plg B H x, n ∈ A
    · have e3 := e2 c3
      rw [e3] at d1 d2 h1 h2 s1 s3 hC c2 hlen
      simp only [eq_true c1, eq_true c3, decide_true] at h1 h2 h3 h4
      simp [getN, putN, getSc, getC, d1, d2, h1, h2, h3, h4, s1, s2, s3, r1, hw, hlen]
    · have c3' : ¬(∀ (n : Int), n ∈ plg B H x → n ∈ A) := c3
      simp only [eq_true c1, eq_true c2, eq_false c3', eq_true hC, decide_true, decide_false] at h1 h2 h3 h4
      simp [getN, putN, getSc, getC, d1, d2, h1, h2, h3, h4, s1, s2, s3, r1, hw, hlen]
  · by_cases c3 : ∀ n ∈ plg B H x, n ∈ A
    · have e3 := e2 c3
      rw [e3] at d1 d2 h1 h2 s1 s3 hC hlen
      simp only [eq_false c1, eq_true c3, decide_true, decide_false] at h1 h2 h3 h4
      simp [getN, putN, getSc, getC, d1, d2, h1, h2, h3, h4, s1, s2, s3, r1, hw, hlen]
    · simp only [eq_false c1, eq_false c3, eq_true hC, decide_true, decide_false] at h1 h3 h4
      simp [getN, putN, getSc, getC, d1, d2, h1, h2, h3, h4, s1, s2, s3, r1, hw, hlen]
theorem twice_loop (b h B H x y : Int) (l : List Int) (k k' : Nat) (hb : 0 ≤ b ∧ b < 65536) (hh : 0 ≤ h ∧ h < 256) (hB : 1 + b % 300 = B) (hH : 1 + h % 8 = H) (hl : l.length ≤ 30) (hp : Hp) : ∀ (n : Nat) (back : List Int), n ≤ l.length → back.length + n = l.length → (∀ m, m ∈ back ↔ m ∈ l.drop n) →
    B6_8 (.int .u16 b) (.int .u8 h) (S k' 1 (LI .u64 l)) (.int .u64 x) (.int .u64 y) (S 2 1 (LI .u64 back)) (.int .i64 ((n : Int) - 1)) [.sc (.int .i64 B), .sc (.int .i64 H), S k 1 (LI .u32 (blm B H [] l))] hp = some (.sc (.bool true), hp) := by
  intro n
  induction n with
  | zero =>
    intro back hn hlen hm
    simpa using twice_tail b h B H x y l back k (S k' 1 (LI .u64 l)) hb hh hB hH (by omega) (by simpa using hm) hp
  | succ n ih =>
    intro back hn hlen hm
    have hlt : n < l.length := by omega
    have h1 := ih (back ++ [l[n]]) (by omega) (by simp; omega) (by
      intro m
      rw [List.drop_eq_getElem_cons hlt, List.mem_append, hm, List.mem_singleton, List.mem_cons]
      exact or_comm)
    have ap := appI .u64 back 2 (.inr rfl) 8 (by decide) l[n] (by omega)
    have hw : IntKind.i64.wrap ((n : Int) - 1) = (n : Int) - 1 := wrap64 (by omega) (by omega)
    rw [B6_8_eq]
    simp [hlt, getSc, ap, hw, h1]
theorem run_twice (b h x y : Int) (l : List Int) (k : Nat) (hb : 0 ≤ b ∧ b < 65536) (hh : 0 ≤ h ∧ h < 256) (hp : Hp) :
    run cxX 6 [.sc (.int .u16 b), .sc (.int .u8 h), S k 1 (LI .u64 l), .sc (.int .u64 x), .sc (.int .u64 y)] hp = some (.sc (.bool true), hp) := by
  rw [E6]
  by_cases h1 : (30 : Int) < (l.length : Int)
  · simp [run_awake, h1]
  · have r1 := fun k hp => run_bloom b h k l hb hh (by omega) hp
    have t := twice_loop b h (1 + b % 300) (1 + h % 8) x y l 2 k hb hh rfl rfl (by omega) hp l.length [] (by omega) (by simp) (by simp)
    have hw : IntKind.i64.wrap ((l.length : Int) - 1) = (l.length : Int) - 1 := wrap64 (by omega) (by omega)
    simp at t
    simp [run_awake, h1, r1, getN, putN, hw, t]
theorem law_BloomTwice (b : Int) (wb : InK .u16 b) (h : Int) (wh : InK .u8 h) (k : Nat) (l : List Int) (wl : ∀ n ∈ l, InK .u64 n) (x : Int) (wx : InK .u64 x) (y : Int) (wy : InK .u64 y) (hp : Hp) :
    ∃ hp', run cxX 6 [.sc (.int .u16 b), .sc (.int .u8 h), S k 1 (LI .u64 l), .sc (.int .u64 x), .sc (.int .u64 y)] hp = some (.sc (.bool true), hp') :=
  ⟨hp, run_twice b h x y l k wb.u16 wh.u8 hp⟩
end Go.Proofs.Ytmnefpfbgadnkaa.AI
