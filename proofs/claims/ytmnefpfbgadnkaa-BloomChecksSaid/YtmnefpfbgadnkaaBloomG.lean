/- Filters: the law of what may be one. -/
import Derived.Test.YtmnefpfbgadnkaaBloomF
namespace Go.Proofs.Ytmnefpfbgadnkaa.AI
open Go
set_option linter.unusedVariables false
set_option linter.unusedSimpArgs false

theorem checks_inner (v4 v58 v59 : Value) (x57 : AV) (b11 : List AV) (h B H : Int) (l : List Int) (k k' : Nat) (hv : v4 = .int .u64 h) (hl : l.length ≤ 1000000) (h32 : In32 l) (hp : Hp) : ∀ (r : List Int) (i : Nat) (p : Option Int) (w : Int), l.drop i = r →
    (match p with | none => i = 0 | some q => ∃ j, i = j + 1 ∧ l[j]? = some q) → (if w = 0 then chkL B p r else w) = chk B H l →
    B3_18 v4 (.int .i64 w) x57 v58 v59 (S k 1 (LI .u32 l)) (.int .i64 l.length) (.int .i64 i) b11 [.sc (.int .i64 B), .sc (.int .i64 H), S k' 1 (LI .u32 l)] hp = B3_28 v4 x57 v58 v59 b11 hp := by
  subst hv
  intro r
  induction r with
  | nil =>
    intro i p w hr hp' hw
    have := drop_nil hr
    have hlt : ¬((i : Int) < (l.length : Int)) := by omega
    have c := fun k hp => run_check B H l k hl h32 hp
    have hw' : chk B H l = w := by
      rw [← hw]
      by_cases h0 : w = 0
      · rw [if_pos h0, h0]; rfl
      · rw [if_neg h0]
    have s := fun k k' hp => run_same B H B H l l k k' hp hl hl
    have pl := fun k hp => run_places B H l k h hl h32 hp
    have ph := fun k hp => run_has B H l k h hl h32 hp
    have e : chk B H l ≠ 0 → pls B H l h = [] := fun h0 => by unfold pls; rw [if_neg h0]
    rw [hw'] at c e
    simp at s
    rw [B3_18_eq]
    by_cases h0 : w = 0
    · simp [hlt, getN, c, s, h0]
    · rw [e h0] at pl ph
      simp at pl ph
      simp [hlt, getN, c, s, h0, pl, ph]
  | cons n r ih =>
    intro i p w hr hp' hw
    obtain ⟨e1, e2, hi, e3⟩ := drop_cons hr
    have hwi : IntKind.i64.wrap ((i : Int) + 1) = ((i + 1 : Nat) : Int) := by rw [wrap64] <;> omega
    have hn := h32 n (List.mem_of_getElem? e1)
    have hwn : IntKind.i64.wrap n = n := wrap64 (by omega) (by omega)
    have go := fun w hw => ih (i + 1) (some n) w e2 ⟨i, rfl, e1⟩ hw
    rw [B3_18_eq]
    by_cases h0 : w = 0
    · rw [if_pos h0] at hw
      subst h0
      by_cases hB : B ≤ n
      · have g := go 2 (by simpa [chkL, hB] using hw)
        simp at g hwi
        simp [hi, e3, getSc, cv_29_3, hwn, hB, B3_25_eq, hwi, g]
      · cases p with
        | none =>
          obtain rfl : i = 0 := hp'
          have g := go 0 (by simpa [chkL, hB] using hw)
          simp at g hwi e1
          simp [hi, e1, e3, getSc, cv_29_3, hwn, hB, B3_25_eq, hwi, g]
        | some q =>
          obtain ⟨j, rfl, ej⟩ := hp'
          have hw2 : IntKind.i64.wrap (((j + 1 : Nat) : Int) - 1) = (j : Int) := by rw [wrap64] <;> omega
          have hpos : (0 : Int) < (j : Int) + 1 := by omega
          have hi2 : (j : Int) + 1 < (l.length : Int) := by omega
          have hge : (0 : Int) ≤ (j : Int) + 1 := by omega
          have htn : ((j : Int) + 1).toNat = j + 1 := by omega
          by_cases hq : n ≤ q
          · have g := go 8 (by simpa [chkL, hB, hq] using hw)
            simp at g hwi hw2
            simp [hi2, hge, htn, e1, e3, ej, getSc, getC, cv_29_3, hwn, hB, hpos, hw2, hq, B3_24_eq, B3_25_eq, hwi, g]
          · have g := go 0 (by simpa [chkL, hB, hq] using hw)
            simp at g hwi hw2
            simp [hi2, hge, htn, e1, e3, ej, getSc, getC, cv_29_3, hwn, hB, hpos, hw2, hq, B3_25_eq, hwi, g]
    · rw [if_neg h0] at hw
      have g := go w (by rw [if_neg h0]; exact hw)
      simp at g hwi
      simp [hi, e3, getSc, h0, B3_25_eq, hwi, g]
theorem checks_iter (h B H : Int) (x57 : AV) (b11 : List AV) (l : List Int) (k : Nat) (n i : Nat) (hidx : idxA 3 x57 (.int .i64 i) = some [.sc (.int .i64 B), .sc (.int .i64 H), S k 1 (LI .u32 l)]) (hi : i < n) (hl : l.length ≤ 1000000) (h32 : In32 l) (hp : Hp) :
    B3_12 (.int .u64 h) x57 (.int .i64 n) (.int .i64 i) b11 hp = B3_28 (.int .u64 h) x57 (.int .i64 n) (.int .i64 i) b11 hp := by
  have go := fun w hw => checks_inner (.int .u64 h) (.int .i64 n) (.int .i64 i) x57 b11 h B H l (rk k) (rk k) rfl hl h32 hp l 0 none w rfl rfl hw
  have g17 : ∀ w, (if w = 0 then chkL B none l else w) = chk B H l → B3_17 (.int .u64 h) (.int .i64 w) x57 (.int .i64 n) (.int .i64 i) b11 [.sc (.int .i64 B), .sc (.int .i64 H), S (rk k) 1 (LI .u32 l)] hp = B3_28 (.int .u64 h) x57 (.int .i64 n) (.int .i64 i) b11 hp := by
    intro w hw
    have g := go w hw
    simp at g
    rw [B3_17_eq]
    simp [getC, g]
  rw [B3_12_eq]
  by_cases h1 : B < 1
  · have g := g17 2 (by simp [chk, h1])
    simp [hi, hidx, getN, putN, getSc, h1, B3_16_eq, g]
  · by_cases h2 : 4096 < B
    · have g := g17 2 (by simp [chk, h2])
      simp [hi, hidx, getN, putN, getSc, h1, h2, B3_16_eq, g]
    · by_cases h3 : H < 1
      · have g := g17 2 (by simp [chk, h3])
        simp [hi, hidx, getN, putN, getSc, h1, h2, h3, B3_16_eq, g]
      · by_cases h4 : 8 < H
        · have g := g17 2 (by simp [chk, h4])
          simp [hi, hidx, getN, putN, getSc, h1, h2, h3, h4, B3_16_eq, g]
        · have g := g17 0 (by rw [if_pos rfl, chk, if_neg (by omega)])
          simp [hi, hidx, getN, putN, getSc, h1, h2, h3, h4, g]
theorem idx3_0 (a b c d e f : AV) : idxA 3 (S 1 3 [a, b, c, d, e, f]) (.int .i64 0) = some [a, b, c] := by kernel_rfl
theorem idx3_1 (a b c d e f : AV) : idxA 3 (S 1 3 [a, b, c, d, e, f]) (.int .i64 1) = some [d, e, f] := by kernel_rfl
theorem len3_2 (a b c d e f : AV) : lenA (S 1 3 [a, b, c, d, e, f]) = some 2 := by kernel_rfl
theorem checks_end (h B H B' H' : Int) (l t : List Int) (k k' : Nat) (hH : 0 ≤ H' ∧ H' < 10) (hl : l.length ≤ 1000) (ht : t.length ≤ 1000) (h32 : In32 l) (t32 : In32 t) (hp : Hp) :
    B3_12 (.int .u64 h) (S 1 3 [.sc (.int .i64 B), .sc (.int .i64 H), S k 1 (LI .u32 l), .sc (.int .i64 B'), .sc (.int .i64 H'), S k' 1 (LI .u32 t)]) (.int .i64 2) (.int .i64 0) [.sc (.int .i64 B'), .sc (.int .i64 H'), S 2 1 (LI .u32 t)] hp = some (.sc (.bool true), hp) := by
  have i0 := checks_iter h B H (S 1 3 [.sc (.int .i64 B), .sc (.int .i64 H), S k 1 (LI .u32 l), .sc (.int .i64 B'), .sc (.int .i64 H'), S k' 1 (LI .u32 t)]) [.sc (.int .i64 B'), .sc (.int .i64 H'), S 2 1 (LI .u32 t)] l k 2 0 (idx3_0 _ _ _ _ _ _) (by omega) (by omega) h32 hp
  have i1 := checks_iter h B' H' (S 1 3 [.sc (.int .i64 B), .sc (.int .i64 H), S k 1 (LI .u32 l), .sc (.int .i64 B'), .sc (.int .i64 H'), S k' 1 (LI .u32 t)]) [.sc (.int .i64 B'), .sc (.int .i64 H'), S 2 1 (LI .u32 t)] t k' 2 1 (idx3_1 _ _ _ _ _ _) (by omega) (by omega) t32 hp
  have w2 : IntKind.i64.wrap 2 = 2 := rfl
  have wH : IntKind.i64.wrap (H' + 1) = H' + 1 := wrap64 (by omega) (by omega)
  have s1 := fun k k' hp => run_same B' H' B' (H' + 1) t t k k' hp (by omega) (by omega)
  have s2 := fun k k' hp => run_same B' H' B' H' t (t ++ [1]) k k' hp (by omega) (by simp; omega)
  have ne1 : ¬(H' = H' + 1) := by omega
  have ap1 : appA 4 1 (S 1 1 []) (S 3 1 (LI .u32 t)) = some (S 1 1 (LI .u32 t)) := by
    simpa using appsI .u32 [] 1 (.inl rfl) 4 (by decide) 3 t (by simp; omega)
  have ap2 := appI .u32 t 1 (.inl rfl) 4 (by decide) 1 (by omega)
  simp at i0 i1 s1 s2
  rw [i0, B3_28_eq]
  simp
  rw [i1, B3_28_eq]
  simp [w2]
  rw [B3_12_eq]
  simp [getN, putN, getC, getSc, wH, s1, s2, ap1, ap2, ne1]
theorem checks_loop (h B H B' H' : Int) (l m : List Int) (k k' : Nat) (hH : 0 ≤ H' ∧ H' < 10) (hl : l.length ≤ 50) (hm : m.length ≤ 50) (h32 : In32 l) (m16 : ∀ n ∈ m, 0 ≤ n ∧ n < 65536) (hp : Hp) : ∀ (r : List Int) (i : Nat) (t : List Int), m.drop i = r → i ≤ m.length → t.length = i → In32 t →
    B3_7 (.int .u64 h) (S k' 1 (LI .u16 m)) (.int .i64 m.length) (.int .i64 i) [.sc (.int .i64 B), .sc (.int .i64 H), S k 1 (LI .u32 l)] [.sc (.int .i64 B'), .sc (.int .i64 H'), S 2 1 (LI .u32 t)] hp = some (.sc (.bool true), hp) := by
  intro r
  induction r with
  | nil =>
    intro i t hr him ht t32
    have := drop_nil hr
    have hlt : ¬((i : Int) < (m.length : Int)) := by omega
    have e := checks_end h B H B' H' l t (rk k) 3 hH (by omega) (by omega) h32 t32 hp
    rw [B3_7_eq]
    simp [hlt, getN, putN, len3_2, e]
  | cons n r ih =>
    intro i t hr him ht t32
    obtain ⟨e1, e2, hi, e3⟩ := drop_cons hr
    have hw : IntKind.i64.wrap ((i : Int) + 1) = ((i + 1 : Nat) : Int) := by rw [wrap64] <;> omega
    have hn := m16 n (List.mem_of_getElem? e1)
    have hm5 : ∀ x y, binV Go.Proofs.Try.prog .rem 25 x y (.int .u16 n) (.int .u16 5000) = some (.int .u16 (n % 5000)) := by
      intro x y; rw [binV_rem _ _ _ _ _ _ _ (by omega), tmod_pos hn.1]
    have hwn : IntKind.u32.wrap (n % 5000) = n % 5000 := wrapu32 (by omega) (by omega)
    have ap := appI .u32 t 2 (.inr rfl) 4 (by decide) (n % 5000) (by omega)
    have g := ih (i + 1) (t ++ [n % 5000]) e2 (by omega) (by simp [ht]) (by
      intro x hx
      rcases List.mem_append.mp hx with hx | hx
      · exact t32 x hx
      · simp at hx; omega)
    rw [B3_7_eq]
    simp at g hw
    simp [hi, e3, getSc, getC, putN, hm5, cv_25_29, hwn, ap, hw, g]
theorem run_checks (b hs h B H : Int) (l m : List Int) (k k' : Nat) (hb : 0 ≤ b ∧ b < 65536) (hh : 0 ≤ hs ∧ hs < 256) (h32 : In32 l) (m16 : ∀ n ∈ m, 0 ≤ n ∧ n < 65536) (hp : Hp) :
    run cxX 3 [Bl (.int .i64 B) (.int .i64 H) (S k 1 (LI .u32 l)), .sc (.int .u16 b), .sc (.int .u8 hs), S k' 1 (LI .u16 m), .sc (.int .u64 h)] hp = some (.sc (.bool true), hp) := by
  rw [E3]
  by_cases h1 : (50 : Int) < (l.length : Int)
  · simp [run_awake, getC, h1, B3_4_eq]
  · by_cases h2 : (50 : Int) < (m.length : Int)
    · simp [run_awake, getC, h1, h2, B3_4_eq]
    · have r1 : ∀ x y, binV Go.Proofs.Try.prog .rem 25 x y (.int .u16 b) (.int .u16 5000) = some (.int .u16 (b % 5000)) := by
        intro x y; rw [binV_rem _ _ _ _ _ _ _ (by omega), tmod_pos hb.1]
      have r2 : ∀ x y, binV Go.Proofs.Try.prog .rem 5 x y (.int .u8 hs) (.int .u8 10) = some (.int .u8 (hs % 10)) := by
        intro x y; rw [binV_rem _ _ _ _ _ _ _ (by omega), tmod_pos hh.1]
      have w1 : IntKind.i64.wrap (b % 5000) = b % 5000 := wrap64 (by omega) (by omega)
      have w2 : IntKind.i64.wrap (hs % 10) = hs % 10 := wrap64 (by omega) (by omega)
      have w3 : IntKind.i64.wrap (1 + b % 5000) = 1 + b % 5000 := wrap64 (by omega) (by omega)
      have g := checks_loop h B H (1 + b % 5000) (hs % 10) l m (rk k) (rk k') (by omega) (by omega) (by omega) h32 m16 hp m 0 [] rfl (by omega) rfl (by simp [In32])
      simp at g
      simp [run_awake, getC, h1, h2, B3_5_eq, r1, r2, cv_25_3, cv_5_3, w1, w2, w3, g]
theorem law_BloomChecks (B : Int) (wB : InK .i64 B) (H : Int) (wH : InK .i64 H) (k : Nat) (l : List Int) (wl : ∀ n ∈ l, InK .u32 n) (b : Int) (wb : InK .u16 b) (hs : Int) (wh : InK .u8 hs) (k' : Nat) (m : List Int) (wm : ∀ n ∈ m, InK .u16 n) (h : Int) (wx : InK .u64 h) (hp : Hp) :
    ∃ hp', run cxX 3 [.agg [.sc (.int .i64 B), .sc (.int .i64 H), S k 1 (LI .u32 l)], .sc (.int .u16 b), .sc (.int .u8 hs), S k' 1 (LI .u16 m), .sc (.int .u64 h)] hp = some (.sc (.bool true), hp') :=
  ⟨hp, run_checks b hs h B H l m k k' wb.u16 wh.u8 (fun n hn => (wl n hn).u32) (fun n hn => (wm n hn).u16) hp⟩
end Go.Proofs.Ytmnefpfbgadnkaa.AI
