/- The least hashes: the law of what may be one. -/
import Derived.Test.YtmnefpfbgadnkaaKmvB
namespace Go.Proofs.Ytmnefpfbgadnkaa.AI
open Go
set_option linter.unusedVariables false
set_option linter.unusedSimpArgs false

@[simp] theorem ro_fn (f : FuncId) (c : List AV) : ro (.fn f c) = .fn f c := rfl
/-- Do they rise? -/
def ordL : List Int → Int
  | [] => 0
  | [_] => 0
  | x :: y :: r => if y ≤ x then 8 else ordL (y :: r)
def kchk (K : Int) (l : List Int) : Int := if K < 1 ∨ 1024 < K then 2 else if K < (l.length : Int) then 7 else ordL l
theorem rice_loop (l : List Int) (k : Nat) (hl : l.length ≤ 1000) (hp : Hp) : ∀ (r : List Int) (x : Int) (j : Nat), l.drop j = x :: r →
    B34_4 (S k 1 (LI .u64 l)) (.int .i64 ((j + 1 : Nat) : Int)) hp = some (.sc (.int .i64 (ordL (x :: r))), hp) := by
  intro r
  induction r with
  | nil =>
    intro x j hr
    obtain ⟨e1, e2, hi, e3⟩ := drop_cons hr
    have := drop_nil e2
    have hlt : ¬((j : Int) + 1 < (l.length : Int)) := by omega
    rw [B34_4_eq]
    simp [hlt, ordL]
  | cons y r ih =>
    intro x j hr
    obtain ⟨e1, e2, hi, e3⟩ := drop_cons hr
    obtain ⟨f1, f2, hj, f3⟩ := drop_cons e2
    have hlt : (j : Int) + 1 < (l.length : Int) := by omega
    have hw : IntKind.i64.wrap ((j : Int) + 1 + 1) = (j : Int) + 1 + 1 := wrap64 (by omega) (by omega)
    have hw2 : IntKind.i64.wrap ((j : Int) + 1 - 1) = (j : Int) := by rw [wrap64] <;> omega
    have hge : (0 : Int) ≤ (j : Int) + 1 := by omega
    have htn : ((j : Int) + 1).toNat = j + 1 := by omega
    have g := ih y (j + 1) e2
    rw [B34_4_eq]
    simp at g hw2
    by_cases hq : y ≤ x
    · simp [hlt, hge, htn, getSc, f1, e1, hw2, hq, ordL]
    · simp [hlt, hge, htn, getSc, f1, e1, hw2, hq, ordL, hw, g]
theorem run_rice (l : List Int) (k : Nat) (hl : l.length ≤ 1000) (hp : Hp) : run cxX 34 [S k 1 (LI .u64 l)] hp = some (.sc (.int .i64 (ordL l)), hp) := by
  rw [E34]
  have h1 : ¬((4096 : Int) < (l.length : Int)) := by omega
  cases l with
  | nil =>
    rw [B34_4_eq]
    simp [ordL]
  | cons x r =>
    have g := rice_loop (x :: r) k hl hp r x 0 rfl
    have h1 : ¬((4096 : Int) < (r.length : Int) + 1) := by simp at hl; omega
    simp at g
    simp [h1, g]
theorem right_loop (K : AV) (l : List Int) (k : Nat) (hl : l.length ≤ 1000) (hp : Hp) : ∀ (r : List Int) (x : Int) (j : Nat), l.drop j = x :: r →
    B30_6 (.int .i64 ((j + 1 : Nat) : Int)) [K, S k 1 (LI .u64 l)] hp = some (.sc (.int .i64 (ordL (x :: r))), hp) := by
  intro r
  induction r with
  | nil =>
    intro x j hr
    obtain ⟨e1, e2, hi, e3⟩ := drop_cons hr
    have := drop_nil e2
    have hlt : ¬((j : Int) + 1 < (l.length : Int)) := by omega
    rw [B30_6_eq]
    simp [getC, hlt, ordL]
  | cons y r ih =>
    intro x j hr
    obtain ⟨e1, e2, hi, e3⟩ := drop_cons hr
    obtain ⟨f1, f2, hj, f3⟩ := drop_cons e2
    have hlt : (j : Int) + 1 < (l.length : Int) := by omega
    have hw : IntKind.i64.wrap ((j : Int) + 1 + 1) = (j : Int) + 1 + 1 := wrap64 (by omega) (by omega)
    have hw2 : IntKind.i64.wrap ((j : Int) + 1 - 1) = (j : Int) := by rw [wrap64] <;> omega
    have hge : (0 : Int) ≤ (j : Int) + 1 := by omega
    have htn : ((j : Int) + 1).toNat = j + 1 := by omega
    have g := ih y (j + 1) e2
    rw [B30_6_eq]
    simp at g hw2
    by_cases hq : y ≤ x
    · simp [getC, hlt, hge, htn, getSc, f1, e1, hw2, hq, ordL]
    · simp [getC, hlt, hge, htn, getSc, f1, e1, hw2, hq, ordL, hw, g]
theorem run_right (K : Int) (l : List Int) (k : Nat) (hl : l.length ≤ 1000) (hp : Hp) : run cxX 30 [Kv K (S k 1 (LI .u64 l))] hp = some (.sc (.int .i64 (kchk K l)), hp) := by
  rw [E30]
  unfold kchk
  by_cases h1 : K < 1
  · simp [getSc, h1, B30_2_eq]
  · by_cases h2 : 1024 < K
    · simp [getSc, h1, h2, B30_2_eq]
    · by_cases h3 : K < (l.length : Int)
      · simp [getSc, getC, h1, h2, h3, B30_3_eq]
      · have e : B30_6 (.int .i64 1) [.sc (.int .i64 K), S (rk k) 1 (LI .u64 l)] hp = some (.sc (.int .i64 (ordL l)), hp) := by
          cases l with
          | nil =>
            rw [B30_6_eq]
            simp [getC, ordL]
          | cons x r => simpa using right_loop (.sc (.int .i64 K)) (x :: r) (rk k) hl hp r x 0 rfl
        simp [getSc, getC, h1, h2, h3, B30_3_eq, e]
theorem run_kcheck (K : Int) (l : List Int) (k : Nat) (hl : l.length ≤ 1000) (hp : Hp) : run cxX 29 [Kv K (S k 1 (LI .u64 l))] hp = some (.sc (.int .i64 (kchk K l)), hp) := by
  rw [E29]
  unfold kchk
  by_cases h1 : K < 1
  · simp [getSc, h1, B29_2_eq]
  · by_cases h2 : 1024 < K
    · simp [getSc, h1, h2, B29_2_eq]
    · by_cases h3 : K < (l.length : Int)
      · simp [getSc, getC, h1, h2, h3, B29_3_eq]
      · simp [getSc, getC, h1, h2, h3, B29_3_eq, run_rice l _ hl]
theorem kchecks_iter (K : Int) (l : List Int) (x45 : AV) (b8 b9 b10 : List AV) (k n i : Nat) (hidx : idxA 2 x45 (.int .i64 i) = some [.sc (.int .i64 K), S k 1 (LI .u64 l)]) (hi : i < n) (hl : l.length ≤ 1000) (hp : Hp) :
    B12_12 (.fn 30 []) x45 (.int .i64 n) (.int .i64 i) b8 b9 b10 hp = B12_16 (.fn 30 []) x45 (.int .i64 n) (.int .i64 i) b8 b9 b10 hp := by
  have s := fun k k' hp => run_ksame K K l l k k' hp (by omega) (by omega)
  simp at s
  rw [B12_12_eq]
  simp [hi, hidx, getN, putN, getFn, run_kcheck K l _ hl, run_right K l _ hl, s]
theorem idx2_0 (a b c d e f g h : AV) : idxA 2 (S 1 2 [a, b, c, d, e, f, g, h]) (.int .i64 0) = some [a, b] := by kernel_rfl
theorem idx2_1 (a b c d e f g h : AV) : idxA 2 (S 1 2 [a, b, c, d, e, f, g, h]) (.int .i64 1) = some [c, d] := by kernel_rfl
theorem idx2_2 (a b c d e f g h : AV) : idxA 2 (S 1 2 [a, b, c, d, e, f, g, h]) (.int .i64 2) = some [e, f] := by kernel_rfl
theorem idx2_3 (a b c d e f g h : AV) : idxA 2 (S 1 2 [a, b, c, d, e, f, g, h]) (.int .i64 3) = some [g, h] := by kernel_rfl
theorem len2_4 (a b c d e f g h : AV) : lenA (S 1 2 [a, b, c, d, e, f, g, h]) = some 4 := by kernel_rfl
theorem run_kchecks (c K : Int) (l m : List Int) (k k' : Nat) (hc : 0 ≤ c ∧ c < 256) (hm : ∀ n ∈ m, 0 ≤ n) (hp : Hp) :
    run cxX 12 [Kv K (S k 1 (LI .u64 l)), .sc (.int .u8 c), S k' 1 (LI .u64 m)] hp = some (.sc (.bool true), hp) := by
  rw [E12]
  by_cases h1 : (50 : Int) < (l.length : Int)
  · simp [run_kawake, getC, h1, B12_4_eq]
  · by_cases h2 : (40 : Int) < (m.length : Int)
    · simp [run_kawake, getC, h1, h2, B12_4_eq]
    · have r := fun k hp => run_kmv c false m k hc (by omega) hm hp
      have hK : 1 ≤ 1 + c % 20 ∧ 1 + c % 20 ≤ 20 := by omega
      generalize 1 + c % 20 = J at r hK
      have lT := kmvs_len J.toNat (m.map (cut false))
      generalize kmvs J.toNat [] (m.map (cut false)) = T at r lT
      have a1 : appA 8 1 (S 1 1 []) (S 3 1 (LI .u64 T)) = some (S 1 1 (LI .u64 T)) := by
        simpa using appsI .u64 [] 1 (.inl rfl) 8 (by decide) 3 T (by simp; omega)
      have a2 := appI .u64 T 1 (.inl rfl) 8 (by decide) 0 (by omega)
      have w : IntKind.i64.wrap ((T.length : Int) - 1) = (T.length : Int) - 1 := wrap64 (by omega) (by omega)
      have ne : ¬(J = (T.length : Int) - 1) := by omega
      have s1 := fun k k' hp => run_ksame J ((T.length : Int) - 1) T T k k' hp (by omega) (by omega)
      have s2 := fun k k' hp => run_ksame J J T (T ++ [0]) k k' hp (by omega) (by simp; omega)
      have w2 : IntKind.i64.wrap 2 = 2 := rfl
      have w3 : IntKind.i64.wrap 3 = 3 := rfl
      have w4 : IntKind.i64.wrap 4 = 4 := rfl
      have e : ∀ (k0 k1 k2 k3 : Nat) (b8 b9 b10 : List AV) (hp : Hp), b8 = [.sc (.int .i64 J), S 2 1 (LI .u64 T)] → b9 = [.sc (.int .i64 ((T.length : Int) - 1)), S 3 1 (LI .u64 T)] → b10 = [.sc (.int .i64 J), S 1 1 (LI .u64 (T ++ [0]))] →
          B12_12 (.fn 30 []) (S 1 2 [.sc (.int .i64 K), S k0 1 (LI .u64 l), .sc (.int .i64 J), S k1 1 (LI .u64 T), .sc (.int .i64 ((T.length : Int) - 1)), S k2 1 (LI .u64 T), .sc (.int .i64 J), S k3 1 (LI .u64 (T ++ [0]))]) (.int .i64 4) (.int .i64 0) b8 b9 b10 hp = some (.sc (.bool true), hp) := by
        intro k0 k1 k2 k3 b8 b9 b10 hp h8 h9 h10
        have i0 := kchecks_iter K l (S 1 2 [.sc (.int .i64 K), S k0 1 (LI .u64 l), .sc (.int .i64 J), S k1 1 (LI .u64 T), .sc (.int .i64 ((T.length : Int) - 1)), S k2 1 (LI .u64 T), .sc (.int .i64 J), S k3 1 (LI .u64 (T ++ [0]))]) b8 b9 b10 k0 4 0 (idx2_0 _ _ _ _ _ _ _ _) (by omega) (by omega) hp
        have i1 := kchecks_iter J T (S 1 2 [.sc (.int .i64 K), S k0 1 (LI .u64 l), .sc (.int .i64 J), S k1 1 (LI .u64 T), .sc (.int .i64 ((T.length : Int) - 1)), S k2 1 (LI .u64 T), .sc (.int .i64 J), S k3 1 (LI .u64 (T ++ [0]))]) b8 b9 b10 k1 4 1 (idx2_1 _ _ _ _ _ _ _ _) (by omega) (by omega) hp
        have i2 := kchecks_iter ((T.length : Int) - 1) T (S 1 2 [.sc (.int .i64 K), S k0 1 (LI .u64 l), .sc (.int .i64 J), S k1 1 (LI .u64 T), .sc (.int .i64 ((T.length : Int) - 1)), S k2 1 (LI .u64 T), .sc (.int .i64 J), S k3 1 (LI .u64 (T ++ [0]))]) b8 b9 b10 k2 4 2 (idx2_2 _ _ _ _ _ _ _ _) (by omega) (by omega) hp
        have i3 := kchecks_iter J (T ++ [0]) (S 1 2 [.sc (.int .i64 K), S k0 1 (LI .u64 l), .sc (.int .i64 J), S k1 1 (LI .u64 T), .sc (.int .i64 ((T.length : Int) - 1)), S k2 1 (LI .u64 T), .sc (.int .i64 J), S k3 1 (LI .u64 (T ++ [0]))]) b8 b9 b10 k3 4 3 (idx2_3 _ _ _ _ _ _ _ _) (by omega) (by simp; omega) hp
        simp at i0 i1 i2 i3 s1 s2
        rw [i0, B12_16_eq]
        simp
        rw [i1, B12_16_eq]
        simp [w2]
        rw [i2, B12_16_eq]
        simp [w3]
        rw [i3, B12_16_eq]
        simp [w4]
        rw [B12_12_eq]
        simp [h8, h9, h10, getN, s1, s2, ne]
      simp [run_kawake, getC, h1, h2, B12_5_eq, r, getN, putN, a1, a2, w, len2_4]
      exact e _ _ _ _ _ _ _ _ rfl rfl rfl
theorem law_KmvChecks (K : Int) (wK : InK .i64 K) (k : Nat) (l : List Int) (wl : ∀ n ∈ l, InK .u64 n) (c : Int) (wc : InK .u8 c) (k' : Nat) (m : List Int) (wm : ∀ n ∈ m, InK .u64 n) (hp : Hp) :
    ∃ hp', run cxX 12 [.agg [.sc (.int .i64 K), S k 1 (LI .u64 l)], .sc (.int .u8 c), S k' 1 (LI .u64 m)] hp = some (.sc (.bool true), hp') :=
  ⟨hp, run_kchecks c K l m k k' wc.u8 (fun n hn => (wm n hn).u64.1) hp⟩
end Go.Proofs.Ytmnefpfbgadnkaa.AI
