/- The least hashes: two as one, a hash more, many hashes, may it be one, about how many. -/
import Derived.Test.YtchmioacjkbfcaaGreatEqKmv
import Derived.Test.YtchmioacjkbfcaaGreatEqRice
import Derived.Test.YtchmioacjkbfcaaGreatEqLaw12
import Derived.Test.YtchmioacjkbfcaaGreatMe
import Derived.Test.YtchmioacjkbfcaaGreatMd
import Derived.Test.YtchmioacjkbfcaaGreatMe
import Derived.Test.YtchmioacjkbfcaaGreatSpBits
namespace Go.Proofs.YtchmioacjkbfcaaGreat.AI
open Go
set_option linter.unusedVariables false
set_option linter.unusedSimpArgs false
set_option maxRecDepth 100000

/-- The K least hashes. -/
abbrev Kv (K : Int) (x : AV) : AV := .agg [.sc (.int .i64 K), x]
theorem kmerge_loop (K : Int) (q0 q1 p1 : AV) (hp : Hp) : ∀ (n : Nat) (a b acc : List Int) (k k' : Nat), a.length + b.length = n → acc.length + n ≤ 1000000 →
    B124_3 (S k 1 (LI .u64 a)) (S k' 1 (LI .u64 b)) [.sc (.int .i64 K), p1] [q0, q1] [.sc (.int .i64 K), S 2 1 (LI .u64 acc)] hp = some (Kv K (S 2 1 (LI .u64 (acc ++ (mrg a b).take (K.toNat - acc.length)))), hp) := by
  intro n
  induction n using Nat.strongRecOn with
  | _ n ih =>
  intro a b acc k k' hn hlen
  have ap : ∀ x : Int, appA 8 1 (S 2 1 (LI .u64 acc)) (S 1 1 [.sc (.int .u64 x)]) = some (S 2 1 (LI .u64 (acc ++ [x]))) := fun x => appI .u64 acc 2 (.inr rfl) 8 (by decide) x (by omega)
  have fin : B124_9 [q0, q1] [.sc (.int .i64 K), S 2 1 (LI .u64 acc)] hp = some (Kv K (S 2 1 (LI .u64 acc)), hp) := by
    rw [B124_9_eq]
    simp [getN, putN]
  rw [B124_3_eq]
  by_cases hK : (acc.length : Int) < K
  · have hs : K.toNat - acc.length = (K.toNat - (acc.length + 1)) + 1 := by omega
    have goA : ∀ (x : Int) (r : List Int), r.length + 1 + b.length ≤ n → B124_6 (S k 1 (LI .u64 (x :: r))) (S k' 1 (LI .u64 b)) [.sc (.int .i64 K), p1] [q0, q1] [.sc (.int .i64 K), S 2 1 (LI .u64 acc)] hp = some (Kv K (S 2 1 (LI .u64 (acc ++ (x :: mrg r b).take (K.toNat - acc.length)))), hp) := by
      intro x r hle
      rw [B124_6_eq]
      have e := slcA_S (rk k) (LI .u64 (x :: r)) .i64 1 (by omega) (by simp only [lenI, List.length_cons]; omega)
      have i := fun k => ih (r.length + b.length) (by omega) r b (acc ++ [x]) k k' rfl (by simp only [List.length_append, List.length_cons, List.length_nil]; omega)
      simp at i
      rw [hs, List.take_succ_cons]
      simp [getC, getSc, ap, e, putN, i]
    have goB : ∀ (y : Int) (r : List Int), a.length + (r.length + 1) ≤ n → B124_8 (S k 1 (LI .u64 a)) (S k' 1 (LI .u64 (y :: r))) [.sc (.int .i64 K), p1] [q0, q1] [.sc (.int .i64 K), S 2 1 (LI .u64 acc)] hp = some (Kv K (S 2 1 (LI .u64 (acc ++ (y :: mrg a r).take (K.toNat - acc.length)))), hp) := by
      intro x r hle
      rw [B124_8_eq]
      have e := slcA_S (rk k') (LI .u64 (x :: r)) .i64 1 (by omega) (by simp only [lenI, List.length_cons]; omega)
      have i := fun k' => ih (a.length + r.length) (by omega) a r (acc ++ [x]) k k' rfl (by simp only [List.length_append, List.length_cons, List.length_nil]; omega)
      simp at i
      rw [hs, List.take_succ_cons]
      simp [getC, getSc, ap, e, putN, i]
    have goC : ∀ (x y : Int) (r s : List Int), r.length + s.length + 2 ≤ n → B124_4 (S k 1 (LI .u64 (x :: r))) (S k' 1 (LI .u64 (y :: s))) [.sc (.int .i64 K), p1] [q0, q1] [.sc (.int .i64 K), S 2 1 (LI .u64 acc)] hp = some (Kv K (S 2 1 (LI .u64 (acc ++ (x :: mrg r s).take (K.toNat - acc.length)))), hp) := by
      intro x y r s hle
      rw [B124_4_eq]
      have e := slcA_S (rk k) (LI .u64 (x :: r)) .i64 1 (by omega) (by simp only [lenI, List.length_cons]; omega)
      have e' := slcA_S (rk k') (LI .u64 (y :: s)) .i64 1 (by omega) (by simp only [lenI, List.length_cons]; omega)
      have i := fun k k' => ih (r.length + s.length) (by omega) r s (acc ++ [x]) k k' rfl (by simp only [List.length_append, List.length_cons, List.length_nil]; omega)
      simp at i
      rw [hs, List.take_succ_cons]
      simp [getC, getSc, ap, e, e', putN, i]
    match a, b with
    | [], [] => simp [getC, getSc, hK, fin]
    | [], y :: s =>
      have h := goB y s (by simp at hn ⊢; omega)
      simp at h
      have hw' : IntKind.i64.wrap ((s.length : Int) + 1) = (s.length : Int) + 1 := wrap64 (by omega) (by simp at hn; omega)
      have p : (0 : Int) < (s.length : Int) + 1 := by omega
      have z : ¬((s.length : Int) + 1 = 0) := by omega
      simp [getC, getSc, hK, hw', p, z, B124_5_eq, B124_7_eq, h]
    | x :: r, [] =>
      have h := goA x r (by simp at hn ⊢; omega)
      simp at h
      have hw' : IntKind.i64.wrap ((r.length : Int) + 1) = (r.length : Int) + 1 := wrap64 (by omega) (by simp at hn; omega)
      have p : (0 : Int) < (r.length : Int) + 1 := by omega
      simp [getC, getSc, hK, hw', p, B124_5_eq, h]
    | x :: r, y :: s =>
      have h1 := goA x r (by simp at hn ⊢; omega)
      have h2 := goB y s (by simp at hn ⊢; omega)
      have h3 := goC x y r s (by simp at hn ⊢; omega)
      have hw' : IntKind.i64.wrap ((r.length : Int) + 1 + ((s.length : Int) + 1)) = (r.length : Int) + 1 + ((s.length : Int) + 1) := wrap64 (by omega) (by simp at hn; omega)
      have p : (0 : Int) < (r.length : Int) + 1 + ((s.length : Int) + 1) := by omega
      have p' : (0 : Int) < (r.length : Int) + 1 := by omega
      have z : ¬((s.length : Int) + 1 = 0) := by omega
      have z' : ¬((r.length : Int) + 1 = 0) := by omega
      rw [mrg_cons]
      by_cases hxy : x < y
      · simp [getC, getSc, hK, hw', p, p', z, z', hxy, h1, B124_5_eq]
      · by_cases hyx : y < x
        · simp [getC, getSc, hK, hw', p, p', z, z', hxy, hyx, h2, B124_5_eq, B124_7_eq]
        · simp [getC, getSc, hK, hw', p, p', z, z', hxy, hyx, h3, B124_5_eq, B124_7_eq]
  · have hs : K.toNat - acc.length = 0 := by omega
    simp [getC, getSc, hK, fin, hs]
/-- Two as one. -/
theorem run_kmerge (K : Int) (B' : AV) (a b : List Int) (k k' : Nat) (hp : Hp) (hlen : a.length + b.length ≤ 1000000) :
    run cxX 124 [Kv K (S k 1 (LI .u64 a)), .agg [B', S k' 1 (LI .u64 b)]] hp = some (Kv K (S 2 1 (LI .u64 ((mrg a b).take K.toNat))), hp) := by
  rw [E124]
  have := kmerge_loop K (.sc (.int .i64 0)) (S 2 1 []) (S (rk k) 1 (LI .u64 a)) hp (a.length + b.length) a b [] (rk k) (rk k') rfl (by simpa using hlen)
  simp at this
  simp [getSc, getC]
  exact this
theorem run_kadd (K : Int) (a : List Int) (n : Int) (k : Nat) (hp : Hp) (hlen : a.length + 1 ≤ 1000000) :
    run cxX 69 [Kv K (S k 1 (LI .u64 a)), .sc (.int .u64 n)] hp = some (Kv K (S 2 1 (LI .u64 ((mrg a [n]).take K.toNat))), hp) := by
  rw [E69]
  have m := fun k k' hp => run_kmerge K (.sc (.int .i64 K)) a [n] k k' hp (by simpa using hlen)
  simp [LI] at m
  simp [getSc, getN, putN, LI, m]
/-! ### Same -/
theorem ksame_loop (B B' : AV) (a b : List Int) (k k' : Nat) (hab : a.length = b.length) (hl : a.length ≤ 1000000) (hp : Hp) : ∀ (r s : List Int) (i : Nat), a.drop i = r → b.drop i = s →
    B117_4 (.int .i64 a.length) (.int .i64 i) [B, S k 1 (LI .u64 a)] [B', S k' 1 (LI .u64 b)] hp = some (.sc (.bool (decide (r = s))), hp) := by
  intro r
  induction r with
  | nil =>
    intro s i hr hs
    have h1 := drop_nil hr
    have h2 : s = [] := by rw [← hs]; exact List.drop_eq_nil_of_le (by omega)
    have hlt : ¬((i : Int) < (a.length : Int)) := by omega
    rw [B117_4_eq]
    simp [hlt, h2]
  | cons x r ih =>
    intro s i hr hs
    obtain ⟨e1, e2, hi, e3⟩ := drop_cons hr
    rw [B117_4_eq]
    have hw : IntKind.i64.wrap ((i : Int) + 1) = ((i + 1 : Nat) : Int) := by rw [wrap64] <;> omega
    cases s with
    | nil => have := drop_nil hs; omega
    | cons y s =>
      obtain ⟨f1, f2, hj, f3⟩ := drop_cons hs
      have h := ih s (i + 1) e2 f2
      simp at h hw
      by_cases e : x = y
      · simp [hi, hj, getC, getSc, e3, f3, e, hw, h]
      · simp [hi, hj, getC, getSc, e3, f3, e]
theorem run_ksame (B B' : Int) (a b : List Int) (k k' : Nat) (hp : Hp) (ha : a.length ≤ 1000000) (hb : b.length ≤ 1000000) :
    run cxX 117 [Kv B (S k 1 (LI .u64 a)), Kv B' (S k' 1 (LI .u64 b))] hp = some (.sc (.bool (decide (B = B' ∧ a = b))), hp) := by
  rw [E117]
  by_cases h1 : B = B'
  · by_cases h3 : a.length = b.length
    · have h := ksame_loop (.sc (.int .i64 B)) (.sc (.int .i64 B')) a b (rk k) (rk k') h3 ha hp a b 0 rfl rfl
      simp at h
      subst h1
      rw [h3] at h
      simp [getSc, getC, h3, B117_3_eq, h]
    · have h4 : ¬(a = b) := fun e => h3 (by rw [e])
      have h5 : ¬((a.length : Int) = (b.length : Int)) := by omega
      simp [getSc, getC, h1, h4, h5, B117_2_eq]
  · simp [getSc, getC, h1, B117_2_eq]
/-! ### of many hashes -/
/-- A hash as the law takes it. -/
def cut (few : Bool) (n : Int) : Int := if few then n % 30 else n
theorem kmv_loop (K : Int) (few : Bool) (q0 q1 : AV) (k : Nat) (l : List Int) (hK : K ≤ 1000) (hl : l.length ≤ 1000) (hpos : ∀ n ∈ l, 0 ≤ n) (hp : Hp) : ∀ (r : List Int) (i : Nat) (acc : List Int) (k' : Nat), l.drop i = r → acc.length ≤ 1000 →
    B27_3 (.bool few) (S k 1 (LI .u64 l)) (.int .i64 l.length) (.int .i64 i) [q0, q1] [.sc (.int .i64 K), S 2 1 (LI .u64 acc)] hp = some (Kv K (S 2 1 (LI .u64 (kmvs K.toNat acc (r.map (cut few))))), hp) := by
  intro r
  induction r with
  | nil =>
    intro i acc k' hr ha
    have := drop_nil hr
    have hlt : ¬((i : Int) < (l.length : Int)) := by omega
    rw [B27_3_eq]
    simp [hlt, getN, putN, kmvs]
  | cons x r ih =>
    intro i acc k' hr ha
    obtain ⟨e1, e2, hi, e3⟩ := drop_cons hr
    have hx := hpos x (List.mem_of_getElem? e1)
    have hw : IntKind.i64.wrap ((i : Int) + 1) = ((i + 1 : Nat) : Int) := by rw [wrap64] <;> omega
    have h := ih (i + 1) ((mrg acc [cut few x]).take K.toNat) k' e2 (by rw [List.length_take]; omega)
    have d := fun hp => run_kadd K acc (cut few x) 3 hp (by omega)
    have e7 : B27_7 (.bool few) (.int .u64 (cut few x)) (S k 1 (LI .u64 l)) (.int .i64 l.length) (.int .i64 i) [q0, q1] [.sc (.int .i64 K), S 2 1 (LI .u64 acc)] hp = some (Kv K (S 2 1 (LI .u64 (kmvs K.toNat acc ((x :: r).map (cut few))))), hp) := by
      rw [B27_7_eq]
      simp at h hw
      simp [getN, putN, d, hw, h, kmvs]
    rw [B27_3_eq]
    have hm : ∀ a b, binV Go.Proofs.Tryz.prog .rem 76 a b (.int .u64 x) (.int .u64 30) = some (.int .u64 (x % 30)) := by
      intro a b; rw [binV_rem _ _ _ _ _ _ _ (by omega), tmod_pos hx]
    cases few with
    | true =>
      simp [cut] at e7
      simp [hi, e3, getSc, hm, e7, cut]
    | false =>
      simp [cut] at e7
      simp [hi, e3, getSc, e7, cut]
theorem run_kmv (c : Int) (few : Bool) (l : List Int) (k : Nat) (hc : 0 ≤ c ∧ c < 256) (hl : l.length ≤ 1000) (hpos : ∀ n ∈ l, 0 ≤ n) (hp : Hp) :
    run cxX 27 [.sc (.int .u8 c), S k 1 (LI .u64 l), .sc (.bool few)] hp = some (Kv (1 + c % 20) (S 2 1 (LI .u64 (kmvs (1 + c % 20).toNat [] (l.map (cut few))))), hp) := by
  rw [E27]
  have h1 : ∀ x y, binV Go.Proofs.Tryz.prog .rem 5 x y (.int .u8 c) (.int .u8 20) = some (.int .u8 (c % 20)) := by
    intro x y; rw [binV_rem _ _ _ _ _ _ _ (by omega), tmod_pos hc.1]
  have w1 : IntKind.i64.wrap (c % 20) = c % 20 := wrap64 (by omega) (by omega)
  have w2 : IntKind.i64.wrap (1 + c % 20) = 1 + c % 20 := wrap64 (by omega) (by omega)
  have hq := kmv_loop (1 + c % 20) few (.sc (.int .i64 0)) (S 2 1 []) (rk k) l (by omega) hl hpos hp l 0 [] 2 rfl (by simp)
  simp at hq
  simp [h1, cv_5_3, w1, w2, hq]
@[simp] theorem ro_fn (f : FuncId) (c : List AV) : ro (.fn f c) = .fn f c := rfl
/-- Do they rise? -/
def ordL : List Int → Int
  | [] => 0
  | [_] => 0
  | x :: y :: r => if y ≤ x then 8 else ordL (y :: r)
def kchk (K : Int) (l : List Int) : Int := if K < 1 ∨ 1024 < K then 2 else if K < (l.length : Int) then 7 else ordL l
theorem rice_loop (l : List Int) (k : Nat) (hl : l.length ≤ 4096) (hp : Hp) : ∀ (r : List Int) (x : Int) (j : Nat), l.drop j = x :: r →
    B82_4 (S k 1 (LI .u64 l)) (.int .i64 ((j + 1 : Nat) : Int)) hp = some (.sc (.int .i64 (ordL (x :: r))), hp) := by
  intro r
  induction r with
  | nil =>
    intro x j hr
    obtain ⟨e1, e2, hi, e3⟩ := drop_cons hr
    have := drop_nil e2
    have hlt : ¬((j : Int) + 1 < (l.length : Int)) := by omega
    rw [B82_4_eq]
    simp [hlt, ordL]
  | cons y r ih =>
    intro x j hr
    obtain ⟨e1, e2, hi, e3⟩ := drop_cons hr
    obtain ⟨f1, f2, hj, f3⟩ := drop_cons e2
    have hlt : (j : Int) + 1 < (l.length : Int) := by omega
    have hw : IntKind.i64.wrap ((j : Int) + 1 + 1) = (j : Int) + 1 + 1 := wrap64 (by omega) (by omega)
    have hw2 : IntKind.i64.wrap ((j : Int) + 1 - 1) = (j : Int) := by rw [wrap64] <;> omega
    have hge : (0 : Int) ≤ (j : Int) + 1 := by omega
    have htn : ((j : Int) + 1).toNat = j + 1 := by omega
    have g := ih y (j + 1) e2
    rw [B82_4_eq]
    simp at g hw2
    by_cases hq : y ≤ x
    · simp [hlt, hge, htn, getSc, f1, e1, hw2, hq, ordL]
    · simp [hlt, hge, htn, getSc, f1, e1, hw2, hq, ordL, hw, g]
theorem run_rice (l : List Int) (k : Nat) (hl : l.length ≤ 4096) (hp : Hp) : run cxX 82 [S k 1 (LI .u64 l)] hp = some (.sc (.int .i64 (ordL l)), hp) := by
  rw [E82]
  have h1 : ¬((4096 : Int) < (l.length : Int)) := by omega
  cases l with
  | nil =>
    rw [B82_4_eq]
    simp [ordL]
  | cons x r =>
    have g := rice_loop (x :: r) k hl hp r x 0 rfl
    have h1 : ¬((4096 : Int) < (r.length : Int) + 1) := by simp at hl; omega
    simp at g
    simp [h1, g]
theorem run_kcheck (K : Int) (l : List Int) (k : Nat) (hl : l.length ≤ 1000000) (hp : Hp) : run cxX 63 [Kv K (S k 1 (LI .u64 l))] hp = some (.sc (.int .i64 (kchk K l)), hp) := by
  rw [E63]
  unfold kchk
  by_cases h1 : K < 1
  · simp [getSc, h1, B63_2_eq]
  · by_cases h2 : 1024 < K
    · simp [getSc, h1, h2, B63_2_eq]
    · by_cases h3 : K < (l.length : Int)
      · simp [getSc, getC, h1, h2, h3, B63_3_eq]
      · simp [getSc, getC, h1, h2, h3, B63_3_eq, run_rice l _ (show l.length ≤ 4096 by omega)]
end Go.Proofs.YtchmioacjkbfcaaGreat.AI
