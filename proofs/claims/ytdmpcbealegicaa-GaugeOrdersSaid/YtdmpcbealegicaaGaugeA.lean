/- Gauges: what both measured, what one float measures. -/
import Derived.Test.YtdmpcbealegicaaGEq
import Derived.Test.YtdmpcbealegicaaTotalD
import Derived.Test.YtdmpcbealegicaaGs
namespace Go.Proofs.Ytdmpcbealegicaa.AI
open Go
set_option linter.unusedVariables false
set_option linter.unusedSimpArgs false

/-- Floats in a row. -/
def LF (l : List Nat) : List AV := l.map fun n => .sc (.float .f64 n)
section
variable (l : List Nat)
theorem flatF : Flat (LF l) := flat_map _ l
@[simp] theorem lenF : (LF l).length = l.length := by simp [LF]
@[simp] theorem getF? (i : Nat) : (LF l)[i]? = (l[i]?).map fun n => .sc (.float .f64 n) := by simp [LF]
@[simp] theorem getF (i : Nat) (h : i < (LF l).length) : (LF l)[i] = .sc (.float .f64 (l[i]'(by simpa using h))) := by simp [LF]
@[simp] theorem dropF (i : Nat) : (LF l).drop i = LF (l.drop i) := by simp [LF]
@[simp] theorem tailF : (LF l).tail = LF l.tail := by simp [LF]
@[simp] theorem nilF : LF [] = [] := rfl
theorem appF (n : Nat) (h : l.length ≤ 1000000) : appA 8 1 (S 2 1 (LF l)) (S 1 1 [.sc (.float .f64 n)]) = some (S 2 1 (LF (l ++ [n]))) := by
  rw [appA_S 8 1 2 _ _ 1 (.inr rfl) (flat_one _) (.inr (fits_ok (by omega) (by simp; omega)))]
  simp [LF]
end
/-- A gauge. -/
abbrev Ga (K M e0 e1 e2 e3 e4 e5 : Int) (lo hi : Nat) (x : AV) : AV :=
  .agg [.sc (.int .i64 K), .sc (.int .u32 M), .sc (.int .u32 e0), .sc (.int .u32 e1), .sc (.int .u32 e2), .sc (.int .u32 e3), .sc (.int .u32 e4), .sc (.int .u32 e5), fl lo, fl hi, x]
/-- A sum, 2^32 less one at most. -/
def plus (a b : Int) : Int := if a + b < 4294967296 then a + b else 4294967295
theorem run_plus (a b : Int) (ha : 0 ≤ a ∧ a < 4294967296) (hb : 0 ≤ b ∧ b < 4294967296) (hp : Hp) : run cxX 47 [.sc (.int .u32 a), .sc (.int .u32 b)] hp = some (.sc (.int .u32 (plus a b)), hp) := by
  rw [E47]
  unfold plus
  by_cases h : a + b < 4294967296
  · have w : IntKind.u32.wrap (a + b) = a + b := wrapu32 (by omega) h
    have h1 : decide (a + b ≥ a) = true := by simp; omega
    simp only [asSc_sc, Option.bind_some, binV_add, binV_geq, asB_bool, w, h, h1, cond_true, if_true]
  · have w : IntKind.u32.wrap (a + b) = a + b - 4294967296 := by rw [IntKind.wrap_u32]; omega
    have h1 : ¬(a ≤ a + b - 4294967296) := by omega
    simp [w, h, h1]
/-- Words. -/
def Ws (l : List Nat) : Prop := ∀ w ∈ l, w < 18446744073709551616
theorem gmerge_loop (K : Int) (q c1 c2 c3 c4 c5 c6 c7 c8 c9 : AV) (b4 b2r : List AV) (hq : b4.length = 11) (hp : Hp) : ∀ (n : Nat) (a b acc : List Nat) (k k' : Nat), a.length + b.length = n → acc.length + n ≤ 1000000 → Ws a → Ws b →
    B32_8 (S k 1 (LF a)) (S k' 1 (LF b)) (.sc (.int .i64 K) :: b2r) b4 [q, c1, c2, c3, c4, c5, c6, c7, c8, c9, S 2 1 (LF acc)] hp = some (.agg [q, c1, c2, c3, c4, c5, c6, c7, c8, c9, S 2 1 (LF (acc ++ (gm a b).take (K.toNat - acc.length)))], hp) := by
  intro n
  induction n using Nat.strongRecOn with
  | _ n ih =>
  intro a b acc k k' hn hlen ha hb
  have ap : ∀ x : Nat, appA 8 1 (S 2 1 (LF acc)) (S 1 1 [.sc (.float .f64 x)]) = some (S 2 1 (LF (acc ++ [x]))) := fun x => appF acc x (by omega)
  have fin : B32_12 b4 [q, c1, c2, c3, c4, c5, c6, c7, c8, c9, S 2 1 (LF acc)] hp = some (.agg [q, c1, c2, c3, c4, c5, c6, c7, c8, c9, S 2 1 (LF acc)], hp) := by
    rw [B32_12_eq]
    obtain ⟨d0, d1, d2, d3, d4, d5, d6, d7, d8, d9, d10, rfl⟩ : ∃ d0 d1 d2 d3 d4 d5 d6 d7 d8 d9 d10, b4 = [d0, d1, d2, d3, d4, d5, d6, d7, d8, d9, d10] := by
      match b4, hq with
      | [d0, d1, d2, d3, d4, d5, d6, d7, d8, d9, d10], _ => exact ⟨d0, d1, d2, d3, d4, d5, d6, d7, d8, d9, d10, rfl⟩
    simp [getN, putN]
  rw [B32_8_eq]
  by_cases hK : (acc.length : Int) < K
  · have hs : K.toNat - acc.length = (K.toNat - (acc.length + 1)) + 1 := by omega
    have goA : ∀ (x : Nat) (r : List Nat), r.length + 1 + b.length ≤ n → Ws r → B32_10 (S k 1 (LF (x :: r))) (S k' 1 (LF b)) (.sc (.int .i64 K) :: b2r) b4 [q, c1, c2, c3, c4, c5, c6, c7, c8, c9, S 2 1 (LF acc)] hp = some (.agg [q, c1, c2, c3, c4, c5, c6, c7, c8, c9, S 2 1 (LF (acc ++ (x :: gm r b).take (K.toNat - acc.length)))], hp) := by
      intro x r hle hr
      rw [B32_10_eq]
      have e := slcA_S (rk k) (LF (x :: r)) .i64 1 (by omega) (by simp only [lenF, List.length_cons]; omega)
      have i := fun k => ih (r.length + b.length) (by omega) r b (acc ++ [x]) k k' rfl (by simp only [List.length_append, List.length_cons, List.length_nil]; omega) hr hb
      simp at i
      rw [hs, List.take_succ_cons]
      simp [getC, getSc, ap, e, putN, i]
    have goB : ∀ (y : Nat) (r : List Nat), a.length + (r.length + 1) ≤ n → Ws r → B32_11 (S k 1 (LF a)) (S k' 1 (LF (y :: r))) (.sc (.int .i64 K) :: b2r) b4 [q, c1, c2, c3, c4, c5, c6, c7, c8, c9, S 2 1 (LF acc)] hp = some (.agg [q, c1, c2, c3, c4, c5, c6, c7, c8, c9, S 2 1 (LF (acc ++ (y :: gm a r).take (K.toNat - acc.length)))], hp) := by
      intro x r hle hr
      rw [B32_11_eq]
      have e := slcA_S (rk k') (LF (x :: r)) .i64 1 (by omega) (by simp only [lenF, List.length_cons]; omega)
      have i := fun k' => ih (a.length + r.length) (by omega) a r (acc ++ [x]) k k' rfl (by simp only [List.length_append, List.length_cons, List.length_nil]; omega) ha hr
      simp at i
      rw [hs, List.take_succ_cons]
      simp [getC, getSc, ap, e, putN, i]
    match a, b with
    | [], [] => simp [getC, getSc, hK, fin]
    | [], y :: s =>
      have h := goB y s (by simp at hn ⊢; omega) (fun w hw => hb w (by simp [hw]))
      simp at h
      have hw' : IntKind.i64.wrap ((s.length : Int) + 1) = (s.length : Int) + 1 := wrap64 (by omega) (by simp at hn; omega)
      have p : (0 : Int) < (s.length : Int) + 1 := by omega
      have z : ¬((s.length : Int) + 1 = 0) := by omega
      simp [getC, getSc, hK, hw', p, z, B32_9_eq, h]
    | x :: r, [] =>
      have h := goA x r (by simp at hn ⊢; omega) (fun w hw => ha w (by simp [hw]))
      simp at h
      have hw' : IntKind.i64.wrap ((r.length : Int) + 1) = (r.length : Int) + 1 := wrap64 (by omega) (by simp at hn; omega)
      have p : (0 : Int) < (r.length : Int) + 1 := by omega
      simp [getC, getSc, hK, hw', p, B32_9_eq, h]
    | x :: r, y :: s =>
      have h1 := goA x r (by simp at hn ⊢; omega) (fun w hw => ha w (by simp [hw]))
      have h2 := goB y s (by simp at hn ⊢; omega) (fun w hw => hb w (by simp [hw]))
      have hw' : IntKind.i64.wrap ((r.length : Int) + 1 + ((s.length : Int) + 1)) = (r.length : Int) + 1 + ((s.length : Int) + 1) := wrap64 (by omega) (by simp at hn; omega)
      have p : (0 : Int) < (r.length : Int) + 1 + ((s.length : Int) + 1) := by omega
      have p' : (0 : Int) < (r.length : Int) + 1 := by omega
      have z : ¬((s.length : Int) + 1 = 0) := by omega
      have l := fun hp => run_less y x (hb y (by simp)) (ha x (by simp)) hp
      rw [gm_cons]
      by_cases hyx : kw y < kw x
      · simp only [hyx, decide_true] at l
        simp [getC, getSc, hK, hw', p, p', z, hyx, l, h2, B32_9_eq]
      · simp only [hyx, decide_false] at l
        simp [getC, getSc, hK, hw', p, p', z, hyx, l, h1, B32_9_eq]
  · have hs : K.toNat - acc.length = 0 := by omega
    simp [getC, getSc, hK, fin, hs]
theorem idx6_0 : idx 6 (.int .i64 0) = some 0 := by kernel_rfl
theorem idx6_1 : idx 6 (.int .i64 1) = some 1 := by kernel_rfl
theorem idx6_2 : idx 6 (.int .i64 2) = some 2 := by kernel_rfl
theorem idx6_3 : idx 6 (.int .i64 3) = some 3 := by kernel_rfl
theorem idx6_4 : idx 6 (.int .i64 4) = some 4 := by kernel_rfl
theorem idx6_5 : idx 6 (.int .i64 5) = some 5 := by kernel_rfl
def In32' (n : Int) : Prop := 0 ≤ n ∧ n < 4294967296
/-- What both measured. -/
theorem run_gmerge (K K' M M' e0 e1 e2 e3 e4 e5 f0 f1 f2 f3 f4 f5 : Int) (lo hi lo' hi' : Nat) (a b : List Nat) (k k' : Nat) (hM : In32' M ∧ In32' M') (h0 : In32' e0 ∧ In32' f0) (h1 : In32' e1 ∧ In32' f1) (h2 : In32' e2 ∧ In32' f2) (h3 : In32' e3 ∧ In32' f3)
    (h4 : In32' e4 ∧ In32' f4) (h5 : In32' e5 ∧ In32' f5) (hlo : lo < 18446744073709551616 ∧ lo' < 18446744073709551616) (hhi : hi < 18446744073709551616 ∧ hi' < 18446744073709551616) (ha : Ws a) (hb : Ws b) (hlen : a.length + b.length ≤ 1000000) (hp : Hp) :
    run cxX 32 [Ga K M e0 e1 e2 e3 e4 e5 lo hi (S k 1 (LF a)), Ga K' M' f0 f1 f2 f3 f4 f5 lo' hi' (S k' 1 (LF b))] hp =
      some (Ga K (plus M M') (plus e0 f0) (plus e1 f1) (plus e2 f2) (plus e3 f3) (plus e4 f4) (plus e5 f5) (fmin lo lo') (fmax hi hi') (S 2 1 (LF ((gm a b).take K.toNat))), hp) := by
  have pM := fun hp => run_plus M M' hM.1 hM.2 hp
  have p0 := fun hp => run_plus e0 f0 h0.1 h0.2 hp
  have p1 := fun hp => run_plus e1 f1 h1.1 h1.2 hp
  have p2 := fun hp => run_plus e2 f2 h2.1 h2.2 hp
  have p3 := fun hp => run_plus e3 f3 h3.1 h3.2 hp
  have p4 := fun hp => run_plus e4 f4 h4.1 h4.2 hp
  have p5 := fun hp => run_plus e5 f5 h5.1 h5.2 hp
  have mn := fun hp => run_fmin lo lo' hlo.1 hlo.2 hp
  have mx := fun hp => run_fmax hi hi' hhi.1 hhi.2 hp
  have w2 : IntKind.i64.wrap 2 = 2 := rfl
  have w3 : IntKind.i64.wrap 3 = 3 := rfl
  have w4 : IntKind.i64.wrap 4 = 4 := rfl
  have w5 : IntKind.i64.wrap 5 = 5 := rfl
  have w6 : IntKind.i64.wrap 6 = 6 := rfl
  have g := fun (c1 c2 c3 c4 c5 c6 c7 c8 c9 : AV) (b4 b2r : List AV) (hq : b4.length = 11) => gmerge_loop K (.sc (.int .i64 K)) c1 c2 c3 c4 c5 c6 c7 c8 c9 b4 b2r hq hp (a.length + b.length) a b [] (rk k) (rk k') rfl (by simpa using hlen) ha hb
  simp at g
  rw [E32]
  simp [getSc, pM, mn, mx]
  rw [B32_3_eq]
  simp [getSc, idx6_0, p0, putN]
  rw [B32_3_eq]
  simp [getSc, idx6_1, p1, putN]
  rw [B32_3_eq]
  simp [getSc, idx6_2, p2, putN, w2]
  rw [B32_3_eq]
  simp [getSc, idx6_3, p3, putN, w3]
  rw [B32_3_eq]
  simp [getSc, idx6_4, p4, putN, w4]
  rw [B32_3_eq]
  simp [getSc, idx6_5, p5, putN, w5]
  rw [B32_3_eq]
  simp [getC, w6]
  exact g _ _ _ _ _ _ _ _ _ _ _ rfl
end Go.Proofs.Ytdmpcbealegicaa.AI
