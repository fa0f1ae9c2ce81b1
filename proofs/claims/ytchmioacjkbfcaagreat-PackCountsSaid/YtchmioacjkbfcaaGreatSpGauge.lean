/- Gauges: what both measured, what one float measures, the same, of many floats. -/
import Derived.Test.YtchmioacjkbfcaaGreatEqGauge
import Derived.Test.YtchmioacjkbfcaaGreatEqCms
import Derived.Test.YtchmioacjkbfcaaGreatEqLaw16
import Derived.Test.YtchmioacjkbfcaaGreatSpTotal
import Derived.Test.YtchmioacjkbfcaaGreatGs
namespace Go.Proofs.YtchmioacjkbfcaaGreat.AI
open Go
set_option linter.unusedVariables false
set_option linter.unusedSimpArgs false
set_option maxRecDepth 100000

theorem kw_fmin (a b : Nat) : kw (fmin a b) = min (kw a) (kw b) := by unfold fmin; split <;> omega
theorem kw_fmax (a b : Nat) : kw (fmax a b) = max (kw a) (kw b) := by unfold fmax; split <;> omega
/-- Floats in a row. -/
def LF (l : List Nat) : List AV := l.map fun n => .sc (.float .f64 n)
section
variable (l : List Nat)
theorem flatF : Flat (LF l) := flat_map _ l
@[simp] theorem lenF : (LF l).length = l.length := by simp [LF]
@[simp] theorem getF? (i : Nat) : (LF l)[i]? = (l[i]?).map fun n => .sc (.float .f64 n) := by simp [LF]
@[simp] theorem getF (i : Nat) (h : i < (LF l).length) : (LF l)[i] = .sc (.float .f64 (l[i]'(by simpa using h))) := by simp [LF]
@[simp] theorem dropF (i : Nat) : (LF l).drop i = LF (l.drop i) := by simp [LF]
@[simp] theorem tailF : (LF l).tail = LF l.tail := by simp [LF]
@[simp] theorem nilF : LF [] = [] := rfl
theorem appF (n : Nat) (h : l.length ≤ 1000000) : appA 8 1 (S 2 1 (LF l)) (S 1 1 [.sc (.float .f64 n)]) = some (S 2 1 (LF (l ++ [n]))) := by
  rw [appA_S 8 1 2 _ _ 1 (.inr rfl) (flat_one _) (.inr (fits_ok (by omega) (by simp; omega)))]
  simp [LF]
end
/-- A gauge. -/
abbrev Ga (K M e0 e1 e2 e3 e4 e5 : Int) (lo hi : Nat) (x : AV) : AV :=
  .agg [.sc (.int .i64 K), .sc (.int .u32 M), .sc (.int .u32 e0), .sc (.int .u32 e1), .sc (.int .u32 e2), .sc (.int .u32 e3), .sc (.int .u32 e4), .sc (.int .u32 e5), fl lo, fl hi, x]
/-- A sum, 2^32 less one at most. -/
def plus (a b : Int) : Int := if a + b < 4294967296 then a + b else 4294967295
theorem run_plus (a b : Int) (ha : 0 ≤ a ∧ a < 4294967296) (hb : 0 ≤ b ∧ b < 4294967296) (hp : Hp) : run cxX 129 [.sc (.int .u32 a), .sc (.int .u32 b)] hp = some (.sc (.int .u32 (plus a b)), hp) := by
  rw [E129]
  unfold plus
  by_cases h : a + b < 4294967296
  · have w : IntKind.u32.wrap (a + b) = a + b := wrapu32 (by omega) h
    have h1 : decide (a + b ≥ a) = true := by simp; omega
    simp only [asSc_sc, Option.bind_some, binV_add, binV_geq, asB_bool, w, h, h1, cond_true, if_true]
  · have w : IntKind.u32.wrap (a + b) = a + b - 4294967296 := by rw [IntKind.wrap_u32]; omega
    have h1 : ¬(a ≤ a + b - 4294967296) := by omega
    simp [w, h, h1]
/-- Words. -/
def Ws (l : List Nat) : Prop := ∀ w ∈ l, w < 18446744073709551616
theorem gmerge_loop (K : Int) (q c1 c2 c3 c4 c5 c6 c7 c8 c9 : AV) (b4 b2r : List AV) (hq : b4.length = 11) (hp : Hp) : ∀ (n : Nat) (a b acc : List Nat) (k k' : Nat), a.length + b.length = n → acc.length + n ≤ 1000000 → Ws a → Ws b →
    B131_8 (S k 1 (LF a)) (S k' 1 (LF b)) (.sc (.int .i64 K) :: b2r) b4 [q, c1, c2, c3, c4, c5, c6, c7, c8, c9, S 2 1 (LF acc)] hp = some (.agg [q, c1, c2, c3, c4, c5, c6, c7, c8, c9, S 2 1 (LF (acc ++ (gm a b).take (K.toNat - acc.length)))], hp) := by
  intro n
  induction n using Nat.strongRecOn with
  | _ n ih =>
  intro a b acc k k' hn hlen ha hb
  have ap : ∀ x : Nat, appA 8 1 (S 2 1 (LF acc)) (S 1 1 [.sc (.float .f64 x)]) = some (S 2 1 (LF (acc ++ [x]))) := fun x => appF acc x (by omega)
  have fin : B131_12 b4 [q, c1, c2, c3, c4, c5, c6, c7, c8, c9, S 2 1 (LF acc)] hp = some (.agg [q, c1, c2, c3, c4, c5, c6, c7, c8, c9, S 2 1 (LF acc)], hp) := by
    rw [B131_12_eq]
    obtain ⟨d0, d1, d2, d3, d4, d5, d6, d7, d8, d9, d10, rfl⟩ : ∃ d0 d1 d2 d3 d4 d5 d6 d7 d8 d9 d10, b4 = [d0, d1, d2, d3, d4, d5, d6, d7, d8, d9, d10] := by
      match b4, hq with
      | [d0, d1, d2, d3, d4, d5, d6, d7, d8, d9, d10], _ => exact ⟨d0, d1, d2, d3, d4, d5, d6, d7, d8, d9, d10, rfl⟩
    simp [getN, putN]
  rw [B131_8_eq]
  by_cases hK : (acc.length : Int) < K
  · have hs : K.toNat - acc.length = (K.toNat - (acc.length + 1)) + 1 := by omega
    have goA : ∀ (x : Nat) (r : List Nat), r.length + 1 + b.length ≤ n → Ws r → B131_10 (S k 1 (LF (x :: r))) (S k' 1 (LF b)) (.sc (.int .i64 K) :: b2r) b4 [q, c1, c2, c3, c4, c5, c6, c7, c8, c9, S 2 1 (LF acc)] hp = some (.agg [q, c1, c2, c3, c4, c5, c6, c7, c8, c9, S 2 1 (LF (acc ++ (x :: gm r b).take (K.toNat - acc.length)))], hp) := by
      intro x r hle hr
      rw [B131_10_eq]
      have e := slcA_S (rk k) (LF (x :: r)) .i64 1 (by omega) (by simp only [lenF, List.length_cons]; omega)
      have i := fun k => ih (r.length + b.length) (by omega) r b (acc ++ [x]) k k' rfl (by simp only [List.length_append, List.length_cons, List.length_nil]; omega) hr hb
      simp at i
      rw [hs, List.take_succ_cons]
      simp [getC, getSc, ap, e, putN, i]
    have goB : ∀ (y : Nat) (r : List Nat), a.length + (r.length + 1) ≤ n → Ws r → B131_11 (S k 1 (LF a)) (S k' 1 (LF (y :: r))) (.sc (.int .i64 K) :: b2r) b4 [q, c1, c2, c3, c4, c5, c6, c7, c8, c9, S 2 1 (LF acc)] hp = some (.agg [q, c1, c2, c3, c4, c5, c6, c7, c8, c9, S 2 1 (LF (acc ++ (y :: gm a r).take (K.toNat - acc.length)))], hp) := by
      intro x r hle hr
      rw [B131_11_eq]
      have e := slcA_S (rk k') (LF (x :: r)) .i64 1 (by omega) (by simp only [lenF, List.length_cons]; omega)
      have i := fun k' => ih (a.length + r.length) (by omega) a r (acc ++ [x]) k k' rfl (by simp only [List.length_append, List.length_cons, List.length_nil]; omega) ha hr
      simp at i
      rw [hs, List.take_succ_cons]
      simp [getC, getSc, ap, e, putN, i]
    match a, b with
    | [], [] => simp [getC, getSc, hK, fin]
    | [], y :: s =>
      have h := goB y s (by simp at hn ⊢; omega) (fun w hw => hb w (by simp [hw]))
      simp at h
      have hw' : IntKind.i64.wrap ((s.length : Int) + 1) = (s.length : Int) + 1 := wrap64 (by omega) (by simp at hn; omega)
      have p : (0 : Int) < (s.length : Int) + 1 := by omega
      have z : ¬((s.length : Int) + 1 = 0) := by omega
      simp [getC, getSc, hK, hw', p, z, B131_9_eq, h]
    | x :: r, [] =>
      have h := goA x r (by simp at hn ⊢; omega) (fun w hw => ha w (by simp [hw]))
      simp at h
      have hw' : IntKind.i64.wrap ((r.length : Int) + 1) = (r.length : Int) + 1 := wrap64 (by omega) (by simp at hn; omega)
      have p : (0 : Int) < (r.length : Int) + 1 := by omega
      simp [getC, getSc, hK, hw', p, B131_9_eq, h]
    | x :: r, y :: s =>
      have h1 := goA x r (by simp at hn ⊢; omega) (fun w hw => ha w (by simp [hw]))
      have h2 := goB y s (by simp at hn ⊢; omega) (fun w hw => hb w (by simp [hw]))
      have hw' : IntKind.i64.wrap ((r.length : Int) + 1 + ((s.length : Int) + 1)) = (r.length : Int) + 1 + ((s.length : Int) + 1) := wrap64 (by omega) (by simp at hn; omega)
      have p : (0 : Int) < (r.length : Int) + 1 + ((s.length : Int) + 1) := by omega
      have p' : (0 : Int) < (r.length : Int) + 1 := by omega
      have z : ¬((s.length : Int) + 1 = 0) := by omega
      have l := fun hp => run_less y x (hb y (by simp)) (ha x (by simp)) hp
      rw [gm_cons]
      by_cases hyx : kw y < kw x
      · simp only [hyx, decide_true] at l
        simp [getC, getSc, hK, hw', p, p', z, hyx, l, h2, B131_9_eq]
      · simp only [hyx, decide_false] at l
        simp [getC, getSc, hK, hw', p, p', z, hyx, l, h1, B131_9_eq]
  · have hs : K.toNat - acc.length = 0 := by omega
    simp [getC, getSc, hK, fin, hs]
theorem idx6_0 : idx 6 (.int .i64 0) = some 0 := by kernel_rfl
theorem idx6_1 : idx 6 (.int .i64 1) = some 1 := by kernel_rfl
theorem idx6_2 : idx 6 (.int .i64 2) = some 2 := by kernel_rfl
theorem idx6_3 : idx 6 (.int .i64 3) = some 3 := by kernel_rfl
theorem idx6_4 : idx 6 (.int .i64 4) = some 4 := by kernel_rfl
theorem idx6_5 : idx 6 (.int .i64 5) = some 5 := by kernel_rfl
def In32' (n : Int) : Prop := 0 ≤ n ∧ n < 4294967296
/-- What both measured. -/
theorem run_gmerge (K K' M M' e0 e1 e2 e3 e4 e5 f0 f1 f2 f3 f4 f5 : Int) (lo hi lo' hi' : Nat) (a b : List Nat) (k k' : Nat) (hM : In32' M ∧ In32' M') (h0 : In32' e0 ∧ In32' f0) (h1 : In32' e1 ∧ In32' f1) (h2 : In32' e2 ∧ In32' f2) (h3 : In32' e3 ∧ In32' f3)
    (h4 : In32' e4 ∧ In32' f4) (h5 : In32' e5 ∧ In32' f5) (hlo : lo < 18446744073709551616 ∧ lo' < 18446744073709551616) (hhi : hi < 18446744073709551616 ∧ hi' < 18446744073709551616) (ha : Ws a) (hb : Ws b) (hlen : a.length + b.length ≤ 1000000) (hp : Hp) :
    run cxX 131 [Ga K M e0 e1 e2 e3 e4 e5 lo hi (S k 1 (LF a)), Ga K' M' f0 f1 f2 f3 f4 f5 lo' hi' (S k' 1 (LF b))] hp =
      some (Ga K (plus M M') (plus e0 f0) (plus e1 f1) (plus e2 f2) (plus e3 f3) (plus e4 f4) (plus e5 f5) (fmin lo lo') (fmax hi hi') (S 2 1 (LF ((gm a b).take K.toNat))), hp) := by
  have pM := fun hp => run_plus M M' hM.1 hM.2 hp
  have p0 := fun hp => run_plus e0 f0 h0.1 h0.2 hp
  have p1 := fun hp => run_plus e1 f1 h1.1 h1.2 hp
  have p2 := fun hp => run_plus e2 f2 h2.1 h2.2 hp
  have p3 := fun hp => run_plus e3 f3 h3.1 h3.2 hp
  have p4 := fun hp => run_plus e4 f4 h4.1 h4.2 hp
  have p5 := fun hp => run_plus e5 f5 h5.1 h5.2 hp
  have mn := fun hp => run_fmin lo lo' hlo.1 hlo.2 hp
  have mx := fun hp => run_fmax hi hi' hhi.1 hhi.2 hp
  have w2 : IntKind.i64.wrap 2 = 2 := rfl
  have w3 : IntKind.i64.wrap 3 = 3 := rfl
  have w4 : IntKind.i64.wrap 4 = 4 := rfl
  have w5 : IntKind.i64.wrap 5 = 5 := rfl
  have w6 : IntKind.i64.wrap 6 = 6 := rfl
  have g := fun (c1 c2 c3 c4 c5 c6 c7 c8 c9 : AV) (b4 b2r : List AV) (hq : b4.length = 11) => gmerge_loop K (.sc (.int .i64 K)) c1 c2 c3 c4 c5 c6 c7 c8 c9 b4 b2r hq hp (a.length + b.length) a b [] (rk k) (rk k') rfl (by simpa using hlen) ha hb
  simp at g
  rw [E131]
  simp [getSc, pM, mn, mx]
  rw [B131_3_eq]
  simp [getSc, idx6_0, p0, putN]
  rw [B131_3_eq]
  simp [getSc, idx6_1, p1, putN]
  rw [B131_3_eq]
  simp [getSc, idx6_2, p2, putN, w2]
  rw [B131_3_eq]
  simp [getSc, idx6_3, p3, putN, w3]
  rw [B131_3_eq]
  simp [getSc, idx6_4, p4, putN, w4]
  rw [B131_3_eq]
  simp [getSc, idx6_5, p5, putN, w5]
  rw [B131_3_eq]
  simp [getC, w6]
  exact g _ _ _ _ _ _ _ _ _ _ _ rfl
structure Gs where
  M : Int
  e0 : Int
  e1 : Int
  e2 : Int
  e3 : Int
  e4 : Int
  e5 : Int
  lo : Nat
  hi : Nat
  L : List Nat
abbrev Gs.av (g : Gs) (K : Int) (k : Nat) : AV := Ga K g.M g.e0 g.e1 g.e2 g.e3 g.e4 g.e5 g.lo g.hi (S k 1 (LF g.L))
def gmg (K : Int) (g o : Gs) : Gs := ⟨plus g.M o.M, plus g.e0 o.e0, plus g.e1 o.e1, plus g.e2 o.e2, plus g.e3 o.e3, plus g.e4 o.e4, plus g.e5 o.e5, fmin g.lo o.lo, fmax g.hi o.hi, (gm g.L o.L).take K.toNat⟩
def gone (w : Nat) : Gs := ⟨1, if edge w = 0 then 1 else 0, if edge w = 1 then 1 else 0, if edge w = 2 then 1 else 0, if edge w = 3 then 1 else 0, if edge w = 4 then 1 else 0, if edge w = 5 then 1 else 0,
  if isN w then 9218868437227405312 else w, if isN w then 18442240474082181120 else w, [wk (kw w)]⟩
def gnew : Gs := ⟨0, 0, 0, 0, 0, 0, 0, 9218868437227405312, 18442240474082181120, []⟩
def cnt (i : Int) : List Nat → Nat
  | [] => 0
  | f :: F => (if edge f = i then 1 else 0) + cnt i F
theorem cnt_append (i : Int) : ∀ a b, cnt i (a ++ b) = cnt i a + cnt i b
  | [], b => by simp [cnt]
  | f :: a, b => by simp only [List.cons_append, cnt, cnt_append i a b]; omega
theorem cnt_le (i : Int) : ∀ a, cnt i a ≤ a.length
  | [] => Nat.le_refl _
  | f :: a => by have := cnt_le i a; simp only [cnt, List.length_cons]; split <;> omega
theorem cnt_perm (i : Int) {a b : List Nat} (h : a.Perm b) : cnt i a = cnt i b := by
  induction h with
  | nil => rfl
  | cons x _ ih => simp only [cnt, ih]
  | swap x y l => simp only [cnt]; omega
  | trans _ _ h1 h2 => rw [h1, h2]
theorem edge_in (w : Nat) : 0 ≤ edge w ∧ edge w ≤ 5 := by
  unfold edge
  repeat' split
  all_goals omega
theorem cnt_sum : ∀ F, cnt 0 F + cnt 1 F + cnt 2 F + cnt 3 F + cnt 4 F + cnt 5 F = F.length
  | [] => rfl
  | f :: F => by
    have h := cnt_sum F
    have he := edge_in f
    simp only [cnt, List.length_cons]
    have : edge f = 0 ∨ edge f = 1 ∨ edge f = 2 ∨ edge f = 3 ∨ edge f = 4 ∨ edge f = 5 := by omega
    rcases this with e | e | e | e | e | e <;> rw [e] <;> simp <;> omega
/-- A gauge of the floats F. -/
structure GR (K : Int) (F : List Nat) (g : Gs) : Prop where
  M : g.M = F.length
  e0 : g.e0 = cnt 0 F
  e1 : g.e1 = cnt 1 F
  e2 : g.e2 = cnt 2 F
  e3 : g.e3 = cnt 3 F
  e4 : g.e4 = cnt 4 F
  e5 : g.e5 = cnt 5 F
  lo : g.lo < 18446744073709551616
  hi : g.hi < 18446744073709551616
  klo : kw g.lo = lowK F
  khi : kw g.hi = highK F
  ws : Ws g.L
  keys : g.L.map kw = (sk (F.map kw)).take K.toNat
theorem GR.len {K : Int} {F : List Nat} {g : Gs} (h : GR K F g) : g.L.length = min K.toNat F.length := by
  have := congrArg List.length h.keys
  rw [List.length_map, List.length_take, sk_len, List.length_map] at this
  exact this
theorem plus_nat {a b : Nat} (h : a + b < 4294967296) : plus (a : Int) (b : Int) = ((a + b : Nat) : Int) := by
  unfold plus
  rw [if_pos (by omega)]
  omega
theorem GR.merge {K : Int} {F H : List Nat} {g o : Gs} (hg : GR K F g) (ho : GR K H o) (hl : F.length + H.length ≤ 1000) : GR K (F ++ H) (gmg K g o) where
  M := by simp only [gmg]; rw [hg.M, ho.M, plus_nat (by omega), List.length_append]
  e0 := by have := cnt_le 0 F; have := cnt_le 0 H; simp only [gmg]; rw [hg.e0, ho.e0, plus_nat (by omega), cnt_append]
  e1 := by have := cnt_le 1 F; have := cnt_le 1 H; simp only [gmg]; rw [hg.e1, ho.e1, plus_nat (by omega), cnt_append]
  e2 := by have := cnt_le 2 F; have := cnt_le 2 H; simp only [gmg]; rw [hg.e2, ho.e2, plus_nat (by omega), cnt_append]
  e3 := by have := cnt_le 3 F; have := cnt_le 3 H; simp only [gmg]; rw [hg.e3, ho.e3, plus_nat (by omega), cnt_append]
  e4 := by have := cnt_le 4 F; have := cnt_le 4 H; simp only [gmg]; rw [hg.e4, ho.e4, plus_nat (by omega), cnt_append]
  e5 := by have := cnt_le 5 F; have := cnt_le 5 H; simp only [gmg]; rw [hg.e5, ho.e5, plus_nat (by omega), cnt_append]
  lo := fmin_lt hg.lo ho.lo
  hi := fmax_lt hg.hi ho.hi
  klo := by simp only [gmg]; rw [kw_fmin, hg.klo, ho.klo, lowK_append]
  khi := by simp only [gmg]; rw [kw_fmax, hg.khi, ho.khi, highK_append]
  ws := fun w hw => (mem_gm w _ _ _ rfl (List.mem_of_mem_take hw)).elim (hg.ws w) (ho.ws w)
  keys := by
    simp only [gmg]
    rw [List.map_take, gm_keys _ _ _ rfl, hg.keys, ho.keys, take_mk _ _ _ _ _ (Nat.le_refl _) (Nat.le_refl _), List.map_append, sk_append]
theorem gnew_ok (K : Int) : GR K [] gnew := ⟨rfl, rfl, rfl, rfl, rfl, rfl, rfl, by decide, by decide, by decide, by decide, by simp [gnew, Ws], by simp [gnew, sk]⟩
theorem gone_ok {K : Int} (hK : 1 ≤ K) {w : Nat} (hw : w < 18446744073709551616) : GR K [w] (gone w) where
  M := rfl
  e0 := by simp only [gone, cnt]; split <;> rfl
  e1 := by simp only [gone, cnt]; split <;> rfl
  e2 := by simp only [gone, cnt]; split <;> rfl
  e3 := by simp only [gone, cnt]; split <;> rfl
  e4 := by simp only [gone, cnt]; split <;> rfl
  e5 := by simp only [gone, cnt]; split <;> rfl
  lo := by simp only [gone]; split <;> omega
  hi := by simp only [gone]; split <;> omega
  klo := by
    simp only [gone, lowK]
    have h0 : kw 9218868437227405312 = 18442240474082181120 := by decide
    by_cases hn : isN w
    · rw [if_pos hn, if_pos hn, h0]
    · rw [if_neg hn, if_neg hn]
      have hn2 := hn
      unfold isN at hn2
      unfold kw
      rw [if_neg hn]
      split <;> omega
  khi := by
    simp only [gone, highK]
    have h0 : kw 18442240474082181120 = 4503599627370495 := by decide
    by_cases hn : isN w
    · rw [if_pos hn, if_pos hn, h0]
    · rw [if_neg hn, if_neg hn]
      have hn2 := hn
      unfold isN at hn2
      unfold kw
      rw [if_neg hn]
      split <;> omega
  ws := by simp only [gone, Ws, List.mem_singleton]; rintro x rfl; exact wk_lt _ (kw_lt w hw)
  keys := by
    have hk : K.toNat = (K.toNat - 1) + 1 := by omega
    simp only [gone, List.map_cons, List.map_nil, sk, mk_nil_r]
    rw [kw_wk_kw w hw, hk, List.take_succ_cons, List.take_nil]
theorem GR.in32 {K : Int} {F : List Nat} {g : Gs} (h : GR K F g) (hl : F.length ≤ 1000) : In32' g.M ∧ In32' g.e0 ∧ In32' g.e1 ∧ In32' g.e2 ∧ In32' g.e3 ∧ In32' g.e4 ∧ In32' g.e5 := by
  have a0 := cnt_le 0 F
  have a1 := cnt_le 1 F
  have a2 := cnt_le 2 F
  have a3 := cnt_le 3 F
  have a4 := cnt_le 4 F
  have a5 := cnt_le 5 F
  rw [h.M, h.e0, h.e1, h.e2, h.e3, h.e4, h.e5]
  unfold In32'
  refine ⟨?_, ?_, ?_, ?_, ?_, ?_, ?_⟩ <;> omega
theorem run_gm (K K' : Int) {F H : List Nat} {g o : Gs} (k k' : Nat) (hg : GR K F g) (ho : GR K' H o) (hl : F.length + H.length ≤ 1000) (hp : Hp) :
    run cxX 131 [g.av K k, o.av K' k'] hp = some ((gmg K g o).av K 2, hp) := by
  obtain ⟨m, x0, x1, x2, x3, x4, x5⟩ := hg.in32 (by omega)
  obtain ⟨m', y0, y1, y2, y3, y4, y5⟩ := ho.in32 (by omega)
  have l1 := hg.len
  have l2 := ho.len
  exact run_gmerge K K' g.M o.M g.e0 g.e1 g.e2 g.e3 g.e4 g.e5 o.e0 o.e1 o.e2 o.e3 o.e4 o.e5 g.lo g.hi o.lo o.hi g.L o.L k k' ⟨m, m'⟩ ⟨x0, y0⟩ ⟨x1, y1⟩ ⟨x2, y2⟩ ⟨x3, y3⟩ ⟨x4, y4⟩ ⟨x5, y5⟩ ⟨hg.lo, ho.lo⟩ ⟨hg.hi, ho.hi⟩ hg.ws ho.ws (by omega) hp
/-! ### one, New, Add -/
theorem run_one (K : Int) (w : Nat) (hw : w < 18446744073709551616) (hp : Hp) : run cxX 132 [.sc (.int .i64 K), fl w] hp = some ((gone w).av K 1, hp) := by
  have i1 := fun hp => run_inf 1 hp
  have i2 := fun hp => run_inf (-1) hp
  have ed := fun hp => run_edge w hw hp
  have k := fun hp => run_key w hw hp
  have o := fun hp => run_of (kw w) (kw_lt w hw) hp
  simp at i1 i2
  have b5 : ∀ (x0 x1 x2 x3 x4 x5 x6 x7 x8 x9 x10 : AV) (q0 q1 q2 q3 q4 q5 q6 q7 q8 q9 q10 : AV) (hp : Hp), B132_5 (.float .f64 w) [q0, q1, q2, q3, q4, q5, q6, q7, q8, q9, q10] [x0, x1, x2, x3, x4, x5, x6, x7, x8, x9, x10] hp = some (.agg [x0, x1, x2, x3, x4, x5, x6, x7, x8, x9, S 1 1 [fl (wk (kw w))]], hp) := by
    intros
    rw [B132_5_eq]
    simp [k, o, putN, getN]
  rw [E132]
  have he := edge_in w
  have hc : edge w = 0 ∨ edge w = 1 ∨ edge w = 2 ∨ edge w = 3 ∨ edge w = 4 ∨ edge w = 5 := by omega
  have u0 : idx 6 (.int .u8 0) = some 0 := by kernel_rfl
  have u1 : idx 6 (.int .u8 1) = some 1 := by kernel_rfl
  have u2 : idx 6 (.int .u8 2) = some 2 := by kernel_rfl
  have u3 : idx 6 (.int .u8 3) = some 3 := by kernel_rfl
  have u4 : idx 6 (.int .u8 4) = some 4 := by kernel_rfl
  have u5 : idx 6 (.int .u8 5) = some 5 := by kernel_rfl
  unfold gone
  by_cases hn : isN w
  · rcases hc with e | e | e | e | e | e <;> rw [e] at ed <;> simp [i1, i2, ed, u0, u1, u2, u3, u4, u5, putN, fEq_self, hn, b5, e, LF]
  · rcases hc with e | e | e | e | e | e <;> rw [e] at ed <;> simp [i1, i2, ed, u0, u1, u2, u3, u4, u5, putN, fEq_self, hn, b5, e, LF]
theorem run_gnew (K : Int) (hK : 1 ≤ K ∧ K ≤ 16) (hp : Hp) : run cxX 77 [.sc (.int .i64 K)] hp = some (.tup [gnew.av K 2, .sc (.bool true)], hp) := by
  have i1 := fun hp => run_inf 1 hp
  have i2 := fun hp => run_inf (-1) hp
  simp at i1 i2
  have h1 : ¬(K < 1) := by omega
  have h2 : ¬(16 < K) := by omega
  rw [E77]
  simp [h1, h2]
  rw [B77_3_eq]
  simp [i1, i2, putN, getN, gnew]
theorem run_gadd (K : Int) {F : List Nat} {g : Gs} (k w : Nat) (hK : 1 ≤ K) (hg : GR K F g) (hl : F.length + 1 ≤ 1000) (hw : w < 18446744073709551616) (hp : Hp) :
    run cxX 78 [g.av K k, fl w] hp = some ((gmg K g (gone w)).av K 2, hp) := by
  have o := fun hp => run_one K w hw hp
  have m := fun k k' hp => run_gm K K k k' hg (gone_ok hK hw) (by simpa using hl) hp
  rw [E78]
  simp [getN, getSc, o, m, putN]
theorem eqInt (d : Nat) (a b : Int) : pureOf Go.Proofs.Tryz.prog (Op.equalIn (d + 1) 30 (.int .u32 a) (.int .u32 b)) = some (a == b) := by
  unfold Op.equalIn
  rw [pureOf_bind]
  have : pureOf Go.Proofs.Tryz.prog (underlying 30) = some (.int .u32) := by kernel_rfl
  rw [this]
  rfl
theorem eqArr (e0 e1 e2 e3 e4 e5 f0 f1 f2 f3 f4 f5 : Int) : pureOf Go.Proofs.Tryz.prog (Op.equal 49 (.agg #[.int .u32 e0, .int .u32 e1, .int .u32 e2, .int .u32 e3, .int .u32 e4, .int .u32 e5]) (.agg #[.int .u32 f0, .int .u32 f1, .int .u32 f2, .int .u32 f3, .int .u32 f4, .int .u32 f5])) =
    some (decide (e0 = f0 ∧ e1 = f1 ∧ e2 = f2 ∧ e3 = f3 ∧ e4 = f4 ∧ e5 = f5)) := by
  unfold Op.equal Op.maxDepth
  unfold Op.equalIn
  rw [pureOf_bind]
  have : pureOf Go.Proofs.Tryz.prog (underlying 49) = some (.array 6 30) := by kernel_rfl
  rw [this]
  simp only [Option.bind_some]
  rw [pureOf_bind]
  have hs : pureOf Go.Proofs.Tryz.prog (sizeOf 30) = some 1 := by kernel_rfl
  rw [hs]
  simp only [Option.bind_some]
  have hp : ∀ (x0 x1 x2 x3 x4 x5 : Value), pureOf Go.Proofs.Tryz.prog (part 30 #[x0, x1, x2, x3, x4, x5] 0) = some x0 ∧ pureOf Go.Proofs.Tryz.prog (part 30 #[x0, x1, x2, x3, x4, x5] 1) = some x1 ∧ pureOf Go.Proofs.Tryz.prog (part 30 #[x0, x1, x2, x3, x4, x5] 2) = some x2 ∧
      pureOf Go.Proofs.Tryz.prog (part 30 #[x0, x1, x2, x3, x4, x5] 3) = some x3 ∧ pureOf Go.Proofs.Tryz.prog (part 30 #[x0, x1, x2, x3, x4, x5] 4) = some x4 ∧ pureOf Go.Proofs.Tryz.prog (part 30 #[x0, x1, x2, x3, x4, x5] 5) = some x5 := by
    intro x0 x1 x2 x3 x4 x5
    refine ⟨?_, ?_, ?_, ?_, ?_, ?_⟩ <;> kernel_rfl
  have he := eqInt 9998
  obtain ⟨a0, a1, a2, a3, a4, a5⟩ := hp (.int .u32 e0) (.int .u32 e1) (.int .u32 e2) (.int .u32 e3) (.int .u32 e4) (.int .u32 e5)
  obtain ⟨b0, b1, b2, b3, b4, b5⟩ := hp (.int .u32 f0) (.int .u32 f1) (.int .u32 f2) (.int .u32 f3) (.int .u32 f4) (.int .u32 f5)
  rw [Std.Legacy.Range.forIn_eq_forIn_range']
  simp [Std.Legacy.Range.size, List.range'_succ, pureOf_bind, a0, b0, he]
  by_cases h0 : e0 = f0
  · subst h0
    simp [pureOf_bind, a1, b1, he]
    by_cases h1 : e1 = f1
    · subst h1
      simp [pureOf_bind, a2, b2, he]
      by_cases h2 : e2 = f2
      · subst h2
        simp [pureOf_bind, a3, b3, he]
        by_cases h3 : e3 = f3
        · subst h3
          simp [pureOf_bind, a4, b4, he]
          by_cases h4 : e4 = f4
          · subst h4
            simp [pureOf_bind, a5, b5, he]
            by_cases h5 : e5 = f5
            · subst h5
              simp [pureOf_bind]
            · simp [h5, pureOf_bind]
          · simp [h4, pureOf_bind]
        · simp [h3, pureOf_bind]
      · simp [h2, pureOf_bind]
    · simp [h1, pureOf_bind]
  · simp [h0, pureOf_bind]
theorem neq44 (x y : Operand) (e0 e1 e2 e3 e4 e5 f0 f1 f2 f3 f4 f5 : Int) : binV Go.Proofs.Tryz.prog .neq 49 x y (.agg #[.int .u32 e0, .int .u32 e1, .int .u32 e2, .int .u32 e3, .int .u32 e4, .int .u32 e5]) (.agg #[.int .u32 f0, .int .u32 f1, .int .u32 f2, .int .u32 f3, .int .u32 f4, .int .u32 f5]) =
    some (.bool (!decide (e0 = f0 ∧ e1 = f1 ∧ e2 = f2 ∧ e3 = f3 ∧ e4 = f4 ∧ e5 = f5))) := by
  unfold binV
  rw [pureOf_bind]
  have hg : pureOf Go.Proofs.Tryz.prog (eqGuard .neq 49 x y (.agg #[.int .u32 e0, .int .u32 e1, .int .u32 e2, .int .u32 e3, .int .u32 e4, .int .u32 e5]) (.agg #[.int .u32 f0, .int .u32 f1, .int .u32 f2, .int .u32 f3, .int .u32 f4, .int .u32 f5])) = some () := by kernel_rfl
  rw [hg]
  simp only [Option.bind_some, Go.binOp]
  rw [pureOf_bind, eqArr]
  rfl
theorem eql44 (x y : Operand) (e0 e1 e2 e3 e4 e5 f0 f1 f2 f3 f4 f5 : Int) : binV Go.Proofs.Tryz.prog .eql 49 x y (.agg #[.int .u32 e0, .int .u32 e1, .int .u32 e2, .int .u32 e3, .int .u32 e4, .int .u32 e5]) (.agg #[.int .u32 f0, .int .u32 f1, .int .u32 f2, .int .u32 f3, .int .u32 f4, .int .u32 f5]) =
    some (.bool (decide (e0 = f0 ∧ e1 = f1 ∧ e2 = f2 ∧ e3 = f3 ∧ e4 = f4 ∧ e5 = f5))) := by
  unfold binV
  rw [pureOf_bind]
  have hg : pureOf Go.Proofs.Tryz.prog (eqGuard .eql 49 x y (.agg #[.int .u32 e0, .int .u32 e1, .int .u32 e2, .int .u32 e3, .int .u32 e4, .int .u32 e5]) (.agg #[.int .u32 f0, .int .u32 f1, .int .u32 f2, .int .u32 f3, .int .u32 f4, .int .u32 f5])) = some () := by kernel_rfl
  rw [hg]
  simp only [Option.bind_some, Go.binOp]
  rw [pureOf_bind, eqArr]
  rfl
/-! ### Same -/
theorem gsame_loop (r0 r1 r2 r3 r4 r5 r6 r7 r8 r9 s0 s1 s2 s3 s4 s5 s6 s7 s8 s9 : AV) (a b : List Nat) (k k' : Nat) (hab : a.length = b.length) (hl : a.length ≤ 1000000) (ha : Ws a) (hb : Ws b) (hp : Hp) : ∀ (r s : List Nat) (i : Nat), a.drop i = r → b.drop i = s →
    B121_4 (.int .i64 a.length) (.int .i64 i) [r0, r1, r2, r3, r4, r5, r6, r7, r8, r9, S k 1 (LF a)] [s0, s1, s2, s3, s4, s5, s6, s7, s8, s9, S k' 1 (LF b)] hp = some (.sc (.bool (decide (r.map kw = s.map kw))), hp) := by
  intro r
  induction r with
  | nil =>
    intro s i hr hs
    have h1 := drop_nil hr
    have h2 : s = [] := by rw [← hs]; exact List.drop_eq_nil_of_le (by omega)
    have hlt : ¬((i : Int) < (a.length : Int)) := by omega
    rw [B121_4_eq]
    simp [hlt, h2]
  | cons x r ih =>
    intro s i hr hs
    obtain ⟨e1, e2, hi, e3⟩ := drop_cons hr
    rw [B121_4_eq]
    have hw : IntKind.i64.wrap ((i : Int) + 1) = ((i + 1 : Nat) : Int) := by rw [wrap64] <;> omega
    cases s with
    | nil => have := drop_nil hs; omega
    | cons y s =>
      obtain ⟨f1, f2, hj, f3⟩ := drop_cons hs
      have h := ih s (i + 1) e2 f2
      have q := fun hp => run_fsame x y (ha x (List.mem_of_getElem? e1)) (hb y (List.mem_of_getElem? f1)) hp
      simp at h hw
      by_cases e : kw x = kw y
      · simp only [e, decide_true] at q
        simp [hi, hj, getC, getSc, e3, f3, e, hw, h, q]
      · simp only [e, decide_false] at q
        simp [hi, hj, getC, getSc, e3, f3, e, q]
/-- Two gauges. -/
def GSame (K K' : Int) (g o : Gs) : Prop := K = K' ∧ g.M = o.M ∧ (g.e0 = o.e0 ∧ g.e1 = o.e1 ∧ g.e2 = o.e2 ∧ g.e3 = o.e3 ∧ g.e4 = o.e4 ∧ g.e5 = o.e5) ∧ kw g.lo = kw o.lo ∧ kw g.hi = kw o.hi ∧ g.L.map kw = o.L.map kw
theorem run_gsame (K K' : Int) (g o : Gs) (k k' : Nat) (hs : GSame K K' g o) (h1 : g.lo < 18446744073709551616 ∧ o.lo < 18446744073709551616) (h2 : g.hi < 18446744073709551616 ∧ o.hi < 18446744073709551616) (h3 : Ws g.L ∧ Ws o.L) (hl : g.L.length ≤ 1000000) (hp : Hp) :
    run cxX 121 [g.av K k, o.av K' k'] hp = some (.sc (.bool true), hp) := by
  obtain ⟨q1, q2, q3, q4, q5, q6⟩ := hs
  have len : g.L.length = o.L.length := by simpa using congrArg List.length q6
  have l := gsame_loop (.sc (.int .i64 K)) (.sc (.int .u32 g.M)) (.sc (.int .u32 g.e0)) (.sc (.int .u32 g.e1)) (.sc (.int .u32 g.e2)) (.sc (.int .u32 g.e3)) (.sc (.int .u32 g.e4)) (.sc (.int .u32 g.e5)) (fl g.lo) (fl g.hi)
    (.sc (.int .i64 K')) (.sc (.int .u32 o.M)) (.sc (.int .u32 o.e0)) (.sc (.int .u32 o.e1)) (.sc (.int .u32 o.e2)) (.sc (.int .u32 o.e3)) (.sc (.int .u32 o.e4)) (.sc (.int .u32 o.e5)) (fl o.lo) (fl o.hi) g.L o.L (rk k) (rk k') len hl h3.1 h3.2 hp g.L o.L 0 rfl rfl
  have r1 := fun hp => run_fsame g.lo o.lo h1.1 h1.2 hp
  have r2 := fun hp => run_fsame g.hi o.hi h2.1 h2.2 hp
  have a := neq44 (.tmp 20) (.tmp 22) g.e0 g.e1 g.e2 g.e3 g.e4 g.e5 o.e0 o.e1 o.e2 o.e3 o.e4 o.e5
  simp only [eq_true q3, eq_true q4, eq_true q5, eq_true q6, decide_true, Bool.not_true] at a r1 r2 l
  subst q1
  rw [E121]
  simp at l
  rw [len] at l
  rw [q2] at l
  simp [getSc, getC, getN, concA, allSc, q2, a, r1, r2, len, B121_3_eq]
  exact l
/-! ### the law's floats -/
open Classical in
/-- An item's float. -/
noncomputable def wd (p : Int × Int) : Nat := if h : ∃ w, w < 18446744073709551616 ∧ ∀ hp, run cxX 133 [.sc (.int .u64 p.1), .sc (.int .u8 p.2)] hp = some (fl w, hp) then h.choose else 0
/-- An item's bounds. -/
def InI (p : Int × Int) : Prop := (0 ≤ p.1 ∧ p.1 < 18446744073709551616) ∧ (0 ≤ p.2 ∧ p.2 < 256)
theorem wd_ok {p : Int × Int} (h : InI p) : wd p < 18446744073709551616 ∧ ∀ hp, run cxX 133 [.sc (.int .u64 p.1), .sc (.int .u8 p.2)] hp = some (fl (wd p), hp) := by
  have he := run_float p.1 p.2 h.1 h.2
  unfold wd
  rw [dif_pos he]
  exact he.choose_spec
theorem run_item (p : Int × Int) (h : InI p) (hp : Hp) : run cxX 79 [.agg [.sc (.int .u64 p.1), .sc (.int .u8 p.2)]] hp = some (fl (wd p), hp) := by
  rw [E79]
  simp [getSc, (wd_ok h).2]
/-! ### rows of pairs -/
def LP : List (Int × Int) → List AV
  | [] => []
  | p :: l => .sc (.int .u64 p.1) :: .sc (.int .u8 p.2) :: LP l
theorem lenP : ∀ l, (LP l).length = 2 * l.length
  | [] => rfl
  | p :: l => by simp only [LP, List.length_cons, lenP l]; omega
theorem dropP : ∀ (i : Nat) (l : List (Int × Int)), (LP l).drop (i * 2) = LP (l.drop i)
  | 0, l => by simp
  | i + 1, [] => by simp [LP]
  | i + 1, p :: l => by
    have h : (i + 1) * 2 = i * 2 + 1 + 1 := by omega
    rw [h, LP, List.drop_succ_cons, List.drop_succ_cons, dropP i l, List.drop_succ_cons]
theorem appP : ∀ a b, LP (a ++ b) = LP a ++ LP b
  | [], b => rfl
  | p :: a, b => by simp only [List.cons_append, LP, appP a b]
theorem flatP : ∀ l, Flat (LP l)
  | [] => rfl
  | p :: l => by
    have h : (LP l).map ro1 = LP l := flatP l
    show (LP (p :: l)).map ro1 = LP (p :: l)
    simp only [LP, List.map_cons, h, ro1_sc]
theorem lenA_P (k : Nat) (l : List (Int × Int)) : lenA (S k 2 (LP l)) = some l.length := by
  have h : (if (2 : Nat) = 1 then (LP l).length else (LP l).length / 2) = l.length := by rw [if_neg (by omega), lenP]; omega
  rcases S_cases k 2 (LP l) with e | e | ⟨e, e'⟩
  · rw [e]; simp only [lenA, h]
  · rw [e]; simp only [lenA, h]
  · rw [e]
    have : l.length = 0 := by have := lenP l; rw [e'] at this; simp at this; omega
    rw [this]; rfl
theorem idxA_P (k : Nat) {l : List (Int × Int)} {i : Nat} {p : Int × Int} (h : l[i]? = some p) : idxA 2 (S k 2 (LP l)) (.int .i64 (i : Int)) = some [.sc (.int .u64 p.1), .sc (.int .u8 p.2)] := by
  obtain ⟨hi, hp⟩ := List.getElem?_eq_some_iff.mp h
  have hl : (if (2 : Nat) = 1 then (LP l).length else (LP l).length / 2) = l.length := by rw [if_neg (by omega), lenP]; omega
  have hx : idx l.length (.int .i64 (i : Int)) = some i := by
    have hc : (0 : Int) ≤ (i : Int) ∧ (i : Int) < (l.length : Int) := ⟨by omega, by omega⟩
    simp only [idx, asI, Option.bind_some, hc, and_self, if_true, Int.toNat_natCast]
  have hg : getN (LP l) (i * 2) 2 = some [.sc (.int .u64 p.1), .sc (.int .u8 p.2)] := by
    unfold getN
    rw [if_pos (by rw [lenP]; omega), dropP, List.drop_eq_getElem_cons hi, hp]
    rfl
  rcases S_cases k 2 (LP l) with e | e | ⟨e, e'⟩
  · rw [e]; simp only [idxA, if_true, hl, hx, Option.bind_some, hg]
  · rw [e]; simp only [idxA, if_true, hl, hx, Option.bind_some, hg]
  · exfalso
    have := lenP l
    rw [e'] at this
    simp at this
    omega
/-! ### of many floats -/
def gfold (K : Int) (g : Gs) : List Nat → Gs
  | [] => g
  | w :: r => gfold K (gmg K g (gone w)) r
theorem gfold_ok {K : Int} (hK : 1 ≤ K) : ∀ {r F : List Nat} {g : Gs}, GR K F g → Ws r → F.length + r.length ≤ 1000 → GR K (F ++ r) (gfold K g r)
  | [], F, g, h, _, _ => by simpa [gfold] using h
  | w :: r, F, g, h, hr, hl => by
    have h1 := h.merge (gone_ok hK (hr w (by simp))) (by simp at hl ⊢; omega)
    have h2 := gfold_ok hK (r := r) h1 (fun x hx => hr x (by simp [hx])) (by simp at hl ⊢; omega)
    rw [List.append_assoc] at h2
    exact h2
theorem gauge_loop (K : Int) (k : Nat) (l : List (Int × Int)) (z0 z1 z2 z3 z4 z5 z6 z7 z8 z9 z10 : AV) (hK : 1 ≤ K) (hl : l.length ≤ 900) (hI : ∀ p ∈ l, InI p) (hp : Hp) : ∀ (r : List (Int × Int)) (i : Nat) (F : List Nat) (g : Gs), l.drop i = r → F.length = i → GR K F g →
    B31_3 (S k 2 (LP l)) (.int .i64 l.length) (.int .i64 i) [z0, z1, z2, z3, z4, z5, z6, z7, z8, z9, z10] [.sc (.int .i64 K), .sc (.int .u32 g.M), .sc (.int .u32 g.e0), .sc (.int .u32 g.e1), .sc (.int .u32 g.e2), .sc (.int .u32 g.e3), .sc (.int .u32 g.e4), .sc (.int .u32 g.e5), fl g.lo, fl g.hi, S 2 1 (LF g.L)] hp =
      some ((gfold K g (r.map wd)).av K 2, hp) := by
  intro r
  induction r with
  | nil =>
    intro i F g hr hF hg
    have := drop_nil hr
    have hlt : ¬((i : Int) < (l.length : Int)) := by omega
    rw [B31_3_eq]
    simp [hlt, getN, putN, gfold]
  | cons p r ih =>
    intro i F g hr hF hg
    obtain ⟨e1, e2, hi, e3⟩ := drop_cons hr
    have hpI := hI p (List.mem_of_getElem? e1)
    have hw := (wd_ok hpI).1
    have ix := idxA_P k e1
    have it := fun hp => run_item p hpI hp
    have ad := fun k hp => run_gadd K k (wd p) hK hg (by omega) hw hp
    have h := ih (i + 1) (F ++ [wd p]) (gmg K g (gone (wd p))) e2 (by simp [hF]) (hg.merge (gone_ok hK hw) (by simp; omega))
    have hwi : IntKind.i64.wrap ((i : Int) + 1) = ((i + 1 : Nat) : Int) := by rw [wrap64] <;> omega
    rw [B31_3_eq]
    simp at h hwi
    simp [hi, ix, getN, putN, it, ad, hwi, h, gfold]
theorem run_gauge (c : Int) (k : Nat) (l : List (Int × Int)) (hc : 0 ≤ c ∧ c < 256) (hl : l.length ≤ 900) (hI : ∀ p ∈ l, InI p) (hp : Hp) :
    run cxX 31 [.sc (.int .u8 c), S k 2 (LP l)] hp = some ((gfold (1 + c % 16) gnew (l.map wd)).av (1 + c % 16) 2, hp) := by
  have m : ∀ x y, binV Go.Proofs.Tryz.prog .rem 5 x y (.int .u8 c) (.int .u8 16) = some (.int .u8 (c % 16)) := by
    intro x y; rw [binV_rem _ _ _ _ _ _ _ (by omega), tmod_pos hc.1]
  have w1 : IntKind.i64.wrap (c % 16) = c % 16 := wrap64 (by omega) (by omega)
  have w2 : IntKind.i64.wrap (1 + c % 16) = 1 + c % 16 := wrap64 (by omega) (by omega)
  have cv : ∀ n : Int, cvV Go.Proofs.Tryz.prog 5 3 (.int .u8 n) = some (.int .i64 (IntKind.i64.wrap n)) := fun n => by kernel_rfl
  have nw := fun hp => run_gnew (1 + c % 16) (by omega) hp
  have lp := fun z0 z1 z2 z3 z4 z5 z6 z7 z8 z9 z10 => gauge_loop (1 + c % 16) (rk k) l z0 z1 z2 z3 z4 z5 z6 z7 z8 z9 z10 (by omega) hl hI hp l 0 [] gnew rfl rfl (gnew_ok _)
  simp at lp
  rw [E31]
  simp [m, cv, w1, w2, nw, putN, lenA_P]
  exact lp _ _ _ _ _ _ _ _ _ _ _
theorem g3_eq : gmg 3 (gmg 3 (gmg 3 gnew (gone 0)) (gone 9223372036854775808)) (gone 9221120237041090561) = ⟨3, 0, 1, 0, 0, 1, 1, 9223372036854775808, 0, [9223372036854775808, 0, 9221120237041090561]⟩ := by
  have n0 : ¬isN 0 := by decide
  have n1 : ¬isN 9223372036854775808 := by decide
  have n2 : isN 9221120237041090561 := by decide
  have k0 : kw 0 = 9223372036854775808 := by decide
  have k1 : kw 9223372036854775808 = 9223372036854775807 := by decide
  have k2 : kw 9221120237041090561 = 18444492273895866369 := by decide
  have kp : kw 9218868437227405312 = 18442240474082181120 := by decide
  have km : kw 18442240474082181120 = 4503599627370495 := by decide
  have w0 : wk 9223372036854775808 = 0 := by decide
  have w1 : wk 9223372036854775807 = 9223372036854775808 := by decide
  have w2 : wk 18444492273895866369 = 9221120237041090561 := by decide
  have e0 : edge 0 = 5 := by decide
  have e1 : edge 9223372036854775808 = 4 := by decide
  have e2 : edge 9221120237041090561 = 1 := by decide
  have t3 : (3 : Int).toNat = 3 := rfl
  simp [gmg, gone, gnew, plus, n0, n1, n2, k0, k1, k2, kp, km, w0, w1, w2, e0, e1, e2, fmin, fmax, gm_cons, t3]
/-! ### GaugeMerges -/
theorem GR.same {K : Int} {F H : List Nat} {g o : Gs} (hg : GR K F g) (ho : GR K H o) (h : F.Perm H) : GSame K K g o := by
  refine ⟨rfl, ?_, ⟨?_, ?_, ?_, ?_, ?_, ?_⟩, ?_, ?_, ?_⟩
  · rw [hg.M, ho.M, h.length_eq]
  · rw [hg.e0, ho.e0, cnt_perm 0 h]
  · rw [hg.e1, ho.e1, cnt_perm 1 h]
  · rw [hg.e2, ho.e2, cnt_perm 2 h]
  · rw [hg.e3, ho.e3, cnt_perm 3 h]
  · rw [hg.e4, ho.e4, cnt_perm 4 h]
  · rw [hg.e5, ho.e5, cnt_perm 5 h]
  · rw [hg.klo, ho.klo, lowK_perm h]
  · rw [hg.khi, ho.khi, highK_perm h]
  · rw [hg.keys, ho.keys, sk_of_perm (h.map kw)]
theorem run_gsame_perm {K : Int} {F H : List Nat} {g o : Gs} (k k' : Nat) (hg : GR K F g) (ho : GR K H o) (h : F.Perm H) (hl : F.length ≤ 1000) (hp : Hp) : run cxX 121 [g.av K k, o.av K k'] hp = some (.sc (.bool true), hp) := by
  have := hg.len
  exact run_gsame K K g o k k' (hg.same ho h) ⟨hg.lo, ho.lo⟩ ⟨hg.hi, ho.hi⟩ ⟨hg.ws, ho.ws⟩ (by omega) hp
theorem ws_wd {l : List (Int × Int)} (h : ∀ p ∈ l, InI p) : Ws (l.map wd) := by
  intro w hw
  obtain ⟨p, hp, rfl⟩ := List.mem_map.mp hw
  exact (wd_ok (h p hp)).1
end Go.Proofs.YtchmioacjkbfcaaGreat.AI
