/- The least hashes: about how many; the law of it. -/
import Derived.Test.YtmnefpfbgadnkaaKmvF
namespace Go.Proofs.Ytmnefpfbgadnkaa.AI
open Go
set_option linter.unusedVariables false
set_option linter.unusedSimpArgs false
set_option maxRecDepth 100000

@[simp] theorem bltV_max (P : Program) (ts : Array TypeId) (t : TypeId) (k k' : IntKind) (a b : Int) : bltV P .max ts t [.int k a, .int k' b] = some (.int k (if b > a then b else a)) := rfl
/-- About how many, of K ones of which the greatest is 'top'. -/
def abt (k top : Nat) : Nat := if top = 18446744073709551615 then k else if top < k then 18446744073709551615 else k * 18446744073709551616 / (top + 1)
theorem run_about_few (K : Int) (l : List Int) (k : Nat) (hl : l.length ≤ 1000) (h : (l.length : Int) < K) (hp : Hp) : run cxX 25 [Kv K (S k 1 (LI .u64 l))] hp = some (.sc (.int .u64 l.length), hp) := by
  have w : IntKind.u64.wrap ((l.length : Nat) : Int) = (l.length : Int) := wnat _ (by omega)
  rw [E25]
  simp [getC, getSc, h, B25_3_eq, cv_3_27, w]
theorem run_about_nil (hp : Hp) : run cxX 25 [Kv 0 (S 2 1 [])] hp = some (.sc (.int .u64 0), hp) := by
  have w : IntKind.u64.wrap 0 = 0 := rfl
  rw [E25]
  simp [getC, getSc, B25_3_eq, cv_3_27, w]
theorem run_about_full (l : List Int) (k top : Nat) (hl : l.length ≤ 1000) (h0 : 0 < l.length) (ht : l[l.length - 1]? = some (top : Int)) (htop : top < 18446744073709551616) (hp : Hp) :
    run cxX 25 [Kv l.length (S k 1 (LI .u64 l))] hp = some (.sc (.int .u64 (abt (l.length - 1) top : Int)), hp) := by
  have hw : IntKind.i64.wrap ((l.length : Int) - 1) = ((l.length - 1 : Nat) : Int) := by rw [wrap64] <;> omega
  have w : IntKind.u64.wrap ((l.length - 1 : Nat) : Int) = ((l.length - 1 : Nat) : Int) := wnat _ (by omega)
  have hne : ¬((l.length : Int) = 0) := by omega
  have hne' : ¬(l = []) := by intro e; subst e; simp at h0
  rw [E25]
  simp only [cellsN_agg, List.length_cons, List.length_nil, Nat.reduceAdd, if_true, Option.bind_some, List.map_cons, List.map_nil, ro1_sc, ro1_S, getC, getSc, List.getElem?_cons_succ, List.getElem?_cons_zero, lenA_S, lenI, binV_lss, Int.ofNat_eq_natCast, asSc_sc, asB_bool, Int.lt_irrefl, decide_false, cond_false, binV_eql]
  have hz : ((l.length : Int) = ((0 : Nat) : Int)) = False := eq_false (by omega)
  simp only [hz, decide_false, cond_false]
  rw [B25_4_eq]
  have ix : idxA 1 (S (rk k) 1 (LI .u64 l)) (.int .i64 ((l.length - 1 : Nat) : Int)) = some [.sc (.int .u64 (top : Int))] := by
    rw [idxA_S, if_pos (by omega), Int.toNat_natCast, getI?, ht]; rfl
  have hw' : IntKind.i64.wrap ((l.length : Int) - ((1 : Nat) : Int)) = ((l.length - 1 : Nat) : Int) := hw
  unfold abt
  by_cases e1 : top = 18446744073709551615
  · have c : ((top : Int) = ((18446744073709551615 : Nat) : Int)) = True := eq_true (by omega)
    simp only [getC, getSc, List.getElem?_cons_succ, List.getElem?_cons_zero, Option.bind_some, Int.ofNat_eq_natCast, binV_sub, hw', ro1_S, rk_rk, ix, asSc_sc, cv_3_27, w, binV_eql, c, decide_true, asB_bool, cond_true]
    rw [if_pos e1]
  · have c : ((top : Int) = ((18446744073709551615 : Nat) : Int)) = False := eq_false (by omega)
    rw [if_neg e1]
    by_cases e2 : top < l.length - 1
    · have c2 : (((l.length - 1 : Nat) : Int) > (top : Int)) = True := eq_true (by omega)
      simp only [getC, getSc, List.getElem?_cons_succ, List.getElem?_cons_zero, Option.bind_some, Int.ofNat_eq_natCast, binV_sub, hw', ro1_S, rk_rk, ix, asSc_sc, cv_3_27, w, binV_eql, c, decide_false, asB_bool, cond_false, binV_gtr, c2, decide_true, cond_true]
      rw [if_pos e2]
    · have c2 : (((l.length - 1 : Nat) : Int) > (top : Int)) = False := eq_false (by omega)
      obtain ⟨r, d⟩ := run_div (l.length - 1) (top + 1) (by omega) (by omega)
      have wt : IntKind.u64.wrap ((top : Int) + ((1 : Nat) : Int)) = ((top + 1 : Nat) : Int) := by rw [wrapu64] <;> omega
      have z : ((0 : Nat) : Int) = 0 := rfl
      simp only [getC, getSc, List.getElem?_cons_succ, List.getElem?_cons_zero, Option.bind_some, Int.ofNat_eq_natCast, binV_sub, hw', ro1_S, rk_rk, ix, asSc_sc, cv_3_27, w, binV_eql, c, decide_false, asB_bool, cond_false, binV_gtr, c2, binV_add, wt, ro_sc, z, d]
      rw [if_neg e2]
      simp [chkTup, nthA]
/-! ### the law's division, bit by bit -/
theorem bits_loop (k top : Nat) (x34 : AV) (v35 v36 : Value) (b12 : List AV) (hk : k ≤ top) (ht : top < 18446744073709551615) (hp : Hp) : ∀ (m i q r : Nat), i + m = 64 → q * (top + 1) + r = k * 2 ^ i → r < top + 1 → q < 2 ^ i →
    B8_16 (.int .u64 (top : Int)) (.int .u64 (q : Int)) (.int .u64 (r : Int)) x34 v35 v36 (.int .i64 (i : Int)) b12 hp = B8_28 (.int .u64 ((k * 18446744073709551616 / (top + 1) : Nat) : Int)) x34 v35 v36 b12 hp := by
  intro m
  induction m with
  | zero =>
    intro i q r hi hq hr hqi
    obtain rfl : i = 64 := by omega
    have e : k * 18446744073709551616 / (top + 1) = q := by
      have e2 : (2 : Nat) ^ 64 = 18446744073709551616 := rfl
      rw [e2] at hq
      rw [← hq, Nat.mul_comm q, Nat.mul_add_div (by omega), Nat.div_eq_of_lt hr, Nat.add_zero]
    rw [e, B8_16_eq]
    have c : ((((64 : Nat) : Int)) < ((64 : Nat) : Int)) = False := eq_false (by omega)
    simp only [Int.ofNat_eq_natCast, binV_lss, c, decide_false, asB_bool, Option.bind_some, cond_false]
  | succ m ih =>
    intro i q r hi hq hr hqi
    have c : ((i : Int) < ((64 : Nat) : Int)) = True := eq_true (by omega)
    have hp63 : q * 2 < 18446744073709551616 := by
      have h1 : 2 ^ i ≤ 2 ^ 63 := Nat.pow_le_pow_right (by omega) (by omega)
      have h2 : (2 : Nat) ^ 63 = 9223372036854775808 := rfl
      rw [h2] at h1
      omega
    have sh := fun o o' => shr_nat r 63 (by omega) o o' .u64
    have e63 : (2 : Nat) ^ 63 = 9223372036854775808 := rfl
    rw [e63] at sh
    have wq := wmul q 2 hp63
    have wi : IntKind.i64.wrap ((i : Int) + ((1 : Nat) : Int)) = ((i + 1 : Nat) : Int) := by rw [wrap64] <;> omega
    have wt : IntKind.u64.wrap ((top : Int) + ((1 : Nat) : Int)) = ((top + 1 : Nat) : Int) := by rw [wrapu64] <;> omega
    have hpow : k * 2 ^ (i + 1) = 2 * (k * 2 ^ i) := by rw [Nat.pow_succ, ← Nat.mul_assoc, Nat.mul_comm]
    have hpow2 : (2 : Nat) ^ (i + 1) = 2 * 2 ^ i := by rw [Nat.pow_succ, Nat.mul_comm]
    -- behind a subtraction
    have g21 : top + 1 ≤ 2 * r → B8_21 (.int .u64 (top : Int)) (.int .u64 ((q * 2 : Nat) : Int)) (.int .u64 (IntKind.u64.wrap ((r : Int) * ((2 : Nat) : Int)))) x34 v35 v36 (.int .i64 (i : Int)) b12 hp = B8_28 (.int .u64 ((k * 18446744073709551616 / (top + 1) : Nat) : Int)) x34 v35 v36 b12 hp := by
      intro h2r
      have ws : IntKind.u64.wrap (IntKind.u64.wrap ((r : Int) * ((2 : Nat) : Int)) - ((top + 1 : Nat) : Int)) = ((2 * r - (top + 1) : Nat) : Int) := by
        rw [IntKind.wrap_u64, IntKind.wrap_u64]; omega
      have wq1 : IntKind.u64.wrap (((q * 2 : Nat) : Int) + ((1 : Nat) : Int)) = ((q * 2 + 1 : Nat) : Int) := by rw [wrapu64] <;> omega
      have g := ih (i + 1) (q * 2 + 1) (2 * r - (top + 1)) (by omega) (by
        rw [hpow, ← hq, Nat.add_mul, Nat.mul_right_comm]
        generalize q * (top + 1) = z
        omega) (by omega) (by rw [hpow2]; omega)
      rw [B8_21_eq]
      simp only [Int.ofNat_eq_natCast, binV_add, binV_sub, Option.bind_some, wt, ws, wq1]
      rw [B8_23_eq]
      simp only [Int.ofNat_eq_natCast, binV_add, Option.bind_some, wi]
      exact g
    rw [B8_16_eq]
    by_cases ho : 9223372036854775808 ≤ r
    · have hd : r / 9223372036854775808 = 1 := by omega
      rw [hd] at sh
      have one : (((1 : Nat) : Int) = ((1 : Nat) : Int)) = True := eq_true rfl
      simp only [Int.ofNat_eq_natCast, binV_lss, c, decide_true, asB_bool, Option.bind_some, cond_true, sh, binV_eql, binV_mul, wq, one]
      exact g21 (by omega)
    · have hd : r / 9223372036854775808 = 0 := by omega
      rw [hd] at sh
      have one : (((0 : Nat) : Int) = ((1 : Nat) : Int)) = False := eq_false (by omega)
      have wr := wmul r 2 (by omega)
      by_cases hb : top + 1 ≤ r * 2
      · have c2 : (((r * 2 : Nat) : Int) ≥ ((top + 1 : Nat) : Int)) = True := eq_true (by omega)
        have g := g21 (by omega)
        rw [wr] at g
        simp only [Int.ofNat_eq_natCast, binV_lss, c, decide_true, decide_false, asB_bool, Option.bind_some, cond_true, cond_false, sh, binV_eql, binV_mul, wq, wr, one, binV_add, wt, binV_geq, c2]
        exact g
      · have c2 : (((r * 2 : Nat) : Int) ≥ ((top + 1 : Nat) : Int)) = False := eq_false (by omega)
        have g := ih (i + 1) (q * 2) (r * 2) (by omega) (by
          rw [hpow, ← hq, Nat.mul_right_comm]
          generalize q * (top + 1) = z
          omega) (by omega) (by rw [hpow2]; omega)
        simp only [Int.ofNat_eq_natCast, binV_lss, c, decide_true, decide_false, asB_bool, Option.bind_some, cond_true, cond_false, sh, binV_eql, binV_mul, wq, wr, one, binV_add, wt, binV_geq, c2]
        rw [B8_23_eq]
        simp only [Int.ofNat_eq_natCast, binV_add, Option.bind_some, wi]
        exact g
theorem about_iter (x34 : AV) (K : Int) (l : List Int) (k n i : Nat) (hidx : idxA 2 x34 (.int .i64 i) = some [.sc (.int .i64 K), S k 1 (LI .u64 l)]) (hi : i < n) (hK : 1 ≤ K) (hl : (l.length : Int) ≤ K) (hl2 : l.length ≤ 1000) (h64 : ∀ m ∈ l, 0 ≤ m ∧ m < 18446744073709551616) (hin : i ≤ 100) (hp : Hp) :
    B8_8 x34 (.int .i64 n) (.int .i64 i) hp = B8_8 x34 (.int .i64 n) (.int .i64 ((i + 1 : Nat) : Int)) hp := by
  have wi : IntKind.i64.wrap ((i : Int) + 1) = ((i + 1 : Nat) : Int) := by rw [wrap64] <;> omega
  have wn : IntKind.u64.wrap ((l.length : Nat) : Int) = (l.length : Int) := wnat _ (by omega)
  have b29 : ∀ (want : Int) (hp : Hp), (∀ k hp, run cxX 25 [Kv K (S k 1 (LI .u64 l))] hp = some (.sc (.int .u64 want), hp)) →
      B8_29 (.int .u64 want) x34 (.int .i64 n) (.int .i64 i) [.sc (.int .i64 K), S (rk k) 1 (LI .u64 l)] hp = B8_8 x34 (.int .i64 n) (.int .i64 ((i + 1 : Nat) : Int)) hp := by
    intro want hp ha
    rw [B8_29_eq]
    simp [getN, ha, wi]
  conv => lhs; rw [B8_8_eq]
  by_cases hf : (l.length : Int) < K
  · have ne : ¬((l.length : Int) = K) := by omega
    have ha := fun k hp => run_about_few K l k hl2 hf hp
    have g := b29 _ hp ha
    simp [hi, hidx, getN, putN, getC, getSc, cv_3_27, wn, ne]
    simpa using g
  · have hKl : K = (l.length : Int) := by omega
    subst hKl
    have h0 : 0 < l.length := by omega
    have hlt : l.length - 1 < l.length := by omega
    have e := List.getElem?_eq_getElem hlt
    have hm := h64 _ (List.getElem_mem hlt)
    obtain ⟨top, ht⟩ : ∃ top : Nat, l[l.length - 1] = (top : Int) := ⟨l[l.length - 1].toNat, by omega⟩
    rw [ht] at e hm
    have ha := fun k hp => run_about_full l k top hl2 h0 e (by omega) hp
    have g := b29 _ hp ha
    have hw : IntKind.i64.wrap ((l.length : Int) - 1) = ((l.length - 1 : Nat) : Int) := by rw [wrap64] <;> omega
    have w1 : IntKind.u64.wrap ((l.length - 1 : Nat) : Int) = ((l.length - 1 : Nat) : Int) := wnat _ (by omega)
    have g28 : ∀ want : Int, want = (abt (l.length - 1) top : Int) → B8_28 (.int .u64 want) x34 (.int .i64 n) (.int .i64 i) [.sc (.int .i64 (l.length : Int)), S (rk k) 1 (LI .u64 l)] hp = B8_8 x34 (.int .i64 n) (.int .i64 ((i + 1 : Nat) : Int)) hp := by
      intro want hwant
      rw [B8_28_eq, hwant]
      exact g
    have ix : ∀ k, idxA 1 (S k 1 (LI .u64 l)) (.int .i64 ((l.length - 1 : Nat) : Int)) = some [.sc (.int .u64 (top : Int))] := by
      intro k
      rw [idxA_S, if_pos (by omega), Int.toNat_natCast, getI?, e]; rfl
    unfold abt at g28
    have hi' : ((i : Int) < (n : Int)) = True := eq_true (by omega)
    have hw' : IntKind.i64.wrap ((l.length : Int) - ((1 : Nat) : Int)) = ((l.length - 1 : Nat) : Int) := hw
    have gl : getN [AV.sc (.int .i64 (l.length : Int)), S k 1 (LI .u64 l)] 0 2 = some [AV.sc (.int .i64 (l.length : Int)), S k 1 (LI .u64 l)] := rfl
    have pl : ∀ a b : AV, putN [AV.sc (.int .i64 ((0 : Nat) : Int)), AV.sc (Value.slice none 0 0)] 0 [a, b] = some [a, b] := fun a b => rfl
    simp only [Int.ofNat_eq_natCast, binV_lss, hi', decide_true, asB_bool, Option.bind_some, cond_true, hidx, gl, List.map_cons, List.map_nil, ro1_sc, ro1_S, cellsN_agg, List.length_cons, List.length_nil, Nat.reduceAdd, if_true, pl, getC, getSc, List.getElem?_cons_succ, List.getElem?_cons_zero, lenA_S, lenI, cv_3_27, wn, asSc_sc, binV_eql, rk_rk, binV_sub, hw', ix, w1]
    by_cases e1 : top = 18446744073709551615
    · have c : ((top : Int) = ((18446744073709551615 : Nat) : Int)) = True := eq_true (by omega)
      simp only [c, decide_true, cond_true]
      exact g28 _ (by rw [if_pos e1])
    · have c : ((top : Int) = ((18446744073709551615 : Nat) : Int)) = False := eq_false (by omega)
      simp only [c, decide_false, cond_false, binV_gtr, Option.bind_some, asB_bool]
      by_cases e2 : top < l.length - 1
      · have c2 : (((l.length - 1 : Nat) : Int) > (top : Int)) = True := eq_true (by omega)
        simp only [c2, decide_true, cond_true]
        exact g28 _ (by rw [if_neg e1, if_pos e2])
      · have c2 : (((l.length - 1 : Nat) : Int) > (top : Int)) = False := eq_false (by omega)
        simp only [c2, decide_false, cond_false]
        have bl := bits_loop (l.length - 1) top x34 (.int .i64 n) (.int .i64 i) [.sc (.int .i64 (l.length : Int)), S (rk k) 1 (LI .u64 l)] (by omega) (by omega) hp 64 0 0 (l.length - 1) rfl (by simp) (by omega) (by simp)
        have g := g28 _ (by rw [if_neg e1, if_neg e2])
        exact bl.trans g
theorem idx4_0 (a b c d : AV) : idxA 2 (S 1 2 [a, b, c, d]) (.int .i64 ((0 : Nat) : Int)) = some [a, b] := by kernel_rfl
theorem idx4_1 (a b c d : AV) : idxA 2 (S 1 2 [a, b, c, d]) (.int .i64 ((1 : Nat) : Int)) = some [c, d] := by kernel_rfl
theorem len4_2 (a b c d : AV) : lenA (S 1 2 [a, b, c, d]) = some 2 := by kernel_rfl
theorem about_two (J : Int) (T : List Int) (k k' : Nat) (z : Int) (hJ : 1 ≤ J) (hT : (T.length : Int) ≤ J) (hT2 : T.length ≤ 1000) (h64 : ∀ m ∈ T, 0 ≤ m ∧ m < 18446744073709551616) (hz : 0 ≤ z ∧ z < 18446744073709551616) (hp : Hp) :
    B8_8 (S 1 2 [.sc (.int .i64 J), S k 1 (LI .u64 T), .sc (.int .i64 3), S k' 1 (LI .u64 [0, 1, z])]) (.int .i64 2) (.int .i64 0) hp = some (.sc (.bool true), hp) := by
  have i0 := about_iter _ J T k 2 0 (idx4_0 (.sc (.int .i64 J)) (S k 1 (LI .u64 T)) (.sc (.int .i64 3)) (S k' 1 (LI .u64 [0, 1, z]))) (by omega) hJ hT hT2 h64 (by omega) hp
  have i1 := about_iter _ 3 [0, 1, z] k' 2 1 (idx4_1 (.sc (.int .i64 J)) (S k 1 (LI .u64 T)) (.sc (.int .i64 3)) (S k' 1 (LI .u64 [0, 1, z]))) (by omega) (by omega) (by simp) (by simp) (by
    intro m hm
    simp at hm
    omega) (by omega) hp
  have z0 : ((0 : Nat) : Int) = 0 := rfl
  have z1 : ((0 + 1 : Nat) : Int) = ((1 : Nat) : Int) := rfl
  have z2 : ((2 : Nat) : Int) = 2 := rfl
  rw [z0, z1, z2] at i0
  rw [z2] at i1
  rw [i0, i1]
  rw [B8_8_eq]
  have c : (((1 + 1 : Nat) : Int) < 2) = False := eq_false (by omega)
  have ab := run_about_nil
  simp only [binV_lss, c, decide_false, asB_bool, Option.bind_some, cond_false]
  simp [ab]
theorem run_kabout (c : Int) (few : Bool) (l : List Int) (k : Nat) (z : Int) (hc : 0 ≤ c ∧ c < 256) (hl0 : ∀ n ∈ l, 0 ≤ n ∧ n < 18446744073709551616) (hz : 0 ≤ z ∧ z < 18446744073709551616) (hp : Hp) :
    run cxX 8 [.sc (.int .u8 c), S k 1 (LI .u64 l), .sc (.bool few), .sc (.int .u64 z)] hp = some (.sc (.bool true), hp) := by
  rw [E8]
  by_cases h1 : (40 : Int) < (l.length : Int)
  · simp [run_kawake, h1]
  · have r := fun k hp => run_kmv c few l k hc (by omega) (fun n hn => (hl0 n hn).1) hp
    have hJ : 1 ≤ 1 + c % 20 := by omega
    have hJ2 : 1 + c % 20 ≤ 20 := by omega
    generalize 1 + c % 20 = J at r hJ hJ2
    have lT := kmvs_len J.toNat (l.map (cut few))
    have h64 : ∀ m ∈ kmvs J.toNat [] (l.map (cut few)), 0 ≤ m ∧ m < 18446744073709551616 := by
      intro m hm
      obtain ⟨n, hn, rfl⟩ := List.mem_map.mp (mem_kmvs hm)
      have := hl0 n hn
      unfold cut
      cases few <;> simp <;> omega
    generalize kmvs J.toNat [] (l.map (cut few)) = T at r lT h64
    have hz2 : ∃ w : Int, (if 2 > z then 2 else z) = w ∧ 0 ≤ w ∧ w < 18446744073709551616 := ⟨_, rfl, by split <;> omega, by split <;> omega⟩
    obtain ⟨w, ew, hw⟩ := hz2
    have t := fun k k' hp => about_two J T k k' w hJ (by omega) (by omega) h64 hw hp
    have eL : LI .u64 [0, 1, w] = [.sc (.int .u64 0), .sc (.int .u64 1), .sc (.int .u64 w)] := rfl
    rw [eL] at t
    simp only [gt_iff_lt] at ew
    simp [run_kawake, h1, r, putN, getN, ew, len4_2, t]
theorem law_KmvAbout (c : Int) (wc : InK .u8 c) (k : Nat) (l : List Int) (wl : ∀ n ∈ l, InK .u64 n) (few : Bool) (z : Int) (wz : InK .u64 z) (hp : Hp) :
    ∃ hp', run cxX 8 [.sc (.int .u8 c), S k 1 (LI .u64 l), .sc (.bool few), .sc (.int .u64 z)] hp = some (.sc (.bool true), hp') :=
  ⟨hp, run_kabout c few l k z wc.u8 (fun n hn => (wl n hn).u64) wz.u64 hp⟩
end Go.Proofs.Ytmnefpfbgadnkaa.AI
