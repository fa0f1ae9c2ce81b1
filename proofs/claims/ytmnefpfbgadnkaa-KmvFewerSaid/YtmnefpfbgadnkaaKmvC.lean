/- The least hashes: the law of a lesser K. -/
import Derived.Test.YtmnefpfbgadnkaaKmvB
namespace Go.Proofs.Ytmnefpfbgadnkaa.AI
open Go
set_option linter.unusedVariables false
set_option linter.unusedSimpArgs false

@[simp] theorem bltV_max (P : Program) (ts : Array TypeId) (t : TypeId) (k k' : IntKind) (a b : Int) : bltV P .max ts t [.int k a, .int k' b] = some (.int k (if b > a then b else a)) := rfl
@[simp] theorem bltV_min (P : Program) (ts : Array TypeId) (t : TypeId) (k k' : IntKind) (a b : Int) : bltV P .min ts t [.int k a, .int k' b] = some (.int k (if b < a then b else a)) := rfl
theorem fewer_tail (K : Int) (A B : List Int) (h : Int) (n : Nat) (p : AV) (hK : 1 ≤ K ∧ K ≤ 20) (hr : Rise A) (hA : A.length ≤ K.toNat) (hn : n ≤ A.length) (hn' : n ≤ B.length) (hAB : ∀ i, i < n → A[i]? = B[i]?) (hp : Hp) : ∀ (m i : Nat), i + m = n →
    B10_10 (.int .u64 h) (.int .i64 n) (.int .i64 i) [.sc (.int .i64 K), S 2 1 (LI .u64 A)] [p, S 2 1 (LI .u64 B)] hp = some (.sc (.bool true), hp) := by
  intro m
  induction m with
  | zero =>
    intro i hi
    have hlt : ¬((i : Int) < (n : Int)) := by omega
    have d1 := fun k hp => run_kadd K A h k hp (by omega)
    have d2 := fun k hp => run_kadd K ((mrg A [h]).take K.toNat) h k hp (by rw [List.length_take]; omega)
    have r1 : Rise [h] := by simp
    have e : (mrg ((mrg A [h]).take K.toNat) [h]).take K.toNat = (mrg A [h]).take K.toNat := by
      rw [take_mrg_l, mrg_sub (rise_mrg _ _ hr r1) r1 (fun n hn => (mem_mrg n _ _).mpr (.inr hn))]
    rw [e] at d2
    have s := fun k k' hp => run_ksame K K ((mrg A [h]).take K.toNat) ((mrg A [h]).take K.toNat) k k' hp (by rw [List.length_take]; omega) (by rw [List.length_take]; omega)
    simp at s
    rw [B10_10_eq]
    by_cases hl : (A.length : Int) < K
    · simp [hlt, getN, putN, getC, getSc, d1, d2, s, hl]
    · have hk : IntKind.i64.wrap (K - 1) = K - 1 := wrap64 (by omega) (by omega)
      have h0 : (0 : Int) ≤ K - 1 := by omega
      have ht : (K - 1).toNat < A.length := by omega
      obtain ⟨y, e1, e2⟩ := mrg_one_le A h (K - 1).toNat ht hr
      have e3 : ((mrg A [h]).take K.toNat)[(K - 1).toNat]? = some y := by rw [List.getElem?_take_of_lt (by omega), e1]
      have e4 : A[(K - 1).toNat]? = some A[(K - 1).toNat] := List.getElem?_eq_getElem ht
      have hidx : (K - 1).toNat = K.toNat - 1 := by omega
      have e2' : decide (y ≤ A[(K - 1).toNat]) = true := by simpa using e2
      generalize A[(K - 1).toNat] = z at e2' e4
      rw [hidx] at e3 e4
      have h1 : (1 : Int) ≤ K := by omega
      simp [hlt, getN, putN, getC, getSc, d1, d2, s, hl, hk, h1, e3, e4]
      simpa using e2'
  | succ m ih =>
    intro i hi
    have hlt : (i : Int) < (n : Int) := by omega
    have hab := hAB i (by omega)
    have e1 : A[i]? = some (A[i]'(by omega)) := List.getElem?_eq_getElem (by omega)
    rw [e1] at hab
    have hw : IntKind.i64.wrap ((i : Int) + 1) = ((i + 1 : Nat) : Int) := by rw [wrap64] <;> omega
    have g := ih (i + 1) (by omega)
    rw [B10_10_eq]
    simp at g hw
    simp [hlt, getC, getSc, e1, ← hab, hw, g]
theorem run_kfewer (c j h : Int) (l : List Int) (k : Nat) (hc : 0 ≤ c ∧ c < 256) (hj : 0 ≤ j ∧ j < 256) (hl0 : ∀ n ∈ l, 0 ≤ n) (hp : Hp) :
    run cxX 10 [.sc (.int .u8 c), .sc (.int .u8 j), S k 1 (LI .u64 l), .sc (.int .u64 h)] hp = some (.sc (.bool true), hp) := by
  rw [E10]
  by_cases h1 : (60 : Int) < (l.length : Int)
  · simp [run_kawake, h1]
  · have m1 : ∀ x y, binV Go.Proofs.Try.prog .rem 5 x y (.int .u8 c) (.int .u8 20) = some (.int .u8 (c % 20)) := by
      intro x y; rw [binV_rem _ _ _ _ _ _ _ (by omega), tmod_pos hc.1]
    have m2 : ∀ x y, binV Go.Proofs.Try.prog .rem 5 x y (.int .u8 j) (.int .u8 20) = some (.int .u8 (j % 20)) := by
      intro x y; rw [binV_rem _ _ _ _ _ _ _ (by omega), tmod_pos hj.1]
    have a1 : 0 ≤ c % 20 ∧ c % 20 < 20 := by omega
    have a2 : 0 ≤ j % 20 ∧ j % 20 < 20 := by omega
    generalize c % 20 = x at m1 a1
    generalize j % 20 = y at m2 a2
    have hM : ∃ M : Int, (if y > x then y else x) = M ∧ 0 ≤ M ∧ M < 20 := ⟨_, rfl, by split <;> omega, by split <;> omega⟩
    have hm : ∃ M : Int, (if y < x then y else x) = M ∧ 0 ≤ M ∧ M < 20 := ⟨_, rfl, by split <;> omega, by split <;> omega⟩
    obtain ⟨M, eM, hM⟩ := hM
    obtain ⟨m, em, hm⟩ := hm
    have hmM : m ≤ M := by rw [← eM, ← em]; split <;> split <;> omega
    have r1 := fun k hp => run_kmv M false l k (by omega) (by omega) hl0 hp
    have r2 := fun k hp => run_kmv m false l k (by omega) (by omega) hl0 hp
    have emap : l.map (cut false) = l := by
      have : cut false = id := by funext n; rfl
      rw [this, List.map_id]
    have q1 : 1 + M % 20 = 1 + M := by omega
    have q2 : 1 + m % 20 = 1 + m := by omega
    rw [emap, q1] at r1
    rw [emap, q2] at r2
    have lA := kmvs_len (1 + M).toNat l
    have rA := kmvs_rise (1 + M).toNat l
    have eB : kmvs (1 + m).toNat [] l = (kmvs (1 + M).toNat [] l).take (1 + m).toNat := by
      rw [kmvs_eq, kmvs_eq, List.take_take, Nat.min_eq_left (by omega)]
    rw [eB] at r2
    generalize kmvs (1 + M).toNat [] l = A at r1 r2 lA rA
    have lB : (A.take (1 + m).toNat).length = min (1 + m).toNat A.length := by rw [List.length_take]
    have t := fewer_tail (1 + M) A (A.take (1 + m).toNat) h (A.take (1 + m).toNat).length (.sc (.int .i64 (1 + m))) (by omega) rA lA (by omega) (by omega) (fun i hi => by
      rw [List.getElem?_take_of_lt (by omega)]) hp (A.take (1 + m).toNat).length 0 (by omega)
    have c1 : ¬((A.length : Int) < ((A.take (1 + m).toNat).length : Int)) := by omega
    have c2 : (((A.take (1 + m).toNat).length : Nat) : Int) = if 1 + m < (A.length : Int) then 1 + m else (A.length : Int) := by
      split <;> omega
    generalize hBl : A.take (1 + m).toNat = B at r2 t c1 c2
    have c1' : ¬(A.length < B.length) := by omega
    have t' := t
    simp at t'
    simp only [gt_iff_lt] at eM
    simp [run_kawake, h1, m1, m2, eM, em, r1, r2, getN, putN, getC, getSc, c1', ← c2, B10_9_eq, t']
theorem law_KmvFewer (c : Int) (wc : InK .u8 c) (j : Int) (wj : InK .u8 j) (k : Nat) (l : List Int) (wl : ∀ n ∈ l, InK .u64 n) (h : Int) (wh : InK .u64 h) (hp : Hp) :
    ∃ hp', run cxX 10 [.sc (.int .u8 c), .sc (.int .u8 j), S k 1 (LI .u64 l), .sc (.int .u64 h)] hp = some (.sc (.bool true), hp') :=
  ⟨hp, run_kfewer c j h l k wc.u8 wj.u8 (fun n hn => (wl n hn).u64.1) hp⟩
end Go.Proofs.Ytmnefpfbgadnkaa.AI
