/- The least hashes: a fixed fact; the law of two as one. -/
import Derived.Test.YtmnefpfbgadnkaaKmvA
import Derived.KernelRfl
namespace Go.Proofs.Ytmnefpfbgadnkaa.AI
open Go
set_option linter.unusedVariables false
set_option linter.unusedSimpArgs false

/-- 2^63 has 64 bits. -/
theorem run_len_top (hp : Hp) : run cxX 43 [.sc (.int .u64 9223372036854775808)] hp = some (.sc (.int .i64 64), hp) := by
  have h1 : run cxX 43 [.sc (.int .u64 9223372036854775808)] hp = B43_4 (.int .u64 2147483648) (.int .i64 32) hp := (E43 _ _).trans (by kernel_rfl)
  have h2 : B43_4 (.int .u64 2147483648) (.int .i64 32) hp = B43_7 (.int .u64 32768) (.int .i64 48) hp := (B43_4_eq _ _ _).trans (by kernel_rfl)
  have h3 : B43_7 (.int .u64 32768) (.int .i64 48) hp = B43_10 (.int .u64 128) (.int .i64 56) hp := (B43_7_eq _ _ _).trans (by kernel_rfl)
  have h4 : B43_10 (.int .u64 128) (.int .i64 56) hp = some (.sc (.int .i64 64), hp) := (B43_10_eq _ _ _).trans (by kernel_rfl)
  rw [h1, h2, h3, h4]
theorem run_lz_top (hp : Hp) : run cxX 37 [.sc (.int .u64 9223372036854775808)] hp = some (.sc (.int .i64 0), hp) := by
  rw [E37]
  simp [run_len_top]
/-- 2^64, divided by 2^63. -/
theorem run_div_two (hp : Hp) : run cxX 33 [.sc (.int .u64 1), .sc (.int .u64 0), .sc (.int .u64 9223372036854775808)] hp = some (.tup [.sc (.int .u64 2), .sc (.int .u64 0)], hp) := by
  have h1 : run cxX 33 [.sc (.int .u64 1), .sc (.int .u64 0), .sc (.int .u64 9223372036854775808)] hp = B33_3 (.int .u64 1) (.int .u64 0) (.int .u64 9223372036854775808) hp := (E33 _ _ _ _).trans (by kernel_rfl)
  have h2 : B33_3 (.int .u64 1) (.int .u64 0) (.int .u64 9223372036854775808) hp = B33_5 (.int .u64 1) (.int .u64 0) (.int .u64 9223372036854775808) hp := (B33_3_eq _ _ _ _).trans (by kernel_rfl)
  have h3 : B33_5 (.int .u64 1) (.int .u64 0) (.int .u64 9223372036854775808) hp = B33_17 (.int .u64 9223372036854775808) (.int .u64 0) (.int .u64 2147483648) (.int .u64 0) (.int .u64 1) (.int .u64 0) (.int .u64 0) (.int .u64 0) (.int .u64 1) hp := by
    rw [B33_5_eq]
    simp only [ro_sc, run_lz_top]
    kernel_rfl
  have h4 : B33_17 (.int .u64 9223372036854775808) (.int .u64 0) (.int .u64 2147483648) (.int .u64 0) (.int .u64 1) (.int .u64 0) (.int .u64 0) (.int .u64 0) (.int .u64 1) hp = B33_21 (.int .u64 9223372036854775808) (.int .u64 0) (.int .u64 2147483648) (.int .u64 0) (.int .u64 1) (.int .u64 0) (.int .u64 0) (.int .u64 0) hp := (B33_17_eq _ _ _ _ _ _ _ _ _ _).trans (by kernel_rfl)
  have h5 : B33_21 (.int .u64 9223372036854775808) (.int .u64 0) (.int .u64 2147483648) (.int .u64 0) (.int .u64 1) (.int .u64 0) (.int .u64 0) (.int .u64 0) hp = B33_24 (.int .u64 9223372036854775808) (.int .u64 0) (.int .u64 2147483648) (.int .u64 0) (.int .u64 0) (.int .u64 0) (.int .u64 0) (.int .u64 4294967296) (.int .u64 2) hp := (B33_21_eq _ _ _ _ _ _ _ _ _).trans (by kernel_rfl)
  have h6 : B33_24 (.int .u64 9223372036854775808) (.int .u64 0) (.int .u64 2147483648) (.int .u64 0) (.int .u64 0) (.int .u64 0) (.int .u64 0) (.int .u64 4294967296) (.int .u64 2) hp = B33_28 (.int .u64 9223372036854775808) (.int .u64 0) (.int .u64 0) (.int .u64 0) (.int .u64 4294967296) (.int .u64 2) hp := (B33_24_eq _ _ _ _ _ _ _ _ _ _).trans (by kernel_rfl)
  have h7 : B33_28 (.int .u64 9223372036854775808) (.int .u64 0) (.int .u64 0) (.int .u64 0) (.int .u64 4294967296) (.int .u64 2) hp = some (.tup [.sc (.int .u64 2), .sc (.int .u64 0)], hp) := (B33_28_eq _ _ _ _ _ _ _).trans (by kernel_rfl)
  rw [h1, h2, h3, h4, h5, h6, h7]
theorem run_kawake (hp : Hp) : run cxX 23 [] hp = some (.sc (.bool true), hp) := by
  have w1 : IntKind.i64.wrap (2 - 1) = 1 := rfl
  have w2 : IntKind.u64.wrap 1 = 1 := rfl
  have w3 : IntKind.u64.wrap 9223372036854775808 = 9223372036854775808 := rfl
  have h4 : ∀ hp, B25_4 (.int .i64 2) [.sc (.int .i64 2), S 0 1 (LI .u64 [1, 9223372036854775807])] hp = some (.sc (.int .u64 2), hp) := by
    intro hp
    rw [B25_4_eq]
    simp [getC, getSc, w1, w2, w3, cv_3_27, run_div_two, chkTup, nthA]
  have h : ∀ hp, run cxX 25 [Kv 2 (S 0 1 (LI .u64 [1, 9223372036854775807]))] hp = some (.sc (.int .u64 2), hp) := by
    intro hp
    rw [E25]
    simp [getC, getSc, h4]
  rw [E23]
  simp [LI] at h
  simp [h]
/-! ### KmvMerges -/
theorem run_kmerges (c : Int) (few : Bool) (a b : List Int) (k k' : Nat) (hc : 0 ≤ c ∧ c < 256) (ha : ∀ n ∈ a, 0 ≤ n) (hb : ∀ n ∈ b, 0 ≤ n) (hp : Hp) :
    run cxX 9 [.sc (.int .u8 c), S k 1 (LI .u64 a), S k' 1 (LI .u64 b), .sc (.bool few)] hp = some (.sc (.bool true), hp) := by
  rw [E9]
  by_cases h1 : (50 : Int) < (a.length : Int)
  · simp [run_kawake, h1, B9_4_eq]
  · by_cases h2 : (50 : Int) < (b.length : Int)
    · simp [run_kawake, h1, h2, B9_4_eq]
    · have r1 := fun k hp => run_kmv c few a k hc (by omega) ha hp
      have r2 := fun k hp => run_kmv c few b k hc (by omega) hb hp
      have r3 := fun k hp => run_kmv c few (a ++ b) k hc (by simp; omega) (by
        intro n hn
        rcases List.mem_append.mp hn with h | h
        · exact ha n h
        · exact hb n h) hp
      rw [List.map_append] at r3
      have hK : 1 ≤ 1 + c % 20 ∧ 1 + c % 20 ≤ 20 := by omega
      generalize 1 + c % 20 = K at r1 r2 r3 hK
      generalize a.map (cut few) = A at r1 r3
      generalize b.map (cut few) = B at r2 r3
      have l1 := kmvs_len K.toNat A
      have l2 := kmvs_len K.toNat B
      have l3 := kmvs_len K.toNat (A ++ B)
      have m1 := fun k k' hp => run_kmerge K (.sc (.int .i64 K)) (kmvs K.toNat [] A) (kmvs K.toNat [] B) k k' hp (by omega)
      have m2 := fun k k' hp => run_kmerge K (.sc (.int .i64 K)) (kmvs K.toNat [] B) (kmvs K.toNat [] A) k k' hp (by omega)
      have m3 := fun k k' hp => run_kmerge K (.sc (.int .i64 K)) (kmvs K.toNat [] (A ++ B)) (kmvs K.toNat [] A) k k' hp (by omega)
      rw [kmvs_merge] at m1 m2 m3
      rw [kmvs_comm] at m2
      rw [kmvs_twice] at m3
      have s1 := fun k k' hp => run_ksame K K (kmvs K.toNat [] (A ++ B)) (kmvs K.toNat [] (A ++ B)) k k' hp (by omega) (by omega)
      have a1 : appA 8 1 (S 1 1 []) (S (rk k) 1 (LI .u64 a)) = some (S 1 1 (LI .u64 a)) := by
        simpa using appsI .u64 [] 1 (.inl rfl) 8 (by decide) (rk k) a (by simp; omega)
      have a2 : appA 8 1 (S 1 1 (LI .u64 a)) (S (rk k') 1 (LI .u64 b)) = some (S 1 1 (LI .u64 (a ++ b))) :=
        appsI .u64 a 1 (.inl rfl) 8 (by decide) (rk k') b (by omega)
      simp at s1
      simp [run_kawake, h1, h2, B9_5_eq, r1, r2, r3, getN, putN, a1, a2, m1, m2, m3, s1]
theorem law_KmvMerges (c : Int) (wc : InK .u8 c) (k : Nat) (a : List Int) (wa : ∀ n ∈ a, InK .u64 n) (k' : Nat) (b : List Int) (wb : ∀ n ∈ b, InK .u64 n) (few : Bool) (hp : Hp) :
    ∃ hp', run cxX 9 [.sc (.int .u8 c), S k 1 (LI .u64 a), S k' 1 (LI .u64 b), .sc (.bool few)] hp = some (.sc (.bool true), hp') :=
  ⟨hp, run_kmerges c few a b k k' wc.u8 (fun n hn => (wa n hn).u64.1) (fun n hn => (wb n hn).u64.1) hp⟩
end Go.Proofs.Ytmnefpfbgadnkaa.AI
