/- Filters: three laws' functions answer true. -/
import Derived.Test.YtmnefpfbgadnkaaBloomD
import Derived.Test.YtmnefpfbgadnkaaArg
namespace Go.Proofs.Ytmnefpfbgadnkaa.AI
open Go
set_option linter.unusedVariables false
set_option linter.unusedSimpArgs false

theorem run_merges (b h : Int) (k k' : Nat) (a c : List Int) (hb : 0 ≤ b ∧ b < 65536) (hh : 0 ≤ h ∧ h < 256) (hp : Hp) :
    run cxX 4 [.sc (.int .u16 b), .sc (.int .u8 h), S k 1 (LI .u64 a), S k' 1 (LI .u64 c)] hp = some (.sc (.bool true), hp) := by
  rw [E4]
  by_cases h1 : (30 : Int) < (a.length : Int)
  · simp [run_awake, h1, B4_4_eq]
  · by_cases h2 : (30 : Int) < (c.length : Int)
    · simp [run_awake, h1, h2, B4_4_eq]
    · have r1 := fun k hp => run_bloom b h k a hb hh (by omega) hp
      have r2 := fun k hp => run_bloom b h k c hb hh (by omega) hp
      have r3 := fun k hp => run_bloom b h k (a ++ c) hb hh (by simp; omega) hp
      generalize hB : 1 + b % 300 = B at r1 r2 r3
      generalize hH : 1 + h % 8 = H at r1 r2 r3
      have gB : 1 ≤ B ∧ B ≤ 4096 := by omega
      have gx := blm_good gB.1 (r := a) (H := H) (Good.nil B)
      have gy := blm_good gB.1 (r := c) (H := H) (Good.nil B)
      have gz := blm_good gB.1 (r := a ++ c) (H := H) (Good.nil B)
      have mz : ∀ n, n ∈ blm B H [] (a ++ c) ↔ n ∈ blm B H [] a ∨ n ∈ blm B H [] c := by
        intro n
        rw [mem_blm, mem_blm, mem_blm]
        simp [or_and_right, exists_or]
      generalize blm B H [] a = X at r1 gx mz
      generalize blm B H [] c = Y at r2 gy mz
      generalize blm B H [] (a ++ c) = Z at r3 gz mz
      have lx := gx.len gB.2
      have ly := gy.len gB.2
      have lz := gz.len gB.2
      have e1 : mrg X Y = Z := rise_ext (gx.mrg gy).1 gz.1 fun n => by rw [mem_mrg, mz]
      have e2 : mrg Y X = Z := rise_ext (gy.mrg gx).1 gz.1 fun n => by rw [mem_mrg, mz, or_comm]
      have e3 : mrg Z X = Z := mrg_sub gz.1 gx.1 fun n hn => (mz n).mpr (.inl hn)
      have a1 : appA 8 1 (S 1 1 []) (S (rk k) 1 (LI .u64 a)) = some (S 1 1 (LI .u64 a)) := by
        simpa using appsI .u64 [] 1 (.inl rfl) 8 (by decide) (rk k) a (by simp; omega)
      have a2 : appA 8 1 (S 1 1 (LI .u64 a)) (S (rk k') 1 (LI .u64 c)) = some (S 1 1 (LI .u64 (a ++ c))) :=
        appsI .u64 a 1 (.inl rfl) 8 (by decide) (rk k') c (by omega)
      have m1 := fun k k' hp => run_merge (.int .i64 B) (.int .i64 H) (.int .i64 B) (.int .i64 H) X Y k k' hp (by omega)
      have m2 := fun k k' hp => run_merge (.int .i64 B) (.int .i64 H) (.int .i64 B) (.int .i64 H) Y X k k' hp (by omega)
      have m3 := fun k k' hp => run_merge (.int .i64 B) (.int .i64 H) (.int .i64 B) (.int .i64 H) Z X k k' hp (by omega)
      rw [e1] at m1
      rw [e2] at m2
      rw [e3] at m3
      have s1 := fun k k' hp => run_same B H B H Z Z k k' hp (by omega) (by omega)
      simp at s1
      simp [run_awake, h1, h2, B4_5_eq, r1, r2, r3, getN, putN, a1, a2, m1, m2, m3, s1]
theorem law_BloomMerges (b : Int) (wb : InK .u16 b) (h : Int) (wh : InK .u8 h) (k : Nat) (a : List Int) (wa : ∀ n ∈ a, InK .u64 n) (k' : Nat) (c : List Int) (wc : ∀ n ∈ c, InK .u64 n) (hp : Hp) :
    ∃ hp', run cxX 4 [.sc (.int .u16 b), .sc (.int .u8 h), S k 1 (LI .u64 a), S k' 1 (LI .u64 c)] hp = some (.sc (.bool true), hp') :=
  ⟨hp, run_merges b h k k' a c wb.u16 wh.u8 hp⟩
end Go.Proofs.Ytmnefpfbgadnkaa.AI
