/- Filters: two as one; are two the same; may it be one; places. -/
import Derived.Test.YtmnefpfbgadnkaaEq
import Derived.Test.YtmnefpfbgadnkaaFun
import Derived.Test.YtmnefpfbgadnkaaRise
namespace Go.Proofs.Ytmnefpfbgadnkaa.AI
open Go
set_option linter.unusedVariables false
set_option linter.unusedSimpArgs false

/-- A filter. -/
abbrev Bl (bits hashes : Value) (S : AV) : AV := .agg [.sc bits, .sc hashes, S]
theorem merge_loop (B H : Value) (q0 q1 q2 : AV) (hp : Hp) : ∀ (n : Nat) (a b acc : List Int) (k k' : Nat), a.length + b.length = n → acc.length + n ≤ 1000000 →
    B20_3 (S k 1 (LI .u32 a)) (S k' 1 (LI .u32 b)) [q0, q1, q2] [.sc B, .sc H, S 2 1 (LI .u32 acc)] hp = some (Bl B H (S 2 1 (LI .u32 (acc ++ mrg a b))), hp) := by
  intro n
  induction n using Nat.strongRecOn with
  | _ n ih =>
  intro a b acc k k' hn hlen
  have hw : IntKind.i64.wrap ((a.length : Int) + (b.length : Int)) = ((a.length + b.length : Nat) : Int) := by
    rw [wrap64] <;> omega
  have ap : ∀ x : Int, appA 4 1 (S 2 1 (LI .u32 acc)) (S 1 1 [.sc (.int .u32 x)]) = some (S 2 1 (LI .u32 (acc ++ [x]))) := fun x => appI .u32 acc 2 (.inr rfl) 4 (by decide) x (by omega)
  have goA : ∀ (x : Int) (r : List Int), r.length + 1 + b.length ≤ n → B20_6 (S k 1 (LI .u32 (x :: r))) (S k' 1 (LI .u32 b)) [q0, q1, q2] [.sc B, .sc H, S 2 1 (LI .u32 acc)] hp = some (Bl B H (S 2 1 (LI .u32 (acc ++ x :: mrg r b))), hp) := by
    intro x r hle
    rw [B20_6_eq]
    have e := slcA_S (rk k) (LI .u32 (x :: r)) .i64 1 (by omega) (by simp only [lenI, List.length_cons]; omega)
    simp [getC, getSc, ap, e, putN, ih (r.length + b.length) (by omega) r b (acc ++ [x]) _ k' rfl (by simp only [List.length_append, List.length_cons, List.length_nil]; omega)]
  have goB : ∀ (y : Int) (r : List Int), a.length + (r.length + 1) ≤ n → B20_8 (S k 1 (LI .u32 a)) (S k' 1 (LI .u32 (y :: r))) [q0, q1, q2] [.sc B, .sc H, S 2 1 (LI .u32 acc)] hp = some (Bl B H (S 2 1 (LI .u32 (acc ++ y :: mrg a r))), hp) := by
    intro x r hle
    rw [B20_8_eq]
    have e := slcA_S (rk k') (LI .u32 (x :: r)) .i64 1 (by omega) (by simp only [lenI, List.length_cons]; omega)
    simp [getC, getSc, ap, e, putN, ih (a.length + r.length) (by omega) a r (acc ++ [x]) k _ rfl (by simp only [List.length_append, List.length_cons, List.length_nil]; omega)]
  have goC : ∀ (x y : Int) (r s : List Int), r.length + s.length + 2 ≤ n → B20_4 (S k 1 (LI .u32 (x :: r))) (S k' 1 (LI .u32 (y :: s))) [q0, q1, q2] [.sc B, .sc H, S 2 1 (LI .u32 acc)] hp = some (Bl B H (S 2 1 (LI .u32 (acc ++ x :: mrg r s))), hp) := by
    intro x y r s hle
    rw [B20_4_eq]
    have e := slcA_S (rk k) (LI .u32 (x :: r)) .i64 1 (by omega) (by simp only [lenI, List.length_cons]; omega)
    have e' := slcA_S (rk k') (LI .u32 (y :: s)) .i64 1 (by omega) (by simp only [lenI, List.length_cons]; omega)
    simp [getC, getSc, ap, e, e', putN, ih (r.length + s.length) (by omega) r s (acc ++ [x]) _ _ rfl (by simp only [List.length_append, List.length_cons, List.length_nil]; omega)]
  rw [B20_3_eq]
  match a, b with
  | [], [] => simp [getN, putN, Bl]
  | [], y :: s =>
    have h := goB y s (by simp at hn ⊢; omega)
    simp at h
    have hw' : IntKind.i64.wrap ((s.length : Int) + 1) = (s.length : Int) + 1 := wrap64 (by omega) (by simp at hn; omega)
    have p : (0 : Int) < (s.length : Int) + 1 := by omega
    have z : ¬((s.length : Int) + 1 = 0) := by omega
    simp [hw', p, z, B20_7_eq, h]
  | x :: r, [] =>
    have h := goA x r (by simp at hn ⊢; omega)
    simp at h
    have hw' : IntKind.i64.wrap ((r.length : Int) + 1) = (r.length : Int) + 1 := wrap64 (by omega) (by simp at hn; omega)
    have p : (0 : Int) < (r.length : Int) + 1 := by omega
    simp [hw', p, h]
  | x :: r, y :: s =>
    have h1 := goA x r (by simp at hn ⊢; omega)
    have h2 := goB y s (by simp at hn ⊢; omega)
    have h3 := goC x y r s (by simp at hn ⊢; omega)
    have hw' : IntKind.i64.wrap ((r.length : Int) + 1 + ((s.length : Int) + 1)) = (r.length : Int) + 1 + ((s.length : Int) + 1) := wrap64 (by omega) (by simp at hn; omega)
    have p : (0 : Int) < (r.length : Int) + 1 + ((s.length : Int) + 1) := by omega
    have p' : (0 : Int) < (r.length : Int) + 1 := by omega
    have z : ¬((s.length : Int) + 1 = 0) := by omega
    have z' : ¬((r.length : Int) + 1 = 0) := by omega
    rw [mrg_cons]
    by_cases hxy : x < y
    · simp [hw', p, p', z, z', getSc, hxy, h1]
    · by_cases hyx : y < x
      · simp [hw', p, p', z, z', getSc, hxy, hyx, h2, B20_7_eq]
      · simp [hw', p, p', z, z', getSc, hxy, hyx, h3, B20_7_eq]
/-- Two filters as one. -/
theorem run_merge (B H B' H' : Value) (a b : List Int) (k k' : Nat) (hp : Hp) (hlen : a.length + b.length ≤ 1000000) :
    run cxX 20 [Bl B H (S k 1 (LI .u32 a)), Bl B' H' (S k' 1 (LI .u32 b))] hp = some (Bl B H (S 2 1 (LI .u32 (mrg a b))), hp) := by
  rw [E20]
  have := merge_loop B H (.sc (.int .i64 0)) (.sc (.int .i64 0)) (S 2 1 []) hp (a.length + b.length) a b [] (rk k) (rk k') rfl (by simpa using hlen)
  simp at this
  simp [Bl, getSc, getC]
  exact this
end Go.Proofs.Ytmnefpfbgadnkaa.AI
