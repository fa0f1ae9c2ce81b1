/- Rows of pairs of whole numbers, as slices of two cells an element. -/
import Derived.Test.YtchmioacjkbfcaaGreatMe
namespace Go.Proofs.YtchmioacjkbfcaaGreat.AI
open Go
set_option linter.unusedVariables false
set_option linter.unusedSimpArgs false

def LQ (K K' : IntKind) : List (Int × Int) → List AV
  | [] => []
  | p :: l => .sc (.int K p.1) :: .sc (.int K' p.2) :: LQ K K' l
section
variable (K K' : IntKind)
theorem lenQ : ∀ l, (LQ K K' l).length = 2 * l.length
  | [] => rfl
  | p :: l => by simp only [LQ, List.length_cons, lenQ l]; omega
theorem dropQ : ∀ (i : Nat) (l : List (Int × Int)), (LQ K K' l).drop (i * 2) = LQ K K' (l.drop i)
  | 0, l => by simp
  | i + 1, [] => by simp [LQ]
  | i + 1, p :: l => by
    have h : (i + 1) * 2 = i * 2 + 1 + 1 := by omega
    rw [h, LQ, List.drop_succ_cons, List.drop_succ_cons, dropQ i l, List.drop_succ_cons]
theorem appQ : ∀ a b, LQ K K' (a ++ b) = LQ K K' a ++ LQ K K' b
  | [], b => rfl
  | p :: a, b => by simp only [List.cons_append, LQ, appQ a b]
theorem flatQ : ∀ l, Flat (LQ K K' l)
  | [] => rfl
  | p :: l => by
    have h : (LQ K K' l).map ro1 = LQ K K' l := flatQ l
    show (LQ K K' (p :: l)).map ro1 = LQ K K' (p :: l)
    simp only [LQ, List.map_cons, h, ro1_sc]
theorem lenA_Q (k : Nat) (l : List (Int × Int)) : lenA (S k 2 (LQ K K' l)) = some l.length := by
  have h : (if (2 : Nat) = 1 then (LQ K K' l).length else (LQ K K' l).length / 2) = l.length := by rw [if_neg (by omega), lenQ]; omega
  rcases S_cases k 2 (LQ K K' l) with e | e | ⟨e, e'⟩
  · rw [e]; simp only [lenA, h]
  · rw [e]; simp only [lenA, h]
  · rw [e]
    have : l.length = 0 := by have := lenQ K K' l; rw [e'] at this; simp at this; omega
    rw [this]; rfl
theorem idxA_Q (k : Nat) {l : List (Int × Int)} {i : Nat} {p : Int × Int} (h : l[i]? = some p) : idxA 2 (S k 2 (LQ K K' l)) (.int .i64 (i : Int)) = some [.sc (.int K p.1), .sc (.int K' p.2)] := by
  obtain ⟨hi, hp⟩ := List.getElem?_eq_some_iff.mp h
  have hl : (if (2 : Nat) = 1 then (LQ K K' l).length else (LQ K K' l).length / 2) = l.length := by rw [if_neg (by omega), lenQ]; omega
  have hx : idx l.length (.int .i64 (i : Int)) = some i := idx_nat .i64 hi
  have hg : getN (LQ K K' l) (i * 2) 2 = some [.sc (.int K p.1), .sc (.int K' p.2)] := by
    unfold getN
    rw [if_pos (by rw [lenQ]; omega), dropQ, List.drop_eq_getElem_cons hi, hp]
    rfl
  rcases S_cases k 2 (LQ K K' l) with e | e | ⟨e, e'⟩
  · rw [e]; simp only [idxA, if_true, hl, hx, Option.bind_some, hg]
  · rw [e]; simp only [idxA, if_true, hl, hx, Option.bind_some, hg]
  · exfalso
    have := lenQ K K' l
    rw [e'] at this
    simp at this
    omega
theorem appA_Q (k : Nat) (hk : k = 1 ∨ k = 2) (l : List (Int × Int)) (a b : Int) (h : l.length ≤ 1000000) : appA 16 2 (S k 2 (LQ K K' l)) (S 1 2 [.sc (.int K a), .sc (.int K' b)]) = some (S k 2 (LQ K K' (l ++ [(a, b)]))) := by
  rw [appA_S 16 2 k _ _ 1 hk (show Flat [AV.sc (.int K a), AV.sc (.int K' b)] from rfl) (.inr (fits_ok (by decide) ?_)), appQ]
  · rfl
  · rw [lenQ]; simp; omega
end
end Go.Proofs.YtchmioacjkbfcaaGreat.AI
