/- Rising rows cut to their first K numbers. No program in sight. -/
import Derived.Test.YtalnoedhacobkaaRise
namespace Go.Proofs.Ytalnoedhacobkaa.AI
set_option linter.unusedVariables false
set_option linter.unusedSimpArgs false

theorem take_mrg : ∀ (A B : List Int) (k m n : Nat), k ≤ m → k ≤ n → (mrg (A.take m) (B.take n)).take k = (mrg A B).take k := by
  apply mrg_ind (motive := fun A B => ∀ (k m n : Nat), k ≤ m → k ≤ n → (mrg (A.take m) (B.take n)).take k = (mrg A B).take k)
  · intro b k m n hm hn
    rw [List.take_nil, mrg_nil_l, mrg_nil_l, List.take_take, Nat.min_eq_left hn]
  · intro a k m n hm hn
    rw [List.take_nil, mrg_nil_r, mrg_nil_r, List.take_take, Nat.min_eq_left hm]
  · intro x a y b h ih k m n hm hn
    match k, m, n, hm, hn with
    | 0, _, _, _, _ => simp
    | k + 1, m + 1, n + 1, hm, hn =>
      have := ih k m (n + 1) (by omega) (by omega)
      rw [List.take_succ_cons] at this
      rw [List.take_succ_cons, List.take_succ_cons, mrg_cons, mrg_cons, if_pos h, if_pos h, List.take_succ_cons, List.take_succ_cons, this]
  · intro x a y b h ih k m n hm hn
    match k, m, n, hm, hn with
    | 0, _, _, _, _ => simp
    | k + 1, m + 1, n + 1, hm, hn =>
      have n1 : ¬x < y := by omega
      have := ih k (m + 1) n (by omega) (by omega)
      rw [List.take_succ_cons] at this
      rw [List.take_succ_cons, List.take_succ_cons, mrg_cons, mrg_cons, if_neg n1, if_pos h, if_neg n1, if_pos h, List.take_succ_cons, List.take_succ_cons, this]
  · intro x a b ih k m n hm hn
    match k, m, n, hm, hn with
    | 0, _, _, _, _ => simp
    | k + 1, m + 1, n + 1, hm, hn =>
      have n1 : ¬x < x := by omega
      have := ih k m n (by omega) (by omega)
      rw [List.take_succ_cons, List.take_succ_cons, mrg_cons, mrg_cons, if_neg n1, if_neg n1, if_neg n1, if_neg n1, List.take_succ_cons, List.take_succ_cons, this]
theorem take_mrg_l (A B : List Int) (k : Nat) : (mrg (A.take k) B).take k = (mrg A B).take k := by
  have h := take_mrg A B k k (k + B.length) (by omega) (by omega)
  rwa [List.take_of_length_le (by omega : B.length ≤ k + B.length)] at h
theorem rise_take {l : List Int} (k : Nat) (h : Rise l) : Rise (l.take k) := List.Pairwise.sublist (List.take_sublist k l) h
/-- Numbers as a rising row. -/
def srt (acc : List Int) : List Int → List Int
  | [] => acc
  | n :: r => srt (mrg acc [n]) r
theorem srt_rise : ∀ (r : List Int) {acc : List Int}, Rise acc → Rise (srt acc r)
  | [], _, h => h
  | n :: r, _, h => srt_rise r (rise_mrg _ _ h (by simp))
theorem mem_srt (x : Int) : ∀ (r acc : List Int), x ∈ srt acc r ↔ x ∈ acc ∨ x ∈ r
  | [], acc => by simp [srt]
  | n :: r, acc => by
    rw [srt, mem_srt x r, mem_mrg]
    simp [or_assoc]
theorem srt_append : ∀ (r s acc : List Int), srt acc (r ++ s) = srt (srt acc r) s
  | [], s, acc => rfl
  | n :: r, s, acc => by rw [List.cons_append, srt, srt, srt_append r s]
/-- One number more, of K at most. -/
def kmvs (K : Nat) (acc : List Int) : List Int → List Int
  | [] => acc
  | n :: r => kmvs K ((mrg acc [n]).take K) r
theorem kmvs_srt (K : Nat) : ∀ (r acc : List Int), kmvs K (acc.take K) r = (srt acc r).take K
  | [], acc => rfl
  | n :: r, acc => by
    rw [kmvs, take_mrg_l, kmvs_srt K r, srt]
theorem kmvs_eq (K : Nat) (r : List Int) : kmvs K [] r = (srt [] r).take K := by
  simpa using kmvs_srt K r []
theorem mrg_srt (a b : List Int) : mrg (srt [] a) (srt [] b) = srt [] (a ++ b) := by
  have r0 : Rise ([] : List Int) := List.Pairwise.nil
  refine rise_ext (rise_mrg _ _ (srt_rise a r0) (srt_rise b r0)) (srt_rise _ r0) fun n => ?_
  rw [mem_mrg, mem_srt, mem_srt, mem_srt]
  simp
theorem kmvs_merge (K : Nat) (a b : List Int) : (mrg (kmvs K [] a) (kmvs K [] b)).take K = kmvs K [] (a ++ b) := by
  rw [kmvs_eq, kmvs_eq, kmvs_eq, take_mrg _ _ K K K (by omega) (by omega), mrg_srt]
theorem srt_comm (a b : List Int) : srt [] (a ++ b) = srt [] (b ++ a) := by
  have r0 : Rise ([] : List Int) := List.Pairwise.nil
  refine rise_ext (srt_rise _ r0) (srt_rise _ r0) fun n => ?_
  rw [mem_srt, mem_srt]
  simp [or_comm]
theorem srt_twice (a b : List Int) : srt [] ((a ++ b) ++ a) = srt [] (a ++ b) := by
  have r0 : Rise ([] : List Int) := List.Pairwise.nil
  refine rise_ext (srt_rise _ r0) (srt_rise _ r0) fun n => ?_
  rw [mem_srt, mem_srt]
  simp only [List.not_mem_nil, false_or, List.mem_append]
  constructor
  · rintro ((h | h) | h)
    · exact .inl h
    · exact .inr h
    · exact .inl h
  · exact .inl
theorem kmvs_comm (K : Nat) (a b : List Int) : kmvs K [] (a ++ b) = kmvs K [] (b ++ a) := by rw [kmvs_eq, kmvs_eq, srt_comm]
theorem kmvs_twice (K : Nat) (a b : List Int) : kmvs K [] ((a ++ b) ++ a) = kmvs K [] (a ++ b) := by rw [kmvs_eq, kmvs_eq, srt_twice]
theorem kmvs_rise (K : Nat) (a : List Int) : Rise (kmvs K [] a) := by rw [kmvs_eq]; exact rise_take K (srt_rise a List.Pairwise.nil)
theorem kmvs_len (K : Nat) (a : List Int) : (kmvs K [] a).length ≤ K := by rw [kmvs_eq, List.length_take]; omega
theorem mem_kmvs {K : Nat} {a : List Int} {x : Int} (h : x ∈ kmvs K [] a) : x ∈ a := by
  rw [kmvs_eq] at h
  have := (mem_srt x a []).mp (List.mem_of_mem_take h)
  simpa using this
/-- With one number more the i-th is no greater. -/
theorem mrg_one_le : ∀ (A : List Int) (h : Int) (i : Nat) (hi : i < A.length), Rise A → ∃ y, (mrg A [h])[i]? = some y ∧ y ≤ A[i]
  | x :: A, h, i, hi, hr => by
    rw [mrg_cons]
    by_cases h1 : x < h
    · rw [if_pos h1]
      cases i with
      | zero => exact ⟨x, rfl, by simp⟩
      | succ i =>
        obtain ⟨y, e1, e2⟩ := mrg_one_le A h i (by simpa using hi) (List.pairwise_cons.mp hr).2
        exact ⟨y, by simpa using e1, by simpa using e2⟩
    · by_cases h2 : h < x
      · rw [if_neg h1, if_pos h2, mrg_nil_r]
        cases i with
        | zero => exact ⟨h, rfl, by simp; omega⟩
        | succ i =>
          have h3 := List.pairwise_iff_getElem.mp hr i (i + 1) (by omega) hi (by omega)
          exact ⟨(x :: A)[i], by rw [List.getElem?_cons_succ, List.getElem?_eq_getElem (by omega)], by omega⟩
      · rw [if_neg h1, if_neg h2, mrg_nil_r]
        exact ⟨(x :: A)[i], by rw [List.getElem?_eq_getElem hi], by omega⟩
end Go.Proofs.Ytalnoedhacobkaa.AI
