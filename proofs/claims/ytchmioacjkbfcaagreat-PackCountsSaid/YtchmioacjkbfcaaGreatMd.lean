/- The abstract machine and what is true of it. -/
import GoSem.Core.Float
import GoSem.Core.View
/- Rising rows of numbers: two as one, what is in them, when two are the same. No program in sight. -/
namespace Go.Proofs.YtchmioacjkbfcaaGreat.AI
set_option linter.unusedVariables false
set_option linter.unusedSimpArgs false

/-- Two rising rows as one. -/
def mrg : List Int → List Int → List Int
  | [], b => b
  | a, [] => a
  | x :: a, y :: b => if x < y then x :: mrg a (y :: b) else if y < x then y :: mrg (x :: a) b else x :: mrg a b
termination_by a b => a.length + b.length
@[simp] theorem mrg_nil_l (b : List Int) : mrg [] b = b := by unfold mrg; rfl
@[simp] theorem mrg_nil_r (a : List Int) : mrg a [] = a := by cases a <;> (unfold mrg; rfl)
theorem mrg_cons (x : Int) (a : List Int) (y : Int) (b : List Int) : mrg (x :: a) (y :: b) = if x < y then x :: mrg a (y :: b) else if y < x then y :: mrg (x :: a) b else x :: mrg a b := by
  rw [mrg]
theorem mrg_ind {motive : List Int → List Int → Prop} (h1 : ∀ b, motive [] b) (h2 : ∀ a, motive a []) (h3 : ∀ x a y b, x < y → motive a (y :: b) → motive (x :: a) (y :: b))
    (h4 : ∀ x a y b, y < x → motive (x :: a) b → motive (x :: a) (y :: b)) (h5 : ∀ x a b, motive a b → motive (x :: a) (x :: b)) : ∀ a b, motive a b := by
  intro a b
  generalize hn : a.length + b.length = n
  induction n using Nat.strongRecOn generalizing a b with
  | _ n ih =>
    cases a with
    | nil => exact h1 b
    | cons x a =>
      cases b with
      | nil => exact h2 _
      | cons y b =>
        by_cases hxy : x < y
        · exact h3 x a y b hxy (ih (a.length + (y :: b).length) (by simp at hn ⊢; omega) _ _ rfl)
        · by_cases hyx : y < x
          · exact h4 x a y b hyx (ih ((x :: a).length + b.length) (by simp at hn ⊢; omega) _ _ rfl)
          · have : x = y := by omega
            subst this
            exact h5 x a b (ih (a.length + b.length) (by simp at hn ⊢; omega) _ _ rfl)
theorem mem_mrg (n : Int) : ∀ a b, n ∈ mrg a b ↔ n ∈ a ∨ n ∈ b := by
  apply mrg_ind
  · intro b; simp
  · intro a; simp
  · intro x a y b h ih
    rw [mrg_cons, if_pos h, List.mem_cons, ih, List.mem_cons, List.mem_cons]
    constructor
    · rintro (h | h | h | h)
      · exact .inl (.inl h)
      · exact .inl (.inr h)
      · exact .inr (.inl h)
      · exact .inr (.inr h)
    · rintro ((h | h) | (h | h))
      · exact .inl h
      · exact .inr (.inl h)
      · exact .inr (.inr (.inl h))
      · exact .inr (.inr (.inr h))
  · intro x a y b h ih
    rw [mrg_cons, if_neg (by omega), if_pos h, List.mem_cons, ih, List.mem_cons, List.mem_cons]
    constructor
    · rintro (h | (h | h) | h)
      · exact .inr (.inl h)
      · exact .inl (.inl h)
      · exact .inl (.inr h)
      · exact .inr (.inr h)
    · rintro ((h | h) | (h | h))
      · exact .inr (.inl (.inl h))
      · exact .inr (.inl (.inr h))
      · exact .inl h
      · exact .inr (.inr h)
  · intro x a b ih
    rw [mrg_cons, if_neg (by omega), if_neg (by omega), List.mem_cons, ih, List.mem_cons, List.mem_cons]
    constructor
    · rintro (h | h | h)
      · exact .inl (.inl h)
      · exact .inl (.inr h)
      · exact .inr (.inr h)
    · rintro ((h | h) | (h | h))
      · exact .inl h
      · exact .inr (.inl h)
      · exact .inl h
      · exact .inr (.inr h)
/-- A rising row. -/
abbrev Rise (l : List Int) : Prop := l.Pairwise (· < ·)
theorem rise_mrg : ∀ a b, Rise a → Rise b → Rise (mrg a b) := by
  apply mrg_ind (motive := fun a b => Rise a → Rise b → Rise (mrg a b))
  · intro b _ h; simpa using h
  · intro a h _; simpa using h
  · intro x a y b h ih ha hb
    rw [mrg_cons, if_pos h]
    have ha := List.pairwise_cons.mp ha
    refine List.pairwise_cons.mpr ⟨fun n hn => ?_, ih ha.2 hb⟩
    rcases (mem_mrg n a (y :: b)).mp hn with h' | h'
    · exact ha.1 n h'
    · rcases List.mem_cons.mp h' with rfl | h'
      · exact h
      · have := (List.pairwise_cons.mp hb).1 n h'; omega
  · intro x a y b h ih ha hb
    rw [mrg_cons, if_neg (by omega), if_pos h]
    have hb' := List.pairwise_cons.mp hb
    refine List.pairwise_cons.mpr ⟨fun n hn => ?_, ih ha hb'.2⟩
    rcases (mem_mrg n (x :: a) b).mp hn with h' | h'
    · rcases List.mem_cons.mp h' with rfl | h'
      · exact h
      · have := (List.pairwise_cons.mp ha).1 n h'; omega
    · exact hb'.1 n h'
  · intro x a b ih ha hb
    rw [mrg_cons, if_neg (by omega), if_neg (by omega)]
    have ha' := List.pairwise_cons.mp ha
    have hb' := List.pairwise_cons.mp hb
    refine List.pairwise_cons.mpr ⟨fun n hn => ?_, ih ha'.2 hb'.2⟩
    rcases (mem_mrg n a b).mp hn with h' | h'
    · exact ha'.1 n h'
    · exact hb'.1 n h'
theorem len_mrg : ∀ a b, (mrg a b).length ≤ a.length + b.length := by
  apply mrg_ind (motive := fun a b => (mrg a b).length ≤ a.length + b.length)
  · intro b; simp
  · intro a; simp
  · intro x a y b h ih
    rw [mrg_cons, if_pos h]; simp at ih ⊢; omega
  · intro x a y b h ih
    rw [mrg_cons, if_neg (by omega), if_pos h]; simp at ih ⊢; omega
  · intro x a b ih
    rw [mrg_cons, if_neg (by omega), if_neg (by omega)]; simp at ih ⊢; omega
theorem rise_ext : ∀ {a b : List Int}, Rise a → Rise b → (∀ n, n ∈ a ↔ n ∈ b) → a = b
  | [], [], _, _, _ => rfl
  | [], y :: b, _, _, h => absurd ((h y).mpr (by simp)) (by simp)
  | x :: a, [], _, _, h => absurd ((h x).mp (by simp)) (by simp)
  | x :: a, y :: b, ha, hb, h => by
    have ha' := List.pairwise_cons.mp ha
    have hb' := List.pairwise_cons.mp hb
    have hxy : x = y := by
      have h1 := List.mem_cons.mp ((h x).mp (by simp))
      have h2 := List.mem_cons.mp ((h y).mpr (by simp))
      rcases h1 with h1 | h1
      · exact h1
      · rcases h2 with h2 | h2
        · exact h2.symm
        · have := ha'.1 y h2
          have := hb'.1 x h1
          omega
    subst hxy
    congr 1
    refine rise_ext ha'.2 hb'.2 fun n => ?_
    have := h n
    constructor
    · intro hn
      have hlt := ha'.1 n hn
      rcases List.mem_cons.mp (this.mp (List.mem_cons_of_mem _ hn)) with rfl | h'
      · omega
      · exact h'
    · intro hn
      have hlt := hb'.1 n hn
      rcases List.mem_cons.mp (this.mpr (List.mem_cons_of_mem _ hn)) with rfl | h'
      · omega
      · exact h'
theorem mrg_comm {a b : List Int} (ha : Rise a) (hb : Rise b) : mrg a b = mrg b a :=
  rise_ext (rise_mrg a b ha hb) (rise_mrg b a hb ha) fun n => by rw [mem_mrg, mem_mrg]; exact or_comm
theorem mrg_assoc {a b c : List Int} (ha : Rise a) (hb : Rise b) (hc : Rise c) : mrg (mrg a b) c = mrg a (mrg b c) :=
  rise_ext (rise_mrg _ _ (rise_mrg a b ha hb) hc) (rise_mrg _ _ ha (rise_mrg b c hb hc)) fun n => by rw [mem_mrg, mem_mrg, mem_mrg, mem_mrg]; exact or_assoc
theorem mrg_self {a : List Int} (ha : Rise a) : mrg a a = a :=
  rise_ext (rise_mrg _ _ ha ha) ha fun n => by rw [mem_mrg]; exact or_self_iff
theorem mrg_sub {a b : List Int} (ha : Rise a) (hb : Rise b) (h : ∀ n ∈ b, n ∈ a) : mrg a b = a :=
  rise_ext (rise_mrg _ _ ha hb) ha fun n => by rw [mem_mrg]; exact ⟨fun h' => h'.elim id (h n), .inl⟩
end Go.Proofs.YtchmioacjkbfcaaGreat.AI

/- Rising rows cut to their first K numbers. No program in sight. -/
namespace Go.Proofs.YtchmioacjkbfcaaGreat.AI
set_option linter.unusedVariables false
set_option linter.unusedSimpArgs false

theorem take_mrg : ∀ (A B : List Int) (k m n : Nat), k ≤ m → k ≤ n → (mrg (A.take m) (B.take n)).take k = (mrg A B).take k := by
  apply mrg_ind (motive := fun A B => ∀ (k m n : Nat), k ≤ m → k ≤ n → (mrg (A.take m) (B.take n)).take k = (mrg A B).take k)
  · intro b k m n hm hn
    rw [List.take_nil, mrg_nil_l, mrg_nil_l, List.take_take, Nat.min_eq_left hn]
  · intro a k m n hm hn
    rw [List.take_nil, mrg_nil_r, mrg_nil_r, List.take_take, Nat.min_eq_left hm]
  · intro x a y b h ih k m n hm hn
    match k, m, n, hm, hn with
    | 0, _, _, _, _ => simp
    | k + 1, m + 1, n + 1, hm, hn =>
      have := ih k m (n + 1) (by omega) (by omega)
      rw [List.take_succ_cons] at this
      rw [List.take_succ_cons, List.take_succ_cons, mrg_cons, mrg_cons, if_pos h, if_pos h, List.take_succ_cons, List.take_succ_cons, this]
  · intro x a y b h ih k m n hm hn
    match k, m, n, hm, hn with
    | 0, _, _, _, _ => simp
    | k + 1, m + 1, n + 1, hm, hn =>
      have n1 : ¬x < y := by omega
      have := ih k (m + 1) n (by omega) (by omega)
      rw [List.take_succ_cons] at this
      rw [List.take_succ_cons, List.take_succ_cons, mrg_cons, mrg_cons, if_neg n1, if_pos h, if_neg n1, if_pos h, List.take_succ_cons, List.take_succ_cons, this]
  · intro x a b ih k m n hm hn
    match k, m, n, hm, hn with
    | 0, _, _, _, _ => simp
    | k + 1, m + 1, n + 1, hm, hn =>
      have n1 : ¬x < x := by omega
      have := ih k m n (by omega) (by omega)
      rw [List.take_succ_cons, List.take_succ_cons, mrg_cons, mrg_cons, if_neg n1, if_neg n1, if_neg n1, if_neg n1, List.take_succ_cons, List.take_succ_cons, this]
theorem take_mrg_l (A B : List Int) (k : Nat) : (mrg (A.take k) B).take k = (mrg A B).take k := by
  have h := take_mrg A B k k (k + B.length) (by omega) (by omega)
  rwa [List.take_of_length_le (by omega : B.length ≤ k + B.length)] at h
theorem rise_take {l : List Int} (k : Nat) (h : Rise l) : Rise (l.take k) := List.Pairwise.sublist (List.take_sublist k l) h
/-- Numbers as a rising row. -/
def srt (acc : List Int) : List Int → List Int
  | [] => acc
  | n :: r => srt (mrg acc [n]) r
theorem srt_rise : ∀ (r : List Int) {acc : List Int}, Rise acc → Rise (srt acc r)
  | [], _, h => h
  | n :: r, _, h => srt_rise r (rise_mrg _ _ h (by simp))
theorem mem_srt (x : Int) : ∀ (r acc : List Int), x ∈ srt acc r ↔ x ∈ acc ∨ x ∈ r
  | [], acc => by simp [srt]
  | n :: r, acc => by
    rw [srt, mem_srt x r, mem_mrg]
    simp [or_assoc]
theorem srt_append : ∀ (r s acc : List Int), srt acc (r ++ s) = srt (srt acc r) s
  | [], s, acc => rfl
  | n :: r, s, acc => by rw [List.cons_append, srt, srt, srt_append r s]
/-- One number more, of K at most. -/
def kmvs (K : Nat) (acc : List Int) : List Int → List Int
  | [] => acc
  | n :: r => kmvs K ((mrg acc [n]).take K) r
theorem kmvs_srt (K : Nat) : ∀ (r acc : List Int), kmvs K (acc.take K) r = (srt acc r).take K
  | [], acc => rfl
  | n :: r, acc => by
    rw [kmvs, take_mrg_l, kmvs_srt K r, srt]
theorem kmvs_eq (K : Nat) (r : List Int) : kmvs K [] r = (srt [] r).take K := by
  simpa using kmvs_srt K r []
theorem mrg_srt (a b : List Int) : mrg (srt [] a) (srt [] b) = srt [] (a ++ b) := by
  have r0 : Rise ([] : List Int) := List.Pairwise.nil
  refine rise_ext (rise_mrg _ _ (srt_rise a r0) (srt_rise b r0)) (srt_rise _ r0) fun n => ?_
  rw [mem_mrg, mem_srt, mem_srt, mem_srt]
  simp
theorem kmvs_merge (K : Nat) (a b : List Int) : (mrg (kmvs K [] a) (kmvs K [] b)).take K = kmvs K [] (a ++ b) := by
  rw [kmvs_eq, kmvs_eq, kmvs_eq, take_mrg _ _ K K K (by omega) (by omega), mrg_srt]
theorem srt_comm (a b : List Int) : srt [] (a ++ b) = srt [] (b ++ a) := by
  have r0 : Rise ([] : List Int) := List.Pairwise.nil
  refine rise_ext (srt_rise _ r0) (srt_rise _ r0) fun n => ?_
  rw [mem_srt, mem_srt]
  simp [or_comm]
theorem srt_twice (a b : List Int) : srt [] ((a ++ b) ++ a) = srt [] (a ++ b) := by
  have r0 : Rise ([] : List Int) := List.Pairwise.nil
  refine rise_ext (srt_rise _ r0) (srt_rise _ r0) fun n => ?_
  rw [mem_srt, mem_srt]
  simp only [List.not_mem_nil, false_or, List.mem_append]
  constructor
  · rintro ((h | h) | h)
    · exact .inl h
    · exact .inr h
    · exact .inl h
  · exact .inl
theorem kmvs_comm (K : Nat) (a b : List Int) : kmvs K [] (a ++ b) = kmvs K [] (b ++ a) := by rw [kmvs_eq, kmvs_eq, srt_comm]
theorem kmvs_twice (K : Nat) (a b : List Int) : kmvs K [] ((a ++ b) ++ a) = kmvs K [] (a ++ b) := by rw [kmvs_eq, kmvs_eq, srt_twice]
theorem kmvs_rise (K : Nat) (a : List Int) : Rise (kmvs K [] a) := by rw [kmvs_eq]; exact rise_take K (srt_rise a List.Pairwise.nil)
theorem kmvs_len (K : Nat) (a : List Int) : (kmvs K [] a).length ≤ K := by rw [kmvs_eq, List.length_take]; omega
theorem mem_kmvs {K : Nat} {a : List Int} {x : Int} (h : x ∈ kmvs K [] a) : x ∈ a := by
  rw [kmvs_eq] at h
  have := (mem_srt x a []).mp (List.mem_of_mem_take h)
  simpa using this
/-- With one number more the i-th is no greater. -/
theorem mrg_one_le : ∀ (A : List Int) (h : Int) (i : Nat) (hi : i < A.length), Rise A → ∃ y, (mrg A [h])[i]? = some y ∧ y ≤ A[i]
  | x :: A, h, i, hi, hr => by
    rw [mrg_cons]
    by_cases h1 : x < h
    · rw [if_pos h1]
      cases i with
      | zero => exact ⟨x, rfl, by simp⟩
      | succ i =>
        obtain ⟨y, e1, e2⟩ := mrg_one_le A h i (by simpa using hi) (List.pairwise_cons.mp hr).2
        exact ⟨y, by simpa using e1, by simpa using e2⟩
    · by_cases h2 : h < x
      · rw [if_neg h1, if_pos h2, mrg_nil_r]
        cases i with
        | zero => exact ⟨h, rfl, by simp; omega⟩
        | succ i =>
          have h3 := List.pairwise_iff_getElem.mp hr i (i + 1) (by omega) hi (by omega)
          exact ⟨(x :: A)[i], by rw [List.getElem?_cons_succ, List.getElem?_eq_getElem (by omega)], by omega⟩
      · rw [if_neg h1, if_neg h2, mrg_nil_r]
        exact ⟨(x :: A)[i], by rw [List.getElem?_eq_getElem hi], by omega⟩
end Go.Proofs.YtchmioacjkbfcaaGreat.AI

/- Floats of 64 bits: how two words stand to each other. No program in sight. -/
namespace Go.Proofs.YtchmioacjkbfcaaGreat.AI
open Ieee
set_option linter.unusedVariables false
set_option linter.unusedSimpArgs false

/-- A word that is no number. -/
def isN (x : Nat) : Prop := 9218868437227405312 < x % 9223372036854775808
instance (x : Nat) : Decidable (isN x) := by unfold isN; infer_instance
/-- A word's place in the row, of words that are numbers: the two zeros are one. -/
def fval (x : Nat) : Int := if x / 9223372036854775808 % 2 = 1 then -((x % 9223372036854775808 : Nat) : Int) else ((x % 9223372036854775808 : Nat) : Int)
/-- A rung's magnitude. -/
def magR (r : Nat) : Nat := if r < 4503599627370496 then r else (4503599627370496 + r % 4503599627370496) * 2 ^ (r / 4503599627370496 - 1)
theorem magR_lt {a b : Nat} (h : a < b) : magR a < magR b := by
  unfold magR
  by_cases ha : a < 4503599627370496
  · rw [if_pos ha]
    by_cases hb : b < 4503599627370496
    · rw [if_pos hb]; exact h
    · rw [if_neg hb]
      have h1 : 1 ≤ 2 ^ (b / 4503599627370496 - 1) := Nat.one_le_two_pow
      have h2 := Nat.mul_le_mul (Nat.le_refl (4503599627370496 + b % 4503599627370496)) h1
      omega
  · have hb : ¬b < 4503599627370496 := by omega
    rw [if_neg ha, if_neg hb]
    by_cases hq : a / 4503599627370496 = b / 4503599627370496
    · rw [hq]
      have hr : a % 4503599627370496 < b % 4503599627370496 := by omega
      exact Nat.mul_lt_mul_of_pos_right (by omega) (Nat.two_pow_pos _)
    · have hq' : a / 4503599627370496 < b / 4503599627370496 := by omega
      have h1 : (4503599627370496 + a % 4503599627370496) * 2 ^ (a / 4503599627370496 - 1) < (2 * 4503599627370496) * 2 ^ (a / 4503599627370496 - 1) := by
        have : a % 4503599627370496 < 4503599627370496 := Nat.mod_lt _ (by omega)
        exact Nat.mul_lt_mul_of_pos_right (by omega) (Nat.two_pow_pos _)
      have h2 : 2 ^ (a / 4503599627370496 - 1) * 2 = 2 ^ (a / 4503599627370496) := by
        rw [← Nat.pow_succ]
        congr 1
        omega
      have h3 : 2 ^ (a / 4503599627370496) ≤ 2 ^ (b / 4503599627370496 - 1) := Nat.pow_le_pow_right (by omega) (by omega)
      have h4 : 4503599627370496 * 2 ^ (b / 4503599627370496 - 1) ≤ (4503599627370496 + b % 4503599627370496) * 2 ^ (b / 4503599627370496 - 1) := Nat.mul_le_mul (by omega) (Nat.le_refl _)
      have h5 : (2 * 4503599627370496) * 2 ^ (a / 4503599627370496 - 1) = 4503599627370496 * 2 ^ (a / 4503599627370496) := by
        rw [← h2]; generalize 2 ^ (a / 4503599627370496 - 1) = z; omega
      have h6 := Nat.mul_le_mul (Nat.le_refl 4503599627370496) h3
      omega
theorem magR_inj {a b : Nat} (h : magR a = magR b) : a = b := by
  rcases Nat.lt_trichotomy a b with h' | h' | h'
  · have := magR_lt h'; omega
  · exact h'
  · have := magR_lt h'; omega
theorem magR_0 : magR 0 = 0 := rfl
theorem cmp_int (a b : Int) : compare a b = if a < b then .lt else if a = b then .eq else .gt := rfl
theorem cmp_nat (a b : Nat) : compare a b = if a < b then .lt else if a = b then .eq else .gt := rfl
theorem cmp_scale (a b : Int) {c : Int} (hc : 0 < c) : compare a b = compare (a * c) (b * c) := by
  rw [cmp_int, cmp_int]
  have h1 : a * c < b * c ↔ a < b := Int.mul_lt_mul_right hc
  have h2 : a * c = b * c ↔ a = b := ⟨fun h => Int.eq_of_mul_eq_mul_right (by omega) h, fun h => by rw [h]⟩
  simp only [h1, h2]
/-- A finite word's number, its place lifted to the least one. -/
theorem read_fin {x : Nat} (h : x % 9223372036854775808 < 9218868437227405312) : ∃ (m i : Nat), double.read x = .number (x / 9223372036854775808 % 2 == 1) m (-1074 + i) ∧ m * 2 ^ i = magR (x % 9223372036854775808) := by
  have e1 : double.signWeight = 9223372036854775808 := by decide
  have e2 : double.binade = 4503599627370496 := by decide
  have e3 : double.infRung = 9218868437227405312 := by decide
  have e4 : double.leastPlace = -1074 := by decide
  unfold Format.read
  simp only [e1, e2, e3, e4]
  unfold magR
  by_cases hb : x % 9223372036854775808 < 4503599627370496
  · rw [if_pos hb, if_pos hb]
    exact ⟨_, 0, rfl, by simp⟩
  · rw [if_neg hb, if_neg hb, if_pos h]
    exact ⟨_, _, rfl, rfl⟩
theorem read_inf {x : Nat} (h : x % 9223372036854775808 = 9218868437227405312) : double.read x = .infinity (x / 9223372036854775808 % 2 == 1) := by
  have e1 : double.signWeight = 9223372036854775808 := by decide
  have e2 : double.binade = 4503599627370496 := by decide
  have e3 : double.infRung = 9218868437227405312 := by decide
  unfold Format.read
  simp only [e1, e2, e3]
  rw [if_neg (by omega), if_neg (by omega), if_pos h]
theorem read_nan {x : Nat} (h : isN x) : ∃ s t, double.read x = .nan s t := by
  unfold isN at h
  have e1 : double.signWeight = 9223372036854775808 := by decide
  have e2 : double.binade = 4503599627370496 := by decide
  have e3 : double.infRung = 9218868437227405312 := by decide
  unfold Format.read
  simp only [e1, e2, e3]
  rw [if_neg (by omega), if_neg (by omega), if_neg (by omega)]
  exact ⟨_, _, rfl⟩
theorem order_nan_l {x y : Nat} (h : isN x) : double.order x y = none := by
  obtain ⟨s, t, e⟩ := read_nan h
  unfold Format.order
  rw [e]
  rfl
theorem order_nan_r {x y : Nat} (h : isN y) : double.order x y = none := by
  obtain ⟨s, t, e⟩ := read_nan h
  unfold Format.order
  rw [e]
  cases double.read x <;> rfl
/-- A signed magnitude. -/
def sg (s : Bool) (m : Int) : Int := if s then -m else m
theorem cmp_sg (s t : Bool) (a b : Nat) : compare (sg s (magR a)) (sg t (magR b)) = compare (sg s (a : Int)) (sg t (b : Int)) := by
  have h1 : magR a < magR b ↔ a < b := by
    constructor
    · intro h
      rcases Nat.lt_trichotomy a b with h' | h' | h'
      · exact h'
      · subst h'; omega
      · have := magR_lt h'; omega
    · exact magR_lt
  have h2 : magR a = magR b ↔ a = b := ⟨magR_inj, fun h => by rw [h]⟩
  have h3 : magR a = 0 ↔ a = 0 := ⟨fun h => magR_inj (b := 0) (by rw [h, magR_0]), fun h => by rw [h, magR_0]⟩
  have h4 : magR b = 0 ↔ b = 0 := ⟨fun h => magR_inj (b := 0) (by rw [h, magR_0]), fun h => by rw [h, magR_0]⟩
  rw [cmp_int, cmp_int]
  cases s <;> cases t <;> simp only [sg, if_true, if_false, Bool.false_eq_true]
  · have c1 : ((magR a : Nat) : Int) < (magR b : Nat) ↔ (a : Int) < b := by omega
    have c2 : ((magR a : Nat) : Int) = (magR b : Nat) ↔ (a : Int) = b := by omega
    simp only [c1, c2]
  · have c1 : ((magR a : Nat) : Int) < -(magR b : Nat) ↔ (a : Int) < -(b : Int) := by omega
    have c2 : ((magR a : Nat) : Int) = -(magR b : Nat) ↔ (a : Int) = -(b : Int) := by omega
    simp only [c1, c2]
  · have c1 : -((magR a : Nat) : Int) < (magR b : Nat) ↔ -(a : Int) < (b : Int) := by omega
    have c2 : -((magR a : Nat) : Int) = (magR b : Nat) ↔ -(a : Int) = (b : Int) := by omega
    simp only [c1, c2]
  · have c1 : -((magR a : Nat) : Int) < -(magR b : Nat) ↔ -(a : Int) < -(b : Int) := by omega
    have c2 : -((magR a : Nat) : Int) = -(magR b : Nat) ↔ -(a : Int) = -(b : Int) := by omega
    simp only [c1, c2]
theorem fval_sg (x : Nat) : fval x = sg (x / 9223372036854775808 % 2 == 1) ((x % 9223372036854775808 : Nat) : Int) := by
  unfold fval sg
  by_cases h : x / 9223372036854775808 % 2 = 1 <;> simp [h]
theorem signed_sg (s : Bool) (m k : Nat) : Ieee.signed s m k = sg s ((m * 2 ^ k : Nat) : Int) := by
  unfold Ieee.signed sg
  rw [Nat.shiftLeft_eq]
  try (cases s <;> rfl)
theorem order_fin {x y : Nat} (hx : x % 9223372036854775808 < 9218868437227405312) (hy : y % 9223372036854775808 < 9218868437227405312) : double.order x y = some (compare (fval x) (fval y)) := by
  obtain ⟨m, i, e1, e2⟩ := read_fin hx
  obtain ⟨n, j, f1, f2⟩ := read_fin hy
  unfold Format.order
  rw [e1, f1]
  simp only [Datum.order]
  rw [fval_sg, fval_sg, ← cmp_sg, ← e2, ← f2, signed_sg, signed_sg]
  congr 1
  have hc : (0 : Int) < ((2 ^ (min i j) : Nat) : Int) := by have := Nat.two_pow_pos (min i j); omega
  rw [cmp_scale _ _ hc]
  have p1 : (-1074 + (i : Int) - min (-1074 + (i : Int)) (-1074 + (j : Int))).toNat + min i j = i := by omega
  have p2 : (-1074 + (j : Int) - min (-1074 + (i : Int)) (-1074 + (j : Int))).toNat + min i j = j := by omega
  have q : ∀ (s : Bool) (m k c : Nat), sg s ((m * 2 ^ k : Nat) : Int) * ((2 ^ c : Nat) : Int) = sg s ((m * 2 ^ (k + c) : Nat) : Int) := by
    intro s m k c
    rw [Nat.pow_add, ← Nat.mul_assoc]
    cases s
    · simp only [sg, Bool.false_eq_true, if_false]; rw [← Int.natCast_mul]
    · simp only [sg, if_true]; rw [Int.neg_mul, ← Int.natCast_mul]
  rw [q, q, p1, p2]
theorem order_num {x y : Nat} (hx : ¬isN x) (hy : ¬isN y) : double.order x y = some (compare (fval x) (fval y)) := by
  unfold isN at hx hy
  by_cases ix : x % 9223372036854775808 = 9218868437227405312
  · by_cases iy : y % 9223372036854775808 = 9218868437227405312
    · unfold Format.order
      rw [read_inf ix, read_inf iy]
      simp only [Datum.order]
      rw [fval_sg, fval_sg, ix, iy]
      cases (x / 9223372036854775808 % 2 == 1) <;> cases (y / 9223372036854775808 % 2 == 1) <;> decide
    · obtain ⟨n, j, f1, f2⟩ := read_fin (x := y) (by omega)
      unfold Format.order
      rw [read_inf ix, f1]
      simp only [Datum.order]
      rw [fval_sg, fval_sg, ix, cmp_int]
      generalize y % 9223372036854775808 = r at *
      cases (x / 9223372036854775808 % 2 == 1) <;> cases (y / 9223372036854775808 % 2 == 1) <;> simp only [sg, if_true, if_false, Bool.false_eq_true]
      · rw [if_neg (by omega), if_neg (by omega)]
      · rw [if_neg (by omega), if_neg (by omega)]
      · rw [if_pos (by omega)]
      · rw [if_pos (by omega)]
  · by_cases iy : y % 9223372036854775808 = 9218868437227405312
    · obtain ⟨n, j, f1, f2⟩ := read_fin (x := x) (by omega)
      unfold Format.order
      rw [read_inf iy, f1]
      simp only [Datum.order]
      rw [fval_sg, fval_sg, iy, cmp_int]
      generalize x % 9223372036854775808 = r at *
      cases (x / 9223372036854775808 % 2 == 1) <;> cases (y / 9223372036854775808 % 2 == 1) <;> simp only [sg, if_true, if_false, Bool.false_eq_true]
      · rw [if_pos (by omega)]
      · rw [if_neg (by omega), if_neg (by omega)]
      · rw [if_pos (by omega)]
      · rw [if_neg (by omega), if_neg (by omega)]
    · exact order_fin (by omega) (by omega)
/-- The comparisons. -/
theorem f_eq (x y : Nat) : (double.order x y == some .eq) = decide (¬isN x ∧ ¬isN y ∧ fval x = fval y) := by
  by_cases hx : isN x
  · rw [order_nan_l hx]; simp [hx]
  · by_cases hy : isN y
    · rw [order_nan_r hy]; simp [hy]
    · rw [order_num hx hy, cmp_int]
      rcases Int.lt_trichotomy (fval x) (fval y) with h | h | h
      · have : ¬(fval x = fval y) := by omega
        simp [hx, hy, h, this]
      · have : ¬(fval x < fval y) := by omega
        simp [hx, hy, h]
      · have h1 : ¬(fval x < fval y) := by omega
        have h2 : ¬(fval x = fval y) := by omega
        simp [hx, hy, h1, h2]
theorem f_lt (x y : Nat) : (double.order x y == some .lt) = decide (¬isN x ∧ ¬isN y ∧ fval x < fval y) := by
  by_cases hx : isN x
  · rw [order_nan_l hx]; simp [hx]
  · by_cases hy : isN y
    · rw [order_nan_r hy]; simp [hy]
    · rw [order_num hx hy, cmp_int]
      rcases Int.lt_trichotomy (fval x) (fval y) with h | h | h
      · simp [hx, hy, h]
      · have : ¬(fval x < fval y) := by omega
        simp [hx, hy, h]
      · have h1 : ¬(fval x < fval y) := by omega
        have h2 : ¬(fval x = fval y) := by omega
        simp [hx, hy, h1, h2]
theorem f_gt (x y : Nat) : (double.order x y == some .gt) = decide (¬isN x ∧ ¬isN y ∧ fval y < fval x) := by
  by_cases hx : isN x
  · rw [order_nan_l hx]; simp [hx]
  · by_cases hy : isN y
    · rw [order_nan_r hy]; simp [hy]
    · rw [order_num hx hy, cmp_int]
      rcases Int.lt_trichotomy (fval x) (fval y) with h | h | h
      · have h1 : ¬(fval y < fval x) := by omega
        simp [hx, hy, h, h1]
      · have : ¬(fval y < fval x) := by omega
        simp [hx, hy, h]
      · have h1 : ¬(fval x < fval y) := by omega
        have h2 : ¬(fval x = fval y) := by omega
        simp [hx, hy, h1, h2, h]
end Go.Proofs.YtchmioacjkbfcaaGreat.AI

/- The key of a float: bits by numbers; which keys are a float's. No program in sight. -/
namespace Go.Proofs.YtchmioacjkbfcaaGreat.AI
open Go
set_option linter.unusedVariables false
set_option linter.unusedSimpArgs false

/-! ### the highest bit of a word -/
theorem bv_or_top (n : Nat) (h : n < 9223372036854775808) : (BitVec.ofInt 64 (n : Int) ||| BitVec.ofInt 64 9223372036854775808).toNat = n + 9223372036854775808 := by
  rw [BitVec.toNat_or, BitVec.toNat_ofInt, BitVec.toNat_ofInt]
  have e1 : (((n : Int) % ((2 ^ 64 : Nat) : Int)).toNat) = n := by omega
  have e2 : (((9223372036854775808 : Int) % ((2 ^ 64 : Nat) : Int)).toNat) = 2 ^ 63 * 1 := by decide
  rw [e1, e2, Nat.or_comm, ← Nat.two_pow_add_eq_or_of_lt (by simpa using h)]
  omega
theorem bv_and_top_lo (n : Nat) (h : n < 9223372036854775808) : (BitVec.ofInt 64 (n : Int) &&& BitVec.ofInt 64 9223372036854775808).toNat = 0 := by
  rw [BitVec.toNat_and, BitVec.toNat_ofInt, BitVec.toNat_ofInt]
  have e1 : (((n : Int) % ((2 ^ 64 : Nat) : Int)).toNat) = n := by omega
  have e2 : (((9223372036854775808 : Int) % ((2 ^ 64 : Nat) : Int)).toNat) = 2 ^ 63 := by decide
  rw [e1, e2]
  apply Nat.eq_of_testBit_eq
  intro i
  rw [Nat.testBit_and, Nat.testBit_two_pow, Nat.zero_testBit]
  by_cases hi : 63 = i
  · subst hi
    rw [Nat.testBit_lt_two_pow (by simpa using h)]
    rfl
  · simp [hi]
theorem bv_and_top_hi (n : Nat) (h : 9223372036854775808 ≤ n) (h' : n < 18446744073709551616) : (BitVec.ofInt 64 (n : Int) &&& BitVec.ofInt 64 9223372036854775808).toNat = 9223372036854775808 := by
  rw [BitVec.toNat_and, BitVec.toNat_ofInt, BitVec.toNat_ofInt]
  have e1 : (((n : Int) % ((2 ^ 64 : Nat) : Int)).toNat) = n := by omega
  have e2 : (((9223372036854775808 : Int) % ((2 ^ 64 : Nat) : Int)).toNat) = 2 ^ 63 := by decide
  have e3 : (9223372036854775808 : Nat) = 2 ^ 63 := by decide
  rw [e1, e2]
  conv => rhs; rw [e3]
  obtain ⟨m, rfl⟩ : ∃ m, n = 2 ^ 63 * 1 + m := ⟨n - 2 ^ 63, by omega⟩
  rw [Nat.two_pow_add_eq_or_of_lt (by omega)]
  apply Nat.eq_of_testBit_eq
  intro i
  rw [Nat.testBit_and, Nat.testBit_or, Nat.mul_one, Nat.testBit_two_pow]
  by_cases hi : 63 = i
  · subst hi; simp
  · simp [hi]
theorem bv_clear_top (n : Nat) (h' : n < 18446744073709551616) : (BitVec.ofInt 64 (n : Int) &&& ~~~(BitVec.ofInt 64 9223372036854775808)).toNat = n % 9223372036854775808 := by
  have e2 : (~~~(BitVec.ofInt 64 9223372036854775808)).toNat = 2 ^ 63 - 1 := by decide
  rw [BitVec.toNat_and, BitVec.toNat_ofInt, e2, Nat.and_two_pow_sub_one_eq_mod]
  have e1 : (((n : Int) % ((2 ^ 64 : Nat) : Int)).toNat) = n := by omega
  rw [e1]
/-! ### keys -/
/-- The key of a word. -/
def kw (w : Nat) : Nat := if isN w then 18444492273895866369 else if w < 9223372036854775808 then w + 9223372036854775808 else 18446744073709551615 - w
/-- The word that a key would have. -/
def wk (k : Nat) : Nat := if k < 9223372036854775808 then 18446744073709551615 - k else k - 9223372036854775808
def ofOk (k : Nat) : Bool := decide (kw (wk k) = k)
theorem ofOk_iff (k : Nat) (h : k < 18446744073709551616) : ofOk k = decide ((4503599627370495 ≤ k ∧ k ≤ 18442240474082181120) ∨ k = 18444492273895866369) := by
  unfold ofOk kw wk isN
  congr 1
  apply propext
  constructor
  · intro h1
    repeat' split at h1
    all_goals omega
  · intro h1
    repeat' split
    all_goals omega
theorem kw_lt (w : Nat) (h : w < 18446744073709551616) : kw w < 18446744073709551616 := by
  unfold kw; repeat' split
  all_goals omega
theorem wk_lt (k : Nat) (h : k < 18446744073709551616) : wk k < 18446744073709551616 := by
  unfold wk; split <;> omega
theorem wk_kw {w : Nat} (h : w < 18446744073709551616) (hn : ¬isN w) : wk (kw w) = w := by
  unfold kw
  rw [if_neg hn]
  unfold wk
  repeat' split
  all_goals omega
theorem isN_wk_kw {w : Nat} (hn : isN w) : isN (wk (kw w)) := by
  unfold kw
  rw [if_pos hn]
  decide
theorem kw_wk_kw (w : Nat) (h : w < 18446744073709551616) : kw (wk (kw w)) = kw w := by
  by_cases hn : isN w
  · unfold kw
    rw [if_pos hn]
    decide
  · rw [wk_kw h hn]
/-- Where a float stands, as the document tells it. -/
def place (w : Nat) : Int := if isN w then 6 else if w = 9218868437227405312 then 5 else if w = 18442240474082181120 then 0 else if w = 9223372036854775808 then 2 else if w = 0 then 3 else if w < 9223372036854775808 then 4 else 1
def fLess (a b : Nat) : Bool := decide (¬isN a ∧ ¬isN b ∧ fval a < fval b)
def rLess (a b : Nat) : Bool := if place a = place b then fLess a b else decide (place a < place b)
theorem fval_lo {w : Nat} (h : w < 9223372036854775808) : fval w = w := by
  unfold fval; rw [if_neg (by omega), Nat.mod_eq_of_lt h]
theorem fval_hi {w : Nat} (h : 9223372036854775808 ≤ w) (h' : w < 18446744073709551616) : fval w = 9223372036854775808 - (w : Int) := by
  unfold fval; rw [if_pos (by omega)]; omega
theorem rLess_kw {a b : Nat} (ha : a < 18446744073709551616) (hb : b < 18446744073709551616) : rLess a b = decide (kw a < kw b) := by
  unfold rLess fLess
  have na : isN a ↔ 9218868437227405312 < a % 9223372036854775808 := Iff.rfl
  have nb : isN b ↔ 9218868437227405312 < b % 9223372036854775808 := Iff.rfl
  by_cases h1 : isN a
  · by_cases h2 : isN b
    · simp [place, kw, h1, h2]
    · have : place b ≠ 6 ∧ place b < 6 := by unfold place; rw [if_neg h2]; (repeat' split) <;> omega
      have p : place a = 6 := by unfold place; rw [if_pos h1]
      rw [p, if_neg (fun e => this.1 e.symm)]
      unfold kw
      rw [if_pos h1, if_neg h2]
      rw [nb] at h2
      split <;> simp <;> omega
  · by_cases h2 : isN b
    · have : place a ≠ 6 ∧ place a < 6 := by unfold place; rw [if_neg h1]; (repeat' split) <;> omega
      have p : place b = 6 := by unfold place; rw [if_pos h2]
      rw [p, if_neg this.1]
      unfold kw
      rw [if_neg h1, if_pos h2]
      rw [na] at h1
      split <;> simp <;> omega
    · simp only [h1, h2, not_false_eq_true, true_and]
      unfold kw
      rw [if_neg h1, if_neg h2]
      rw [na] at h1
      rw [nb] at h2
      have pa : place a = if a = 9218868437227405312 then 5 else if a = 18442240474082181120 then 0 else if a = 9223372036854775808 then 2 else if a = 0 then 3 else if a < 9223372036854775808 then 4 else 1 := by unfold place; rw [if_neg (show ¬isN a from h1)]
      have pb : place b = if b = 9218868437227405312 then 5 else if b = 18442240474082181120 then 0 else if b = 9223372036854775808 then 2 else if b = 0 then 3 else if b < 9223372036854775808 then 4 else 1 := by unfold place; rw [if_neg (show ¬isN b from h2)]
      by_cases la : a < 9223372036854775808
      · rw [fval_lo la, if_pos la]
        by_cases lb : b < 9223372036854775808
        · rw [fval_lo lb, if_pos lb]
          have qa : place a = if a = 9218868437227405312 then 5 else if a = 0 then 3 else 4 := by rw [pa]; (repeat' split) <;> omega
          have qb : place b = if b = 9218868437227405312 then 5 else if b = 0 then 3 else 4 := by rw [pb]; (repeat' split) <;> omega
          rw [qa, qb]
          repeat' split
          all_goals first | (congr 1; apply propext; omega) | omega
        · rw [fval_hi (by omega) hb, if_neg lb]
          have qa : 3 ≤ place a := by rw [pa]; (repeat' split) <;> omega
          have qb : place b ≤ 2 := by rw [pb]; (repeat' split) <;> omega
          rw [if_neg (by omega)]
          congr 1; apply propext; omega
      · rw [fval_hi (by omega) ha, if_neg la]
        by_cases lb : b < 9223372036854775808
        · rw [fval_lo lb, if_pos lb]
          have qa : place a ≤ 2 := by rw [pa]; (repeat' split) <;> omega
          have qb : 3 ≤ place b := by rw [pb]; (repeat' split) <;> omega
          rw [if_neg (by omega)]
          congr 1; apply propext; omega
        · rw [fval_hi (by omega) hb, if_neg lb]
          have qa : place a = if a = 18442240474082181120 then 0 else if a = 9223372036854775808 then 2 else 1 := by rw [pa]; (repeat' split) <;> omega
          have qb : place b = if b = 18442240474082181120 then 0 else if b = 9223372036854775808 then 2 else 1 := by rw [pb]; (repeat' split) <;> omega
          rw [qa, qb]
          repeat' split
          all_goals first | (congr 1; apply propext; omega) | omega
end Go.Proofs.YtchmioacjkbfcaaGreat.AI

/- Long division by two digits of 32 bits. No program in sight. -/
namespace Go.Proofs.YtchmioacjkbfcaaGreat.AI
set_option linter.unusedVariables false
set_option linter.unusedSimpArgs false

theorem dig_iff {y1 y0 u d q r : Nat} (hqr : q * y1 + r = u) : q * (y1 * 4294967296 + y0) ≤ u * 4294967296 + d ↔ q * y0 ≤ 4294967296 * r + d := by
  have e : q * (y1 * 4294967296 + y0) = q * y1 * 4294967296 + q * y0 := by rw [Nat.mul_add, Nat.mul_assoc]
  rw [e, ← hqr]
  generalize q * y1 = A
  generalize q * y0 = C
  constructor <;> intro h <;> omega
theorem dig_le {y1 y0 u d q r : Nat} (hy : 0 < y1 * 4294967296 + y0) (hqr : q * y1 + r = u) : q ≤ (u * 4294967296 + d) / (y1 * 4294967296 + y0) ↔ q * y0 ≤ 4294967296 * r + d := by
  rw [Nat.le_div_iff_mul_le hy]
  exact dig_iff hqr
theorem dig_lt {y u d : Nat} (hu : u < y) (hd : d < 4294967296) : (u * 4294967296 + d) / y < 4294967296 := by
  rw [Nat.div_lt_iff_lt_mul (by omega)]
  have h : (u + 1) * 4294967296 ≤ 4294967296 * y := by rw [Nat.mul_comm]; exact Nat.mul_le_mul (Nat.le_refl _) hu
  omega
/-- The first guess is not too small. -/
theorem dig_first {y1 y0 u d : Nat} (h1 : 0 < y1) (hd : d < 4294967296) : (u * 4294967296 + d) / (y1 * 4294967296 + y0) ≤ u / y1 := by
  rw [Nat.le_div_iff_mul_le h1]
  have h := Nat.div_mul_le_self (u * 4294967296 + d) (y1 * 4294967296 + y0)
  generalize (u * 4294967296 + d) / (y1 * 4294967296 + y0) = t at *
  rw [Nat.mul_add, ← Nat.mul_assoc] at h
  generalize t * y1 = A at *
  generalize t * y0 = C at *
  omega
theorem dig_guess {y1 y0 u : Nat} (h1 : 2147483648 ≤ y1) (h0 : y0 < 4294967296) (hu : u < y1 * 4294967296 + y0) : u / y1 ≤ 4294967297 := by
  have : u / y1 < 4294967298 := by
    rw [Nat.div_lt_iff_lt_mul (by omega)]
    omega
  omega
/-- Where a step comes to a great rest the guess is right. -/
theorem dig_exit {y1 y0 u d q r : Nat} (hy : 0 < y1 * 4294967296 + y0) (h0 : y0 < 4294967296) (hqr : q * y1 + r = u) (hq : q ≤ 4294967296) (hr : 4294967296 ≤ r) : q ≤ (u * 4294967296 + d) / (y1 * 4294967296 + y0) := by
  rw [dig_le hy hqr]
  have h1 : q * y0 ≤ 4294967296 * 4294967296 := Nat.mul_le_mul hq (by omega)
  omega
theorem mod_small {a b : Nat} (hb : b < 4294967296) (h : 0 < b) : a % b < 4294967296 := by
  exact Nat.lt_trans (Nat.mod_lt a h) hb
/-- Two digits of a quotient. -/
theorem two_digits (B u y : Nat) (hy : 0 < y) : (u * B / y) * B + ((u * B - (u * B / y) * y) * B) / y = u * (B * B) / y := by
  have h2 : u * B - u * B / y * y = u * B % y := by
    have h1 := Nat.div_add_mod (u * B) y
    rw [Nat.mul_comm y] at h1
    omega
  have h3 : u * (B * B) = u * B % y * B + y * (u * B / y * B) := by
    have h1 := Nat.div_add_mod (u * B) y
    rw [← Nat.mul_assoc]
    conv => lhs; rw [← h1]
    rw [Nat.add_mul, Nat.mul_assoc]
    omega
  rw [h2, h3, Nat.add_mul_div_left _ _ hy]
  omega
/-- How many bits a number has. -/
def Bl (x n : Nat) : Prop := x < 2 ^ n ∧ (n = 0 ∨ 2 ^ (n - 1) ≤ x)
theorem Bl.up {x k n : Nat} (h : Bl (x / 2 ^ k) n) (hx : 2 ^ k ≤ x) : Bl x (n + k) := by
  obtain ⟨h1, h2⟩ := h
  have hp := Nat.two_pow_pos k
  have hn : n ≠ 0 := by
    intro e
    subst e
    have : 1 ≤ x / 2 ^ k := (Nat.one_le_div_iff hp).mpr hx
    simp at h1
    omega
  refine ⟨?_, .inr ?_⟩
  · rw [Nat.pow_add]
    exact (Nat.div_lt_iff_lt_mul hp).mp h1
  · have h3 := h2.resolve_left hn
    rw [show n + k - 1 = (n - 1) + k by omega, Nat.pow_add]
    exact (Nat.le_div_iff_mul_le hp).mp h3
end Go.Proofs.YtchmioacjkbfcaaGreat.AI

/- Whole numbers as bytes, seven bits each, and back: nothing of the program is in here. -/
namespace Go.Proofs.YtchmioacjkbfcaaGreat.AI
set_option linter.unusedVariables false
set_option linter.unusedSimpArgs false

/-- A number's bytes. -/
def uv (n : Nat) : List Int := if h : n < 128 then [(n : Int)] else ((n % 128 + 128 : Nat) : Int) :: uv (n / 128)
termination_by n
decreasing_by omega
theorem uv_lt {n : Nat} (h : n < 128) : uv n = [(n : Int)] := by rw [uv]; simp [h]
theorem uv_ge {n : Nat} (h : ¬(n < 128)) : uv n = ((n % 128 + 128 : Nat) : Int) :: uv (n / 128) := by rw [uv]; simp [h]
theorem uv_ne (n : Nat) : uv n ≠ [] := by
  by_cases h : n < 128
  · rw [uv_lt h]; simp
  · rw [uv_ge h]; simp
theorem uv_in : ∀ (n : Nat) (x : Int), x ∈ uv n → 0 ≤ x ∧ x < 256 := by
  intro n
  induction n using Nat.strongRecOn with
  | _ n ih =>
    intro x hx
    by_cases h : n < 128
    · rw [uv_lt h] at hx; simp at hx; omega
    · rw [uv_ge h] at hx
      rcases List.mem_cons.mp hx with rfl | hx
      · omega
      · exact ih (n / 128) (by omega) x hx
theorem uv_len : ∀ (k n : Nat), n < 128 ^ (k + 1) → (uv n).length ≤ k + 1 := by
  intro k
  induction k with
  | zero => intro n h; rw [uv_lt (by omega)]; simp
  | succ k ih =>
    intro n h
    by_cases h1 : n < 128
    · rw [uv_lt h1]; simp
    · rw [uv_ge h1]
      have : n / 128 < 128 ^ (k + 1) := Nat.div_lt_of_lt_mul (by rw [Nat.pow_succ] at h; omega)
      have := ih _ this
      simp only [List.length_cons]; omega
theorem uv_len64 {n : Nat} (h : n < 18446744073709551616) : (uv n).length ≤ 10 := uv_len 9 n (Nat.lt_of_lt_of_le h (by decide))

/-- Bytes of a number are read: the number, how many bytes, the error. -/
def gU : List Int → Nat → Nat → Nat → Nat × Nat × Int
  | [], _, _, u => (0, u, 3)
  | c :: r, s, n, u =>
    if (s = 63 ∧ 1 < c) ∨ (0 < s ∧ c = 0) then (0, u + 1, 4)
    else if c < 128 then (n + c.toNat * 2 ^ s, u + 1, 0)
    else gU r (s + 7) (n + (c.toNat - 128) * 2 ^ s) (u + 1)
theorem gU_used : ∀ (r : List Int) (s n u : Nat), u ≤ (gU r s n u).2.1 ∧ (gU r s n u).2.1 ≤ u + r.length := by
  intro r
  induction r with
  | nil => intro s n u; simp [gU]
  | cons c r ih =>
    intro s n u
    unfold gU
    split
    · simp
    · split
      · simp
      · have := ih (s + 7) (n + (c.toNat - 128) * 2 ^ s) (u + 1)
        simp only [List.length_cons]; omega
theorem gU_err : ∀ (r : List Int) (s n u : Nat), (gU r s n u).2.2 = 0 ∨ (gU r s n u).2.2 = 3 ∨ (gU r s n u).2.2 = 4 := by
  intro r
  induction r with
  | nil => intro s n u; simp [gU]
  | cons c r ih =>
    intro s n u
    unfold gU
    split
    · simp
    · split
      · simp
      · exact ih _ _ _
/-- What is put is read. -/
theorem gU_uv : ∀ (k m : Nat) (rest : List Int) (s n u : Nat), s = 7 * k → k ≤ 9 → m * 2 ^ s < 18446744073709551616 → (0 < s → m ≠ 0) →
    gU (uv m ++ rest) s n u = (n + m * 2 ^ s, u + (uv m).length, 0) := by
  intro k m
  induction m using Nat.strongRecOn generalizing k with
  | _ m ih =>
    intro rest s n u hs hk hm hz
    have h63 : s = 63 → m < 2 := by
      intro e; rw [e] at hm
      have : (2 : Nat) ^ 63 = 9223372036854775808 := rfl
      rw [this] at hm; omega
    by_cases h : m < 128
    · rw [uv_lt h]
      simp only [List.cons_append, List.nil_append]
      unfold gU
      rw [if_neg (by
        rintro (⟨h1, h2⟩ | ⟨h1, h2⟩)
        · have := h63 h1; omega
        · have := hz h1; omega), if_pos (by omega)]
      simp
    · rw [uv_ge h]
      have hk9 : k < 9 := by
        rcases Nat.lt_or_ge k 9 with h1 | h1
        · exact h1
        · have := h63 (by omega); omega
      simp only [List.cons_append]
      unfold gU
      rw [if_neg (by
        rintro (⟨h1, h2⟩ | ⟨h1, h2⟩)
        · omega
        · omega), if_neg (by omega)]
      have hpow : 2 ^ (s + 7) = 128 * 2 ^ s := by rw [Nat.pow_add]; omega
      have hle : m / 128 * 2 ^ (s + 7) ≤ m * 2 ^ s := by
        rw [hpow, ← Nat.mul_assoc]
        exact Nat.mul_le_mul_right _ (by omega)
      rw [ih (m / 128) (by omega) (k + 1) rest (s + 7) _ _ (by omega) (by omega) (by omega) (by intro _; omega)]
      have e1 : (((m % 128 + 128 : Nat) : Int).toNat - 128) = m % 128 := by omega
      rw [e1, hpow]
      have e2 : n + m % 128 * 2 ^ s + m / 128 * (128 * 2 ^ s) = n + m * 2 ^ s := by
        have : m / 128 * (128 * 2 ^ s) = (128 * (m / 128)) * 2 ^ s := by rw [Nat.mul_comm 128 (m / 128), Nat.mul_assoc]
        rw [this, Nat.add_assoc, ← Nat.add_mul]
        have : m % 128 + 128 * (m / 128) = m := by omega
        rw [this]
      rw [e2]
      simp only [List.length_cons]
      have e3 : u + 1 + (uv (m / 128)).length = u + ((uv (m / 128)).length + 1) := by omega
      rw [e3]
/-- What is read was put. -/
theorem gU_ok : ∀ (r : List Int) (k s n u : Nat), (∀ c ∈ r, 0 ≤ c ∧ c < 256) → s = 7 * k → k ≤ 9 → (gU r s n u).2.2 = 0 →
    ∃ m, (gU r s n u).1 = n + m * 2 ^ s ∧ (gU r s n u).2.1 = u + (uv m).length ∧ r = uv m ++ r.drop (uv m).length ∧ (0 < s → m ≠ 0) ∧ m * 2 ^ s < 18446744073709551616 := by
  intro r
  induction r with
  | nil => intro k s n u hr hs hk h; simp [gU] at h
  | cons c r ih =>
    intro k s n u hr hs hk h
    have hc := hr c (by simp)
    unfold gU at h ⊢
    split at h
    · simp at h
    · rename_i h1
      rw [if_neg h1]
      split at h
      · rename_i h2
        rw [if_pos h2]
        have hu : uv c.toNat = [c] := by
          rw [uv_lt (by omega)]
          have : ((c.toNat : Nat) : Int) = c := by omega
          rw [this]
        refine ⟨c.toNat, rfl, by rw [hu]; rfl, by rw [hu]; rfl, fun h3 h4 => h1 (.inr ⟨h3, by omega⟩), ?_⟩
        by_cases h63 : s = 63
        · have : ¬(1 < c) := fun h3 => h1 (.inl ⟨h63, h3⟩)
          have e : (2 : Nat) ^ 63 = 9223372036854775808 := rfl
          rw [h63, e]; omega
        · have hs56 : s ≤ 56 := by omega
          have : 2 ^ s ≤ 2 ^ 56 := Nat.pow_le_pow_right (by decide) hs56
          have e : (2 : Nat) ^ 56 = 72057594037927936 := rfl
          rw [e] at this
          have : c.toNat * 2 ^ s ≤ 127 * 72057594037927936 := Nat.mul_le_mul (by omega) this
          omega
      · rename_i h2
        rw [if_neg h2]
        have hk9 : k < 9 := by
          rcases Nat.lt_or_ge k 9 with h3 | h3
          · exact h3
          · exact absurd (.inl ⟨by omega, by omega⟩) h1
        obtain ⟨m, m1, m2, m3, m4, m5⟩ := ih (k + 1) (s + 7) (n + (c.toNat - 128) * 2 ^ s) (u + 1) (fun x hx => hr x (by simp [hx])) (by omega) (by omega) h
        have hm0 := m4 (by omega)
        have hq : (c.toNat - 128 + 128 * m) / 128 = m := by omega
        have hrm : (c.toNat - 128 + 128 * m) % 128 = c.toNat - 128 := by omega
        have hu : uv (c.toNat - 128 + 128 * m) = c :: uv m := by
          rw [uv_ge (by omega), hq, hrm]
          have : ((c.toNat - 128 + 128 : Nat) : Int) = c := by omega
          rw [this]
        have hpow : 2 ^ (s + 7) = 128 * 2 ^ s := by rw [Nat.pow_add]; omega
        have e2 : (c.toNat - 128) * 2 ^ s + m * (128 * 2 ^ s) = (c.toNat - 128 + 128 * m) * 2 ^ s := by
          have : m * (128 * 2 ^ s) = (128 * m) * 2 ^ s := by rw [Nat.mul_comm 128 m, Nat.mul_assoc]
          rw [this, ← Nat.add_mul]
        refine ⟨c.toNat - 128 + 128 * m, ?_, ?_, ?_, fun _ h4 => by omega, ?_⟩
        · rw [m1, hpow, Nat.add_assoc, e2]
        · rw [m2, hu]; simp only [List.length_cons]; omega
        · rw [hu]; simp only [List.length_cons, List.drop_succ_cons, List.cons_append]
          congr 1
        · by_cases h56 : s ≤ 49
          · rw [← e2, ← hpow]
            have h7 : 2 ^ s ≤ 2 ^ 49 := Nat.pow_le_pow_right (by decide) h56
            have e : (2 : Nat) ^ 49 = 562949953421312 := rfl
            rw [e] at h7
            have : (c.toNat - 128) * 2 ^ s ≤ 127 * 562949953421312 := Nat.mul_le_mul (by omega) h7
            have hd : m * 2 ^ (s + 7) + 2 ^ (s + 7) ≤ 18446744073709551616 := by
              have hdv : 2 ^ (s + 7) ∣ 18446744073709551616 := by
                have : (18446744073709551616 : Nat) = 2 ^ 64 := rfl
                rw [this]; exact Nat.pow_dvd_pow 2 (by omega)
              obtain ⟨q, hq'⟩ := hdv
              have hlt : m < q := by
                have : m * 2 ^ (s + 7) < q * 2 ^ (s + 7) := by rw [Nat.mul_comm q, ← hq']; exact m5
                exact Nat.lt_of_mul_lt_mul_right this
              have : (m + 1) * 2 ^ (s + 7) ≤ q * 2 ^ (s + 7) := Nat.mul_le_mul_right _ hlt
              rw [Nat.add_mul, Nat.one_mul, Nat.mul_comm q, ← hq'] at this
              exact this
            have hlt7 : (c.toNat - 128) * 2 ^ s < 2 ^ (s + 7) := by
              rw [hpow]
              exact Nat.mul_lt_mul_of_pos_right (by omega) (Nat.two_pow_pos s)
            omega
          · have hs56 : s = 56 := by omega
            rw [hs56] at m5 ⊢
            have e : (2 : Nat) ^ (56 + 7) = 9223372036854775808 := rfl
            have e' : (2 : Nat) ^ 56 = 72057594037927936 := rfl
            rw [e] at m5
            rw [e']
            have hm1 : m = 1 := by omega
            have hb : c.toNat - 128 + 128 * m ≤ 255 := by rw [hm1]; omega
            exact Nat.lt_of_le_of_lt (Nat.mul_le_mul_right _ hb) (by decide)
/-- A number with a sign, as one without. -/
def zz (n : Int) : Nat := if n < 0 then ((-(n + 1)) * 2 + 1).toNat else (n * 2).toNat
def unzz (u : Nat) : Int := if u % 2 = 0 then (u / 2 : Nat) else -((u / 2 : Nat) : Int) - 1
theorem unzz_zz (n : Int) : unzz (zz n) = n := by
  unfold zz unzz
  by_cases h : n < 0
  · rw [if_pos h]
    have : ((-(n + 1)) * 2 + 1).toNat % 2 = 1 := by omega
    rw [if_neg (by omega)]
    omega
  · rw [if_neg h]
    rw [if_pos (by omega)]
    omega
theorem zz_unzz (u : Nat) : zz (unzz u) = u := by
  unfold zz unzz
  by_cases h : u % 2 = 0
  · rw [if_pos h, if_neg (by omega)]
    omega
  · rw [if_neg h, if_pos (by omega)]
    omega
theorem zz_lt {n : Int} (h1 : -9223372036854775808 ≤ n) (h2 : n < 9223372036854775808) : zz n < 18446744073709551616 := by
  unfold zz; split <;> omega
end Go.Proofs.YtchmioacjkbfcaaGreat.AI
