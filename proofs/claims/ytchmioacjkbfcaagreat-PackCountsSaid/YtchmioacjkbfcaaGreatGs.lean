/- Rows of floats by their keys, with what comes again: two as one, cut, in whatever order. No program in sight. -/
import Derived.Test.YtchmioacjkbfcaaGreatMd
namespace Go.Proofs.YtchmioacjkbfcaaGreat.AI
open Go
set_option linter.unusedVariables false
set_option linter.unusedSimpArgs false

/-! ### numbers with what comes again -/
def mk : List Nat → List Nat → List Nat
  | [], b => b
  | a, [] => a
  | x :: a, y :: b => if y < x then y :: mk (x :: a) b else x :: mk a (y :: b)
termination_by a b => a.length + b.length
@[simp] theorem mk_nil_l (b : List Nat) : mk [] b = b := by unfold mk; rfl
@[simp] theorem mk_nil_r (a : List Nat) : mk a [] = a := by cases a <;> (unfold mk; rfl)
theorem mk_cons (x : Nat) (a : List Nat) (y : Nat) (b : List Nat) : mk (x :: a) (y :: b) = if y < x then y :: mk (x :: a) b else x :: mk a (y :: b) := by
  rw [mk]
theorem mk_ind {motive : List Nat → List Nat → Prop} (h1 : ∀ b, motive [] b) (h2 : ∀ a, motive a []) (h3 : ∀ x a y b, y < x → motive (x :: a) b → motive (x :: a) (y :: b))
    (h4 : ∀ x a y b, ¬y < x → motive a (y :: b) → motive (x :: a) (y :: b)) : ∀ a b, motive a b := by
  intro a b
  generalize hn : a.length + b.length = n
  induction n using Nat.strongRecOn generalizing a b with
  | _ n ih =>
    cases a with
    | nil => exact h1 b
    | cons x a =>
      cases b with
      | nil => exact h2 _
      | cons y b =>
        by_cases hyx : y < x
        · exact h3 x a y b hyx (ih ((x :: a).length + b.length) (by simp at hn ⊢; omega) _ _ rfl)
        · exact h4 x a y b hyx (ih (a.length + (y :: b).length) (by simp at hn ⊢; omega) _ _ rfl)
theorem mk_perm : ∀ a b, (mk a b).Perm (a ++ b) := by
  apply mk_ind (motive := fun a b => (mk a b).Perm (a ++ b))
  · intro b; simp
  · intro a; simp
  · intro x a y b h ih
    rw [mk_cons, if_pos h]
    exact (List.Perm.cons y ih).trans List.perm_middle.symm
  · intro x a y b h ih
    rw [mk_cons, if_neg h]
    exact List.Perm.cons x ih
abbrev Up (l : List Nat) : Prop := l.Pairwise (· ≤ ·)
theorem mk_up : ∀ a b, Up a → Up b → Up (mk a b) := by
  apply mk_ind (motive := fun a b => Up a → Up b → Up (mk a b))
  · intro b _ h; simpa using h
  · intro a h _; simpa using h
  · intro x a y b h ih ha hb
    rw [mk_cons, if_pos h]
    have hb' := List.pairwise_cons.mp hb
    have ha' := List.pairwise_cons.mp ha
    refine List.pairwise_cons.mpr ⟨fun n hn => ?_, ih ha hb'.2⟩
    rcases List.mem_append.mp ((mk_perm _ _).mem_iff.mp hn) with h' | h'
    · rcases List.mem_cons.mp h' with rfl | h'
      · omega
      · have := ha'.1 n h'; omega
    · exact hb'.1 n h'
  · intro x a y b h ih ha hb
    rw [mk_cons, if_neg h]
    have hb' := List.pairwise_cons.mp hb
    have ha' := List.pairwise_cons.mp ha
    refine List.pairwise_cons.mpr ⟨fun n hn => ?_, ih ha'.2 hb⟩
    rcases List.mem_append.mp ((mk_perm _ _).mem_iff.mp hn) with h' | h'
    · exact ha'.1 n h'
    · rcases List.mem_cons.mp h' with rfl | h'
      · omega
      · have := hb'.1 n h'; omega
theorem up_ext : ∀ {a b : List Nat}, Up a → Up b → a.Perm b → a = b
  | [], b, _, _, h => (List.Perm.nil_eq h)
  | x :: a, [], _, _, h => absurd h.length_eq (by simp)
  | x :: a, y :: b, ha, hb, h => by
    have ha' := List.pairwise_cons.mp ha
    have hb' := List.pairwise_cons.mp hb
    have hxy : x = y := by
      have h1 := List.mem_cons.mp (h.mem_iff.mp (by simp : x ∈ x :: a))
      have h2 := List.mem_cons.mp (h.mem_iff.mpr (by simp : y ∈ y :: b))
      rcases h1 with h1 | h1
      · exact h1
      · rcases h2 with h2 | h2
        · exact h2.symm
        · have := ha'.1 y h2
          have := hb'.1 x h1
          omega
    subst hxy
    rw [up_ext ha'.2 hb'.2 (List.Perm.cons_inv h)]
theorem take_mk : ∀ (A B : List Nat) (k m n : Nat), k ≤ m → k ≤ n → (mk (A.take m) (B.take n)).take k = (mk A B).take k := by
  apply mk_ind (motive := fun A B => ∀ (k m n : Nat), k ≤ m → k ≤ n → (mk (A.take m) (B.take n)).take k = (mk A B).take k)
  · intro b k m n hm hn
    rw [List.take_nil, mk_nil_l, mk_nil_l, List.take_take, Nat.min_eq_left hn]
  · intro a k m n hm hn
    rw [List.take_nil, mk_nil_r, mk_nil_r, List.take_take, Nat.min_eq_left hm]
  · intro x a y b h ih k m n hm hn
    match k, m, n, hm, hn with
    | 0, _, _, _, _ => simp
    | k + 1, m + 1, n + 1, hm, hn =>
      have := ih k (m + 1) n (by omega) (by omega)
      rw [List.take_succ_cons] at this
      rw [List.take_succ_cons, List.take_succ_cons, mk_cons, mk_cons, if_pos h, if_pos h, List.take_succ_cons, List.take_succ_cons, this]
  · intro x a y b h ih k m n hm hn
    match k, m, n, hm, hn with
    | 0, _, _, _, _ => simp
    | k + 1, m + 1, n + 1, hm, hn =>
      have := ih k m (n + 1) (by omega) (by omega)
      rw [List.take_succ_cons] at this
      rw [List.take_succ_cons, List.take_succ_cons, mk_cons, mk_cons, if_neg h, if_neg h, List.take_succ_cons, List.take_succ_cons, this]
/-- Numbers in order. -/
def sk : List Nat → List Nat
  | [] => []
  | x :: l => mk [x] (sk l)
theorem sk_up : ∀ l, Up (sk l)
  | [] => List.Pairwise.nil
  | x :: l => mk_up _ _ (by simp) (sk_up l)
theorem sk_perm : ∀ l, (sk l).Perm l
  | [] => List.Perm.refl _
  | x :: l => (mk_perm [x] (sk l)).trans (List.Perm.cons x (sk_perm l))
theorem sk_append (a b : List Nat) : sk (a ++ b) = mk (sk a) (sk b) :=
  up_ext (sk_up _) (mk_up _ _ (sk_up a) (sk_up b)) ((sk_perm _).trans (((sk_perm a).symm.append (sk_perm b).symm).trans (mk_perm _ _).symm))
theorem sk_of_perm {a b : List Nat} (h : a.Perm b) : sk a = sk b := up_ext (sk_up _) (sk_up _) ((sk_perm a).trans (h.trans (sk_perm b).symm))
theorem sk_len (l : List Nat) : (sk l).length = l.length := (sk_perm l).length_eq
/-! ### words by their keys -/
def gm : List Nat → List Nat → List Nat
  | [], b => b
  | a, [] => a
  | x :: a, y :: b => if kw y < kw x then y :: gm (x :: a) b else x :: gm a (y :: b)
termination_by a b => a.length + b.length
@[simp] theorem gm_nil_l (b : List Nat) : gm [] b = b := by unfold gm; rfl
@[simp] theorem gm_nil_r (a : List Nat) : gm a [] = a := by cases a <;> (unfold gm; rfl)
theorem gm_cons (x : Nat) (a : List Nat) (y : Nat) (b : List Nat) : gm (x :: a) (y :: b) = if kw y < kw x then y :: gm (x :: a) b else x :: gm a (y :: b) := by
  rw [gm]
theorem gm_keys : ∀ (n : Nat) (a b : List Nat), a.length + b.length = n → (gm a b).map kw = mk (a.map kw) (b.map kw) := by
  intro n
  induction n using Nat.strongRecOn with
  | _ n ih =>
    intro a b hn
    match a, b with
    | [], b => simp
    | x :: a, [] => simp
    | x :: a, y :: b =>
      rw [gm_cons, List.map_cons, List.map_cons, mk_cons]
      by_cases h : kw y < kw x
      · rw [if_pos h, if_pos h, List.map_cons, ih ((x :: a).length + b.length) (by simp at hn ⊢; omega) (x :: a) b rfl, List.map_cons]
      · rw [if_neg h, if_neg h, List.map_cons, ih (a.length + (y :: b).length) (by simp at hn ⊢; omega) a (y :: b) rfl, List.map_cons]
theorem gm_len : ∀ (n : Nat) (a b : List Nat), a.length + b.length = n → (gm a b).length = a.length + b.length := by
  intro n a b hn
  have h := congrArg List.length (gm_keys n a b hn)
  rw [List.length_map, (mk_perm _ _).length_eq] at h
  simpa using h
theorem mem_gm (w : Nat) : ∀ (n : Nat) (a b : List Nat), a.length + b.length = n → w ∈ gm a b → w ∈ a ∨ w ∈ b := by
  intro n
  induction n using Nat.strongRecOn with
  | _ n ih =>
    intro a b hn hw
    match a, b with
    | [], b => right; simpa using hw
    | x :: a, [] => left; simpa using hw
    | x :: a, y :: b =>
      rw [gm_cons] at hw
      by_cases h : kw y < kw x
      · rw [if_pos h] at hw
        rcases List.mem_cons.mp hw with rfl | hw
        · right; simp
        · rcases ih ((x :: a).length + b.length) (by simp at hn ⊢; omega) (x :: a) b rfl hw with h' | h'
          · exact .inl h'
          · exact .inr (List.mem_cons_of_mem _ h')
      · rw [if_neg h] at hw
        rcases List.mem_cons.mp hw with rfl | hw
        · left; simp
        · rcases ih (a.length + (y :: b).length) (by simp at hn ⊢; omega) a (y :: b) rfl hw with h' | h'
          · exact .inl (List.mem_cons_of_mem _ h')
          · exact .inr h'
/-! ### the least, the greatest, how many -/
def lowK : List Nat → Nat
  | [] => 18442240474082181120
  | f :: F => if isN f then lowK F else min (kw f) (lowK F)
def highK : List Nat → Nat
  | [] => 4503599627370495
  | f :: F => if isN f then highK F else max (kw f) (highK F)
theorem lowK_le : ∀ F, lowK F ≤ 18442240474082181120
  | [] => Nat.le_refl _
  | f :: F => by
    have := lowK_le F
    unfold lowK
    split <;> omega
theorem highK_ge : ∀ F, 4503599627370495 ≤ highK F
  | [] => Nat.le_refl _
  | f :: F => by
    have := highK_ge F
    unfold highK
    split <;> omega
theorem lowK_append : ∀ a b, lowK (a ++ b) = min (lowK a) (lowK b)
  | [], b => by have := lowK_le b; simp only [List.nil_append, lowK]; omega
  | f :: a, b => by
    have := lowK_append a b
    simp only [List.cons_append, lowK]
    split <;> omega
theorem highK_append : ∀ a b, highK (a ++ b) = max (highK a) (highK b)
  | [], b => by have := highK_ge b; simp only [List.nil_append, highK]; omega
  | f :: a, b => by
    have := highK_append a b
    simp only [List.cons_append, highK]
    split <;> omega
theorem lowK_mem : ∀ {F : List Nat} {f : Nat}, f ∈ F → ¬isN f → lowK F ≤ kw f
  | g :: F, f, h, hn => by
    rcases List.mem_cons.mp h with rfl | h
    · unfold lowK; rw [if_neg hn]; omega
    · have := lowK_mem h hn
      unfold lowK
      split <;> omega
theorem highK_mem : ∀ {F : List Nat} {f : Nat}, f ∈ F → ¬isN f → kw f ≤ highK F
  | g :: F, f, h, hn => by
    rcases List.mem_cons.mp h with rfl | h
    · unfold highK; rw [if_neg hn]; omega
    · have := highK_mem h hn
      unfold highK
      split <;> omega
theorem lowK_perm {a b : List Nat} (h : a.Perm b) : lowK a = lowK b := by
  induction h with
  | nil => rfl
  | cons x _ ih => unfold lowK; rw [ih]
  | swap x y l => simp only [lowK]; repeat' split
                  all_goals omega
  | trans _ _ h1 h2 => rw [h1, h2]
theorem highK_perm {a b : List Nat} (h : a.Perm b) : highK a = highK b := by
  induction h with
  | nil => rfl
  | cons x _ ih => unfold highK; rw [ih]
  | swap x y l => simp only [highK]; repeat' split
                  all_goals omega
  | trans _ _ h1 h2 => rw [h1, h2]
end Go.Proofs.YtchmioacjkbfcaaGreat.AI
