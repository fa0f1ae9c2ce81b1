/- Rising rows of numbers: two as one, what is in them, when two are the same. No program in sight. -/
namespace Go.Proofs.Ytalnoedhacobkaa.AI
set_option linter.unusedVariables false
set_option linter.unusedSimpArgs false

/-- Two rising rows as one. -/
def mrg : List Int → List Int → List Int
  | [], b => b
  | a, [] => a
  | x :: a, y :: b => if x < y then x :: mrg a (y :: b) else if y < x then y :: mrg (x :: a) b else x :: mrg a b
termination_by a b => a.length + b.length
@[simp] theorem mrg_nil_l (b : List Int) : mrg [] b = b := by unfold mrg; rfl
@[simp] theorem mrg_nil_r (a : List Int) : mrg a [] = a := by cases a <;> (unfold mrg; rfl)
theorem mrg_cons (x : Int) (a : List Int) (y : Int) (b : List Int) : mrg (x :: a) (y :: b) = if x < y then x :: mrg a (y :: b) else if y < x then y :: mrg (x :: a) b else x :: mrg a b := by
  rw [mrg]
theorem mrg_ind {motive : List Int → List Int → Prop} (h1 : ∀ b, motive [] b) (h2 : ∀ a, motive a []) (h3 : ∀ x a y b, x < y → motive a (y :: b) → motive (x :: a) (y :: b))
    (h4 : ∀ x a y b, y < x → motive (x :: a) b → motive (x :: a) (y :: b)) (h5 : ∀ x a b, motive a b → motive (x :: a) (x :: b)) : ∀ a b, motive a b := by
  intro a b
  generalize hn : a.length + b.length = n
  induction n using Nat.strongRecOn generalizing a b with
  | _ n ih =>
    cases a with
    | nil => exact h1 b
    | cons x a =>
      cases b with
      | nil => exact h2 _
      | cons y b =>
        by_cases hxy : x < y
        · exact h3 x a y b hxy (ih (a.length + (y :: b).length) (by simp at hn ⊢; omega) _ _ rfl)
        · by_cases hyx : y < x
          · exact h4 x a y b hyx (ih ((x :: a).length + b.length) (by simp at hn ⊢; omega) _ _ rfl)
          · have : x = y := by omega
            subst this
            exact h5 x a b (ih (a.length + b.length) (by simp at hn ⊢; omega) _ _ rfl)
theorem mem_mrg (n : Int) : ∀ a b, n ∈ mrg a b ↔ n ∈ a ∨ n ∈ b := by
  apply mrg_ind
  · intro b; simp
  · intro a; simp
  · intro x a y b h ih
    rw [mrg_cons, if_pos h, List.mem_cons, ih, List.mem_cons, List.mem_cons]
    constructor
    · rintro (h | h | h | h)
      · exact .inl (.inl h)
      · exact .inl (.inr h)
      · exact .inr (.inl h)
      · exact .inr (.inr h)
    · rintro ((h | h) | (h | h))
      · exact .inl h
      · exact .inr (.inl h)
      · exact .inr (.inr (.inl h))
      · exact .inr (.inr (.inr h))
  · intro x a y b h ih
    rw [mrg_cons, if_neg (by omega), if_pos h, List.mem_cons, ih, List.mem_cons, List.mem_cons]
    constructor
    · rintro (h | (h | h) | h)
      · exact .inr (.inl h)
      · exact .inl (.inl h)
      · exact .inl (.inr h)
      · exact .inr (.inr h)
    · rintro ((h | h) | (h | h))
      · exact .inr (.inl (.inl h))
      · exact .inr (.inl (.inr h))
      · exact .inl h
      · exact .inr (.inr h)
  · intro x a b ih
    rw [mrg_cons, if_neg (by omega), if_neg (by omega), List.mem_cons, ih, List.mem_cons, List.mem_cons]
    constructor
    · rintro (h | h | h)
      · exact .inl (.inl h)
      · exact .inl (.inr h)
      · exact .inr (.inr h)
    · rintro ((h | h) | (h | h))
      · exact .inl h
      · exact .inr (.inl h)
      · exact .inl h
      · exact .inr (.inr h)
/-- A rising row. -/
abbrev Rise (l : List Int) : Prop := l.Pairwise (· < ·)
theorem rise_mrg : ∀ a b, Rise a → Rise b → Rise (mrg a b) := by
  apply mrg_ind (motive := fun a b => Rise a → Rise b → Rise (mrg a b))
  · intro b _ h; simpa using h
  · intro a h _; simpa using h
  · intro x a y b h ih ha hb
    rw [mrg_cons, if_pos h]
    have ha := List.pairwise_cons.mp ha
    refine List.pairwise_cons.mpr ⟨fun n hn => ?_, ih ha.2 hb⟩
    rcases (mem_mrg n a (y :: b)).mp hn with h' | h'
    · exact ha.1 n h'
    · rcases List.mem_cons.mp h' with rfl | h'
      · exact h
      · have := (List.pairwise_cons.mp hb).1 n h'; omega
  · intro x a y b h ih ha hb
    rw [mrg_cons, if_neg (by omega), if_pos h]
    have hb' := List.pairwise_cons.mp hb
    refine List.pairwise_cons.mpr ⟨fun n hn => ?_, ih ha hb'.2⟩
    rcases (mem_mrg n (x :: a) b).mp hn with h' | h'
    · rcases List.mem_cons.mp h' with rfl | h'
      · exact h
      · have := (List.pairwise_cons.mp ha).1 n h'; omega
    · exact hb'.1 n h'
  · intro x a b ih ha hb
    rw [mrg_cons, if_neg (by omega), if_neg (by omega)]
    have ha' := List.pairwise_cons.mp ha
    have hb' := List.pairwise_cons.mp hb
    refine List.pairwise_cons.mpr ⟨fun n hn => ?_, ih ha'.2 hb'.2⟩
    rcases (mem_mrg n a b).mp hn with h' | h'
    · exact ha'.1 n h'
    · exact hb'.1 n h'
theorem len_mrg : ∀ a b, (mrg a b).length ≤ a.length + b.length := by
  apply mrg_ind (motive := fun a b => (mrg a b).length ≤ a.length + b.length)
  · intro b; simp
  · intro a; simp
  · intro x a y b h ih
    rw [mrg_cons, if_pos h]; simp at ih ⊢; omega
  · intro x a y b h ih
    rw [mrg_cons, if_neg (by omega), if_pos h]; simp at ih ⊢; omega
  · intro x a b ih
    rw [mrg_cons, if_neg (by omega), if_neg (by omega)]; simp at ih ⊢; omega
theorem rise_ext : ∀ {a b : List Int}, Rise a → Rise b → (∀ n, n ∈ a ↔ n ∈ b) → a = b
  | [], [], _, _, _ => rfl
  | [], y :: b, _, _, h => absurd ((h y).mpr (by simp)) (by simp)
  | x :: a, [], _, _, h => absurd ((h x).mp (by simp)) (by simp)
  | x :: a, y :: b, ha, hb, h => by
    have ha' := List.pairwise_cons.mp ha
    have hb' := List.pairwise_cons.mp hb
    have hxy : x = y := by
      have h1 := List.mem_cons.mp ((h x).mp (by simp))
      have h2 := List.mem_cons.mp ((h y).mpr (by simp))
      rcases h1 with h1 | h1
      · exact h1
      · rcases h2 with h2 | h2
        · exact h2.symm
        · have := ha'.1 y h2
          have := hb'.1 x h1
          omega
    subst hxy
    congr 1
    refine rise_ext ha'.2 hb'.2 fun n => ?_
    have := h n
    constructor
    · intro hn
      have hlt := ha'.1 n hn
      rcases List.mem_cons.mp (this.mp (List.mem_cons_of_mem _ hn)) with rfl | h'
      · omega
      · exact h'
    · intro hn
      have hlt := hb'.1 n hn
      rcases List.mem_cons.mp (this.mpr (List.mem_cons_of_mem _ hn)) with rfl | h'
      · omega
      · exact h'
theorem mrg_comm {a b : List Int} (ha : Rise a) (hb : Rise b) : mrg a b = mrg b a :=
  rise_ext (rise_mrg a b ha hb) (rise_mrg b a hb ha) fun n => by rw [mem_mrg, mem_mrg]; exact or_comm
theorem mrg_assoc {a b c : List Int} (ha : Rise a) (hb : Rise b) (hc : Rise c) : mrg (mrg a b) c = mrg a (mrg b c) :=
  rise_ext (rise_mrg _ _ (rise_mrg a b ha hb) hc) (rise_mrg _ _ ha (rise_mrg b c hb hc)) fun n => by rw [mem_mrg, mem_mrg, mem_mrg, mem_mrg]; exact or_assoc
theorem mrg_self {a : List Int} (ha : Rise a) : mrg a a = a :=
  rise_ext (rise_mrg _ _ ha ha) ha fun n => by rw [mem_mrg]; exact or_self_iff
theorem mrg_sub {a b : List Int} (ha : Rise a) (hb : Rise b) (h : ∀ n ∈ b, n ∈ a) : mrg a b = a :=
  rise_ext (rise_mrg _ _ ha hb) ha fun n => by rw [mem_mrg]; exact ⟨fun h' => h'.elim id (h n), .inl⟩
end Go.Proofs.Ytalnoedhacobkaa.AI
