/- 'run' and 'go': the abstract machine without a bound on its steps; the equations that they meet. -/
import Derived.Test.YtmnefpfbgadnkaaLim
namespace Go.Proofs.Ytmnefpfbgadnkaa.AI
open Go
set_option linter.unusedVariables false
set_option linter.unusedSimpArgs false

theorem Le.ite {α : Type} {p : Prop} [Decidable p] {a b a' b' : Option α} (h : Le a a') (h' : Le b b') : Le (if p then a else b) (if p then a' else b') := by
  split <;> assumption
def GLe (G G' : List It → St → Option (AV × Hp)) : Prop := ∀ its st, Le (G its st) (G' its st)

theorem exec_mono (c : Cx) {C C' : Orc} (hC : OLe C C') {G G' : List It → St → Option (AV × Hp)} (hG : GLe G G') (h : Nat) (o : Oper) (ev : Operand → SV)
    (gb : Nat → Option (Nat × List AV)) (hp : Hp) (its : SV → BE → Hp → List It) (sts : SV → BE → Hp → St) :
    Le (coreK c C h o ev gb hp fun s b q => G (its s b q) (sts s b q)) (coreK c C' h o ev gb hp fun s b q => G' (its s b q) (sts s b q)) := by
  rw [coreK_nat (K := fun s b q => G (its s b q) (sts s b q)), coreK_nat (K := fun s b q => G' (its s b q) (sts s b q))]
  exact Le.bind (coreK_mono c hC _ _ _ _ _) fun p => hG _ _

theorem execF_mono (c : Cx) {C C' : Orc} (hC : OLe C C') {G G' : GoT} (hG : GLe G G') (r : Nat) (ops : Array Oper) (is : List Nat) (d : Bool) (acc : List (Nat × Fp)) (k : List It) (h i : Nat) (o : Oper) (st : St) :
    Le (execF c C G r ops is d acc k h i o st) (execF c C' G' r ops is d acc k h i o st) := exec_mono c hC hG _ _ _ _ _ _ _
theorem opF_mono (c : Cx) {C C' : Orc} (hC : OLe C C') {G G' : GoT} (hG : GLe G G') (r : Nat) (ops : Array Oper) (is : List Nat) (d : Bool) (acc : List (Nat × Fp)) (k : List It) (h i : Nat) (o : Oper) (st : St) :
    Le (opF c C G r ops is d acc k h i o st) (opF c C' G' r ops is d acc k h i o st) := by
  unfold opF
  split
  · exact Le.refl _
  · exact execF_mono c hC hG _ _ _ _ _ _ _ _ _ _
  · split
    · exact hG _ _
    · refine Le.bind (Le.refl _) fun t => ?_
      split
      · exact Le.cond (execF_mono c hC hG _ _ _ _ _ _ _ _ _ _) (hG _ _)
      · exact Le.cond (hG _ _) (execF_mono c hC hG _ _ _ _ _ _ _ _ _ _)
    · exact Le.refl _
theorem stepF_mono (c : Cx) {C C' : Orc} (hC : OLe C C') {G G' : GoT} (hG : GLe G G') (f : FuncId) (its : List It) (st : St) :
    Le (stepF c C G f its st) (stepF c C' G' f its st) := by
  unfold stepF
  split
  all_goals first
    | exact Le.refl _
    | exact hG _ _
    | exact Le.bind (Le.refl _) fun v => Le.bind (Le.refl _) fun t => Le.cond (hG _ _) (hG _ _)
    | exact Le.bind (Le.refl _) fun v => hG _ _
    | exact Le.cond (hG _ _) (Le.refl _)
    | exact Le.bind (Le.refl _) fun v => opF_mono c hC hG _ _ _ _ _ _ _ _ _ _

theorem goC_mono (c : Cx) {C C' : Orc} (hC : OLe C C') (f : FuncId) : ∀ n its st, Le (goC c C f n its st) (goC c C' f n its st)
  | 0, _, _ => Le.refl _
  | n + 1, its, st => stepF_mono c hC (fun its st => goC_mono c hC f n its st) f its st
theorem goC_succ (c : Cx) (C : Orc) (f : FuncId) : ∀ n its st, Le (goC c C f n its st) (goC c C f (n + 1) its st)
  | 0, _, _ => fun r h => by simp [goC] at h
  | n + 1, its, st => stepF_mono c (fun f xs hp => Le.refl _) (fun its st => goC_succ c C f n its st) f its st
theorem initK_mono {R : Type} (c : Cx) : ∀ (i : Nat) (ts : List TypeId) (xs : List AV) (K K' : Slots → Option R), (∀ l, Le (K l) (K' l)) → Le (initK c i ts xs K) (initK c i ts xs K')
  | _, [], [], _, _, h => h _
  | i, [], _ :: xs, _, _, h => initK_mono c (i + 1) [] xs _ _ fun l => h _
  | _, _ :: _, [], _, _, _ => Le.refl _
  | i, t :: ts, x :: xs, _, _, h => by
    unfold initK
    split
    · split
      · exact Le.bind (Le.refl _) fun v => initK_mono c (i + 1) ts xs _ _ fun l => h _
      · exact initK_mono c (i + 1) ts xs _ _ fun l => h _
    · exact Le.refl _
theorem startK_mono {R : Type} (c : Cx) (f : FuncId) (xs : List AV) (hp : Hp) {K K' : List It → St → Option R} (h : ∀ its st, Le (K its st) (K' its st)) :
    Le (startK c f xs hp K) (startK c f xs hp K') := by
  unfold startK
  repeat' split
  all_goals first
    | exact Le.refl _
    | exact initK_mono c _ _ _ _ _ (fun l => h _ _)
theorem runN_succ (c : Cx) : ∀ n, OLe (runN c n) (runN c (n + 1))
  | 0 => fun f xs hp r h => by simp [runN] at h
  | n + 1 => fun f xs hp => by
    show Le (startK c f xs hp (goC c (runN c n) f n)) (startK c f xs hp (goC c (runN c (n + 1)) f (n + 1)))
    exact startK_mono c f xs hp fun its st => (goC_mono c (runN_succ c n) f n its st).trans (goC_succ c _ f n its st)

noncomputable def run (c : Cx) : Orc := fun f xs hp => lim fun n => runN c n f xs hp
noncomputable def go (c : Cx) (f : FuncId) (its : List It) (st : St) : Option (AV × Hp) := lim fun n => goC c (runN c n) f n its st

theorem run_some {c : Cx} {f : FuncId} {xs : List AV} {hp : Hp} {r : AV × Hp} : run c f xs hp = some r ↔ ∃ n, runN c n f xs hp = some r :=
  lim_some (fun n => runN_succ c n f xs hp) r
theorem go_up (c : Cx) (f : FuncId) (its : List It) (st : St) (n : Nat) : Le (goC c (runN c n) f n its st) (goC c (runN c (n + 1)) f (n + 1) its st) :=
  (goC_mono c (runN_succ c n) f n its st).trans (goC_succ c _ f n its st)
theorem go_some {c : Cx} {f : FuncId} {its : List It} {st : St} {r : AV × Hp} : go c f its st = some r ↔ ∃ n, goC c (runN c n) f n its st = some r :=
  lim_some (go_up c f its st) r

/-! ### what is met in the limit is met at some bound -/
theorem runN_le (c : Cx) {n m : Nat} (h : n ≤ m) : OLe (runN c n) (runN c m) := by
  obtain ⟨d, rfl⟩ := Nat.exists_eq_add_of_le h
  intro f xs hp
  induction d with
  | zero => exact Le.refl _
  | succ d ih => exact (ih (by omega)).trans (runN_succ c (n + d) f xs hp)
theorem goN_le (c : Cx) (f : FuncId) {n m : Nat} (h : n ≤ m) : GLe (goC c (runN c n) f n) (goC c (runN c m) f m) := by
  obtain ⟨d, rfl⟩ := Nat.exists_eq_add_of_le h
  intro its st
  induction d with
  | zero => exact Le.refl _
  | succ d ih => exact (ih (by omega)).trans (go_up c f its st (n + d))

theorem bind_cont {α β : Type} {o : Option α} {f : α → Option β} {fs : Nat → α → Option β} (h : ∀ x r, f x = some r → ∃ n, fs n x = some r) {r : β}
    (hr : o.bind f = some r) : ∃ n, o.bind (fs n) = some r := by
  cases o with
  | none => simp at hr
  | some x => exact h x r hr
theorem callK_cont (c : Cx) (h : Nat) (ti : TI) (f : FuncId) (caps : List AV) (as : List SV) (hp : Hp) {r : SV × BE × Hp}
    (hr : callK c (run c) h ti f caps as hp k3 = some r) : ∃ n, callK c (runN c n) h ti f caps as hp k3 = some r := by
  unfold callK at hr ⊢
  refine bind_cont (fun xs r hr => ?_) hr
  by_cases e : h = 2
  · simp only [if_pos e] at hr ⊢
    obtain ⟨p, hp', hr⟩ := Option.bind_eq_some_iff.mp hr
    obtain ⟨n, hn⟩ := run_some.mp hp'
    exact ⟨n, by rw [hn]; exact hr⟩
  · simp only [if_neg e] at hr ⊢
    obtain ⟨p, hp', hr⟩ := Option.bind_eq_some_iff.mp hr
    obtain ⟨n, hn⟩ := run_some.mp hp'
    exact ⟨n, by rw [hn]; exact hr⟩
theorem coreK_cont (c : Cx) (h : Nat) (o : Oper) (ev : Operand → SV) (gb : Nat → Option (Nat × List AV)) (hp : Hp) {r : SV × BE × Hp}
    (hr : coreK c (run c) h o ev gb hp k3 = some r) : ∃ n, coreK c (runN c n) h o ev gb hp k3 = some r := by
  revert hr
  unfold coreK
  split
  all_goals try exact fun hr => ⟨0, hr⟩
  repeat' split
  all_goals intro hr
  all_goals first
    | exact ⟨0, hr⟩
    | exact callK_cont c _ _ _ _ _ hp hr
    | exact bind_cont (fun p r hr => callK_cont c _ _ _ _ _ hp hr) hr

theorem exec_cont (c : Cx) (f : FuncId) (h : Nat) (o : Oper) (ev : Operand → SV)
    (gb : Nat → Option (Nat × List AV)) (hp : Hp) (its : SV → BE → Hp → List It) (sts : SV → BE → Hp → St) {r : AV × Hp}
    (hr : (coreK c (run c) h o ev gb hp fun s b q => go c f (its s b q) (sts s b q)) = some r) :
    ∃ n, (coreK c (runN c n) h o ev gb hp fun s b q => goC c (runN c n) f n (its s b q) (sts s b q)) = some r := by
  rw [coreK_nat] at hr
  obtain ⟨p, h1, h2⟩ := Option.bind_eq_some_iff.mp hr
  obtain ⟨n, hn⟩ := coreK_cont c h o ev gb hp h1
  obtain ⟨m, hm⟩ := go_some.mp h2
  refine ⟨max n m, ?_⟩
  rw [coreK_nat]
  rw [coreK_mono c (runN_le c (Nat.le_max_left n m)) h o ev gb hp p hn]
  exact goN_le c f (Nat.le_max_right n m) _ _ r hm

theorem opF_cont (c : Cx) (f : FuncId) (r : Nat) (ops : Array Oper) (is : List Nat) (d : Bool) (acc : List (Nat × Fp)) (k : List It) (h i : Nat) (o : Oper) (st : St) {q : AV × Hp}
    (hr : opF c (run c) (go c f) r ops is d acc k h i o st = some q) : ∃ n, opF c (runN c n) (goC c (runN c n) f n) r ops is d acc k h i o st = some q := by
  revert hr
  unfold opF
  split
  · intro hr; cases hr
  · intro hr; exact exec_cont c f _ _ _ _ _ (fun s b hp => _) (fun s b hp => _) hr
  · split
    · intro hr; exact go_some.mp hr
    · intro hr
      refine bind_cont (fun t r hr => ?_) hr
      revert hr
      split
      · intro hr
        cases t
        · exact go_some.mp hr
        · exact exec_cont c f _ _ _ _ _ (fun s b hp => _) (fun s b hp => _) hr
      · intro hr
        cases t
        · exact exec_cont c f _ _ _ _ _ (fun s b hp => _) (fun s b hp => _) hr
        · exact go_some.mp hr
    · intro hr; cases hr
theorem stepF_cont (c : Cx) (f : FuncId) (its : List It) (st : St) {r : AV × Hp} (hr : stepF c (run c) (go c f) f its st = some r) :
    ∃ n, stepF c (runN c n) (goC c (runN c n) f n) f its st = some r := by
  unfold stepF at hr ⊢
  split at hr
  all_goals first
    | exact ⟨0, hr⟩
    | exact go_some.mp hr
    | exact bind_cont (fun v r hr => go_some.mp hr) hr
    | exact bind_cont (fun v r hr => opF_cont c f _ _ _ _ _ _ _ _ _ _ hr) hr
    | skip
  · refine bind_cont (fun v r hr => bind_cont (fun t r hr => ?_) hr) hr
    cases t
    · exact go_some.mp hr
    · exact go_some.mp hr
  · rename_i d acc k
    generalize (!d || drawOk _ acc) = t at hr ⊢
    cases t
    · cases hr
    · exact go_some.mp hr

theorem go_eq (c : Cx) (f : FuncId) (its : List It) (st : St) : go c f its st = stepF c (run c) (go c f) f its st := by
  apply Option.ext
  intro r
  constructor
  · intro h
    obtain ⟨n, hn⟩ := go_some.mp h
    cases n with
    | zero => simp [goC] at hn
    | succ n =>
      have hC : OLe (runN c (n + 1)) (run c) := fun f xs hp r hr => run_some.mpr ⟨n + 1, hr⟩
      have hG : GLe (goC c (runN c (n + 1)) f n) (go c f) := fun its st r hr => go_some.mpr ⟨n + 1, goC_succ c _ f n its st r hr⟩
      exact stepF_mono c hC hG f its st r hn
  · intro h
    obtain ⟨n, hn⟩ := stepF_cont c f its st h
    refine go_some.mpr ⟨n + 1, ?_⟩
    exact stepF_mono c (runN_succ c n) (fun its st => goC_mono c (runN_succ c n) f n its st) f its st r hn

theorem initK_nat {R : Type} (c : Cx) : ∀ (i : Nat) (ts : List TypeId) (xs : List AV) (K : Slots → Option R), initK c i ts xs K = (initK c i ts xs some).bind K
  | _, [], [], _ => rfl
  | i, [], x :: xs, K => by
    simp only [initK]
    rw [initK_nat c (i + 1) [] xs]
    conv => rhs; rw [initK_nat c (i + 1) [] xs]
    simp [Option.bind_assoc]
  | _, _ :: _, [], _ => rfl
  | i, t :: ts, x :: xs, K => by
    simp only [initK]
    split
    · split
      · simp only [Option.bind_assoc]
        congr 1; funext v
        rw [initK_nat c (i + 1) ts xs]
        conv => rhs; rw [initK_nat c (i + 1) ts xs]
        simp [Option.bind_assoc]
      · rw [initK_nat c (i + 1) ts xs]
        conv => rhs; rw [initK_nat c (i + 1) ts xs]
        simp [Option.bind_assoc]
    · rfl
theorem run_eq (c : Cx) (f : FuncId) (xs : List AV) (hp : Hp) : run c f xs hp = startK c f xs hp (go c f) := by
  apply Option.ext
  intro r
  constructor
  · intro h
    obtain ⟨n, hn⟩ := run_some.mp h
    cases n with
    | zero => simp [runN] at hn
    | succ n => exact startK_mono c f xs hp (fun its st r hr => go_some.mpr ⟨n, hr⟩) r hn
  · intro h
    have key : ∃ n, startK c f xs hp (goC c (runN c n) f n) = some r := by
      revert h
      unfold startK
      split
      · split
        · intro h
          rw [initK_nat] at h
          obtain ⟨l, h1, h2⟩ := Option.bind_eq_some_iff.mp h
          obtain ⟨n, hn⟩ := go_some.mp h2
          exact ⟨n, by rw [initK_nat, h1]; exact hn⟩
        · intro h; cases h
      · intro h; cases h
    obtain ⟨n, hn⟩ := key
    exact run_some.mpr ⟨n + 1, hn⟩

/-! ### walking on to the next marked region -/
theorem beq_self (k : Nat) : Nat.beq k k = true := by simp
theorem beq_ne {j k : Nat} (h : j ≠ k) : Nat.beq j k = false := by
  cases hb : Nat.beq j k
  · rfl
  · exact absurd (Nat.eq_of_beq_eq_true hb) h
theorem getB_maskB (b : Boxes) : ∀ (live : List Nat) (k : Nat), getB (maskB b live) k = if k ∈ live then getB b k else none
  | [], k => by simp [maskB, getB]
  | j :: r, k => by
    have ih := getB_maskB b r k
    simp only [maskB]
    split
    · rename_i g cs h
      simp only [getB]
      by_cases e : j = k
      · subst e; simp [h]
      · rw [beq_ne e]; simp only [ih, List.mem_cons]
        have : k ≠ j := fun h => e h.symm
        simp [this]
    · rename_i h
      rw [ih]
      by_cases e : j = k
      · subst e; simp [h]
      · have : k ≠ j := fun h => e h.symm
        simp [this]
theorem maskB_congr (b b' : Boxes) : ∀ (live : List Nat), (∀ k ∈ live, getB b' k = getB b k) → maskB b' live = maskB b live
  | [], _ => rfl
  | j :: r, h => by
    simp only [maskB]
    rw [h j (by simp), maskB_congr b b' r fun k hk => h k (by simp [hk])]
theorem slot_maskS (b : Boxes) (l : Slots) : ∀ (live : List Nat) (k : Nat), slot (maskS b l live) k = if k ∈ live then okLp b (slot l k) else .un
  | [], k => by simp [maskS, slot]
  | j :: r, k => by
    have ih := slot_maskS b l r k
    simp only [maskS]
    by_cases e : j = k
    · subst e
      split
      · rename_i h
        rw [ih]; simp [h]
      · rename_i s h
        simp [slot, beq_self]
    · have e' : k ≠ j := fun h => e h.symm
      split
      · rw [ih]; simp [e']
      · simp [slot, beq_ne e, ih, e']
theorem maskS_congr (b : Boxes) (l l' : Slots) : ∀ (live : List Nat), (∀ k ∈ live, okLp b (slot l' k) = okLp b (slot l k)) → maskS b l' live = maskS b l live
  | [], _ => rfl
  | j :: r, h => by
    simp only [maskS]
    rw [h j (by simp), maskS_congr b l l' r fun k hk => h k (by simp [hk])]
theorem okLp_idem (b : Boxes) (s : SV) : okLp b (okLp b s) = okLp b s := by
  cases s <;> simp only [okLp]
  rename_i k g o
  cases h : getB b k <;> simp [okLp, h]
theorem mask_idem (m : Option (List Nat)) (st : St) : mask m (mask m st) = mask m st := by
  cases m with
  | none => rfl
  | some live =>
    simp only [mask]
    have hB : maskB (maskB st.bx live) live = maskB st.bx live := maskB_congr _ _ _ fun k hk => by rw [getB_maskB, if_pos hk]
    rw [hB]
    congr 1
    refine maskS_congr _ _ _ _ fun k hk => ?_
    rw [slot_maskS, if_pos hk, okLp_idem]
def stopAt (ss : List Nat) : List It → Bool
  | .code (.region r _ _) :: _ => ss.contains r
  | _ => false
def maskAt (c : Cx) (f : FuncId) : List It → St → St
  | .code (.region r _ _) :: _, st => mask (c.M f r) st
  | _, st => st
theorem go_mask (c : Cx) (f : FuncId) (its : List It) (st : St) : go c f its (maskAt c f its st) = go c f its st := by
  unfold maskAt
  split
  · rw [go_eq, go_eq c f _ st]
    simp only [stepF, mask_idem]
  · rfl
noncomputable def walk (c : Cx) (f : FuncId) (ss : List Nat) : Nat → GoT
  | 0 => go c f
  | n + 1 => fun its st => cond (stopAt ss its) (go c f its (maskAt c f its st)) (stepF c (run c) (walk c f ss n) f its st)
theorem walkRun (c : Cx) (f : FuncId) (ss : List Nat) : ∀ n, walk c f ss n = go c f
  | 0 => rfl
  | n + 1 => by
    funext its st
    simp only [walk, walkRun c f ss n]
    cases stopAt ss its
    · exact (go_eq c f its st).symm
    · exact go_mask c f its st
theorem block_eq (c : Cx) (f : FuncId) (ss : List Nat) (n : Nat) (its : List It) (st : St) : go c f its st = stepF c (run c) (walk c f ss n) f its st := by
  rw [walkRun]; exact go_eq c f its st
theorem entry_eq (c : Cx) (f : FuncId) (ss : List Nat) (n : Nat) (xs : List AV) (hp : Hp) : run c f xs hp = startK c f xs hp (walk c f ss n) := by
  rw [walkRun]; exact run_eq c f xs hp

/-- A part of code: 0, 1 of a sequence, of a choice; 0 of a block, a loop. -/
def sub : List Nat → Code → Code
  | [], c => c
  | 0 :: p, .seq a _ => sub p a
  | _ :: p, .seq _ b => sub p b
  | 0 :: p, .cond _ a _ => sub p a
  | _ :: p, .cond _ _ b => sub p b
  | _ :: p, .block _ b => sub p b
  | _ :: p, .loop b => sub p b
  | _, c => c
end Go.Proofs.Ytmnefpfbgadnkaa.AI
