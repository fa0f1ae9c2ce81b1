/- The abstract machine without a bound on its steps ('run', 'go'), and the one-step equations that these meet. -/
import Derived.Test.YtmnefpfbgadnkaaMach
namespace Go.Proofs.Ytmnefpfbgadnkaa.AI
open Go
set_option linter.unusedVariables false
set_option linter.unusedSimpArgs false

def Le {α : Type} (a b : Option α) : Prop := ∀ r, a = some r → b = some r
theorem Le.refl {α : Type} (a : Option α) : Le a a := fun _ h => h
theorem Le.trans {α : Type} {a b c : Option α} (h : Le a b) (h' : Le b c) : Le a c := fun r hr => h' r (h r hr)

abbrev k3 : Kt (SV × BE × Hp) := fun s b hp => some (s, b, hp)

section nat
variable {R : Type}
theorem bind_nat {α β : Type} (o : Option α) (f : α → Option β) (K : β → Option R) : o.bind (fun a => (f a).bind K) = (o.bind f).bind K := by cases o <;> rfl

theorem loadK_nat (ti : TI) (h : Nat) (cs : List AV) (off : Nat) (K : SV → List AV → Option R) :
    loadK ti h cs off K = (loadK ti h cs off fun s c => some (s, c)).bind fun p => K p.1 p.2 := by
  unfold loadK
  repeat' split
  all_goals simp [Option.bind_assoc]
theorem resK_nat (ti : TI) (r : AV) (K : SV → Option R) : resK ti r K = (resK ti r some).bind K := by
  unfold resK
  repeat' split
  all_goals simp [Option.bind_assoc]
theorem loadOpK_nat (h : Nat) (ti : TI) (a : SV) (gb : Nat → Option (Nat × List AV)) (hp : Hp) (K : Kt R) :
    loadOpK h ti a gb hp K = (loadOpK h ti a gb hp k3).bind fun p => K p.1 p.2.1 p.2.2 := by
  unfold loadOpK
  repeat' split
  all_goals first
    | (rw [loadK_nat]; conv => rhs; rw [loadK_nat]
       simp [Option.bind_assoc])
    | (simp only [Option.bind_assoc]; congr 1; funext p; congr 1; funext cs; rw [loadK_nat]; conv => rhs; rw [loadK_nat]
       simp [Option.bind_assoc])
    | simp
theorem storeOpK_nat (ti : TI) (a x : SV) (gb : Nat → Option (Nat × List AV)) (hp : Hp) (K : Kt R) :
    storeOpK ti a x gb hp K = (storeOpK ti a x gb hp k3).bind fun p => K p.1 p.2.1 p.2.2 := by
  unfold storeOpK
  simp only [Option.bind_assoc]
  congr 1; funext vs
  repeat' split
  all_goals simp [Option.bind_assoc]
theorem fieldAddrK_nat (c : Cx) (ti : TI) (a : SV) (f : Nat) (K : SV → Option R) : fieldAddrK c ti a f K = (fieldAddrK c ti a f some).bind K := by
  unfold fieldAddrK
  repeat' split
  all_goals simp [Option.bind_assoc]
theorem indexAddrK_nat (c : Cx) (h : Nat) (ti : TI) (a i : SV) (K : SV → Option R) : indexAddrK c h ti a i K = (indexAddrK c h ti a i some).bind K := by
  unfold indexAddrK
  repeat' split
  all_goals simp [Option.bind_assoc]
theorem sliceK_nat (c : Cx) (h : Nat) (ti : TI) (t : TypeId) (a : SV) (lo hi mx : Option Value) (K : SV → Option R) :
    sliceK c h ti t a lo hi mx K = (sliceK c h ti t a lo hi mx some).bind K := by
  unfold sliceK
  repeat' split
  all_goals simp [Option.bind_assoc]
theorem convK_nat (c : Cx) (s d : TypeId) (si di : TI) (a : SV) (K : SV → Option R) : convK c s d si di a K = (convK c s d si di a some).bind K := by
  unfold convK
  repeat' split
  all_goals simp [Option.bind_assoc]
theorem binK_nat (c : Cx) (op : BinOp) (t : TypeId) (x y : Operand) (a b : SV) (K : SV → Option R) : binK c op t x y a b K = (binK c op t x y a b some).bind K := by
  unfold binK
  repeat' split
  all_goals simp [Option.bind_assoc]
theorem pickK_nat (c a b : SV) (K : SV → Option R) : pickK c a b K = (pickK c a b some).bind K := by
  unfold pickK
  simp only [Option.bind_assoc]
  congr 1; funext v; congr 1; funext t
  repeat' split
  all_goals first | simp | (cases t <;> simp)
theorem bltK_nat (c : Cx) (h : Nat) (o : Oper) (b : Builtin) (ts : List TypeId) (as : List SV) (K : SV → Option R) : bltK c h o b ts as K = (bltK c h o b ts as some).bind K := by
  unfold bltK
  repeat' split
  all_goals simp [Option.bind_assoc]
theorem callK_nat (c : Cx) (C : Orc) (h : Nat) (ti : TI) (f : FuncId) (caps : List AV) (as : List SV) (hp : Hp) (K : Kt R) :
    callK c C h ti f caps as hp K = (callK c C h ti f caps as hp k3).bind fun p => K p.1 p.2.1 p.2.2 := by
  unfold callK
  simp only [Option.bind_assoc]
  congr 1; funext xs
  split
  · simp only [Option.bind_assoc]
    congr 1; funext p
    rw [resK_nat]; conv => rhs; rw [resK_nat]
    simp [Option.bind_assoc]
  · simp only [Option.bind_assoc]
    congr 1; funext p
    rw [resK_nat]; conv => rhs; rw [resK_nat]
    simp [Option.bind_assoc]

theorem fillK_nat (place : Nat → Option (Nat × Nat)) (ev : Operand → SV) (K : List AV → Option R) : ∀ (l : List (Nat × Operand)) (cs : List AV),
    fillK place ev K l cs = (fillK place ev some l cs).bind K
  | [], cs => rfl
  | (i, x) :: r, cs => by
    unfold fillK
    split
    · rfl
    · simp only [Option.bind_assoc]
      congr 1; funext vs; congr 1; funext cs'
      exact fillK_nat place ev K r cs'

theorem coreK_nat (c : Cx) (C : Orc) (h : Nat) (o : Oper) (ev : Operand → SV) (gb : Nat → Option (Nat × List AV)) (hp : Hp) (K : Kt R) :
    coreK c C h o ev gb hp K = (coreK c C h o ev gb hp k3).bind fun p => K p.1 p.2.1 p.2.2 := by
  unfold coreK
  repeat' split
  all_goals first
    | rfl
    | (simp [Option.bind_assoc]; done)
    | exact loadOpK_nat _ _ _ _ _ _
    | exact storeOpK_nat _ _ _ _ _ _
    | exact callK_nat _ _ _ _ _ _ _ _ _
    | (rw [fillK_nat]; conv => rhs; rw [fillK_nat]
       simp [Option.bind_assoc]; done)
    | (rw [pickK_nat]; conv => rhs; rw [pickK_nat]
       simp [Option.bind_assoc]; done)
    | (rw [binK_nat]; conv => rhs; rw [binK_nat]
       simp [Option.bind_assoc]; done)
    | (rw [convK_nat]; conv => rhs; rw [convK_nat]
       simp [Option.bind_assoc]; done)
    | (rw [fieldAddrK_nat]; conv => rhs; rw [fieldAddrK_nat]
       simp [Option.bind_assoc]; done)
    | (rw [indexAddrK_nat]; conv => rhs; rw [indexAddrK_nat]
       simp [Option.bind_assoc]; done)
    | (rw [bltK_nat]; conv => rhs; rw [bltK_nat]
       simp [Option.bind_assoc]; done)
    | (simp only [Option.bind_assoc]; congr 1; funext cs; rw [loadK_nat]; conv => rhs; rw [loadK_nat]
       simp [Option.bind_assoc]; done)
    | (simp only [Option.bind_assoc]; congr 1; funext l; congr 1; funext u; congr 1; funext m; rw [sliceK_nat]; conv => rhs; rw [sliceK_nat]
       simp [Option.bind_assoc]; done)
    | (simp only [Option.bind_assoc]; congr 1; funext p; exact callK_nat _ _ _ _ _ _ _ _ _)
    | (simp only [Option.bind_assoc]; congr 1; funext l; congr 1; funext u; congr 1; funext m; congr 1; funext q; repeat' split
       all_goals simp)
    | (simp only [Option.bind_assoc]; congr 1; funext l; repeat' split
       all_goals simp)
end nat

/-! ### growing -/
def OLe (C C' : Orc) : Prop := ∀ f xs hp, Le (C f xs hp) (C' f xs hp)
theorem Le.bind {α β : Type} {a b : Option α} {f g : α → Option β} (h : Le a b) (hf : ∀ x, Le (f x) (g x)) : Le (a.bind f) (b.bind g) := by
  intro r hr
  cases a with
  | none => simp at hr
  | some x => rw [h x rfl]; exact hf x r hr
theorem Le.cond {α : Type} {a b a' b' : Option α} {t : Bool} (h : Le a a') (h' : Le b b') : Le (cond t a b) (cond t a' b') := by cases t <;> assumption
theorem callK_mono (c : Cx) {C C' : Orc} (hC : OLe C C') (h : Nat) (ti : TI) (f : FuncId) (caps : List AV) (as : List SV) (hp : Hp) :
    Le (callK c C h ti f caps as hp k3) (callK c C' h ti f caps as hp k3) := by
  unfold callK
  refine Le.bind (Le.refl _) fun xs => ?_
  split
  · exact Le.bind (hC _ _ _) fun p => Le.refl _
  · exact Le.bind (hC _ _ _) fun p => Le.refl _
theorem coreK_mono (c : Cx) {C C' : Orc} (hC : OLe C C') (h : Nat) (o : Oper) (ev : Operand → SV) (gb : Nat → Option (Nat × List AV)) (hp : Hp) :
    Le (coreK c C h o ev gb hp k3) (coreK c C' h o ev gb hp k3) := by
  unfold coreK
  repeat' split
  all_goals first
    | exact Le.refl _
    | exact callK_mono c hC _ _ _ _ _ _
    | exact Le.bind (Le.refl _) fun p => callK_mono c hC _ _ _ _ _ _

/-- What a growing row comes to. -/
noncomputable def lim {α : Type} (s : Nat → Option α) : Option α :=
  open Classical in if h : ∃ n r, s n = some r then s h.choose else none
theorem lim_some {α : Type} {s : Nat → Option α} (hs : ∀ n, Le (s n) (s (n + 1))) (r : α) : lim s = some r ↔ ∃ n, s n = some r := by
  have up : ∀ n m, Le (s n) (s (n + m)) := by
    intro n m
    induction m with
    | zero => exact Le.refl _
    | succ m ih => exact ih.trans (hs (n + m))
  constructor
  · intro h
    unfold lim at h
    split at h
    · exact ⟨_, h⟩
    · cases h
  · rintro ⟨n, hn⟩
    unfold lim
    have h : ∃ n r, s n = some r := ⟨n, r, hn⟩
    rw [dif_pos h]
    obtain ⟨r', hr'⟩ := h.choose_spec
    have a := up n h.choose r hn
    have b := up h.choose n r' hr'
    rw [Nat.add_comm] at b
    rw [a] at b
    cases b
    exact hr'
end Go.Proofs.Ytmnefpfbgadnkaa.AI
