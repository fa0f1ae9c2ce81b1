/- A context from tables: checked by reckoning. -/
import Derived.Test.YtchmioacjkbfcaaGreatMc
namespace Go.Proofs.YtchmioacjkbfcaaGreat.AI
open Go
set_option linter.unusedVariables false
set_option linter.unusedSimpArgs false

inductive Tr (α : Type) where
  | leaf
  | node (k : Nat) (v : α) (l r : Tr α)
def Tr.get {α : Type} : Tr α → Nat → Option α
  | .leaf, _ => none
  | .node k v l r, x => match Nat.beq x k with
    | true => some v
    | false => match Nat.blt x k with
      | true => l.get x
      | false => r.get x
def Tr.all {α : Type} (p : Nat → α → Bool) : Tr α → Bool
  | .leaf => true
  | .node k v l r => p k v && l.all p && r.all p
def Tr.AllP {α : Type} (p : Nat → α → Prop) : Tr α → Prop
  | .leaf => True
  | .node k v l r => p k v ∧ l.AllP p ∧ r.AllP p
theorem Tr.get_all {α : Type} {p : Nat → α → Bool} : ∀ {t : Tr α} {x : Nat} {v : α}, t.all p = true → t.get x = some v → p x v = true
  | .leaf, _, _, _, h => by cases h
  | .node k v l r, x, u, h, hg => by
    simp only [Tr.all, Bool.and_eq_true] at h
    simp only [Tr.get] at hg
    split at hg
    · rename_i e
      cases hg
      rw [Nat.eq_of_beq_eq_true e]; exact h.1.1
    · split at hg
      · exact Tr.get_all h.1.2 hg
      · exact Tr.get_all h.2 hg
theorem Tr.get_allP {α : Type} {p : Nat → α → Prop} : ∀ {t : Tr α} {x : Nat} {v : α}, t.AllP p → t.get x = some v → p x v
  | .leaf, _, _, _, h => by cases h
  | .node k v l r, x, u, h, hg => by
    simp only [Tr.AllP] at h
    simp only [Tr.get] at hg
    split at hg
    · rename_i e
      cases hg
      rw [Nat.eq_of_beq_eq_true e]; exact h.1
    · split at hg
      · exact Tr.get_allP h.2.1 hg
      · exact Tr.get_allP h.2.2 hg

/-! ### types -/
def zeqB : Value → Value → Bool
  | .bool a, .bool b => a == b
  | .int k a, .int k' b => decide (k = k') && decide (a = b)
  | .float k a, .float k' b => decide (k = k') && Nat.beq a b
  | .string a, .string b => decide (a.data.toList = b.data.toList)
  | .pointer none, .pointer none => true
  | .slice none a b, .slice none a' b' => Nat.beq a a' && Nat.beq b b'
  | .map none, .map none => true
  | .nilFunc, .nilFunc => true
  | .nilIface, .nilIface => true
  | _, _ => false
theorem zeqB_eq {a b : Value} (h : zeqB a b = true) : a = b := by
  unfold zeqB at h
  split at h
  · rw [eq_of_beq h]
  · simp only [Bool.and_eq_true, decide_eq_true_eq] at h; rw [h.1, h.2]
  · simp only [Bool.and_eq_true, decide_eq_true_eq] at h; rw [h.1, Nat.eq_of_beq_eq_true h.2]
  · rename_i a b
    obtain ⟨⟨x⟩⟩ := a
    obtain ⟨⟨y⟩⟩ := b
    have h : x = y := of_decide_eq_true h
    rw [h]
  · rfl
  · simp only [Bool.and_eq_true] at h; rw [Nat.eq_of_beq_eq_true h.1, Nat.eq_of_beq_eq_true h.2]
  · rfl
  · rfl
  · rfl
  · cases h
def zsB : List Value → List Value → Bool
  | [], [] => true
  | a :: l, b :: m => zeqB a b && zsB l m
  | _, _ => false
theorem zsB_eq : ∀ {l m : List Value}, zsB l m = true → l = m
  | [], [], _ => rfl
  | a :: l, b :: m, h => by
    simp only [zsB, Bool.and_eq_true] at h
    rw [zeqB_eq h.1, zsB_eq h.2]
  | [], b :: m, h => by cases h
  | a :: l, [], h => by cases h
def dB (d : TypeDesc) (k : TK) : Bool :=
  match k with
  | .sc => !(d matches .struct _ | .array _ _ | .slice _)
  | .ot => !(d matches .struct _ | .array _ _ | .slice _)
  | .tu => true
  | .sl e => match d with | .slice e' => Nat.beq e' e | _ => false
  | .mp q e => match d with | .map q' e' => Nat.beq q' q && Nat.beq e' e | _ => false
  | .ar n e => match d with | .array n' e' => Nat.beq n' n && Nat.beq e' e | _ => false
  | .st fs => match d with | .struct fields => decide (fields.toList.map (fun f => (f.offset, f.type)) = fs) | _ => false
theorem dB_ok {d : TypeDesc} {k : TK} (h : dB d k = true) : DOk d k := by
  cases k with
  | sc => intro x hx; subst hx; cases d <;> first | rfl | cases h
  | ot => intro x hx; subst hx; cases d <;> first | rfl | cases h
  | tu => trivial
  | sl e =>
    simp only [dB] at h
    split at h
    · show _ = _; rw [Nat.eq_of_beq_eq_true h]
    · cases h
  | mp q e =>
    simp only [dB] at h
    split at h
    · simp only [Bool.and_eq_true] at h; show _ = _; rw [Nat.eq_of_beq_eq_true h.1, Nat.eq_of_beq_eq_true h.2]
    · cases h
  | ar n e =>
    simp only [dB] at h
    split at h
    · simp only [Bool.and_eq_true] at h; show _ = _; rw [Nat.eq_of_beq_eq_true h.1, Nat.eq_of_beq_eq_true h.2]
    · cases h
  | st fs =>
    simp only [dB] at h
    split at h
    · exact ⟨_, rfl, of_decide_eq_true h⟩
    · cases h
def isU8D : TypeDesc → Bool
  | .int .u8 => true
  | _ => false
def isStrD : TypeDesc → Bool
  | .string => true
  | _ => false
def tokB (P : Program) (t : TypeId) (ti : TI) : Bool :=
  match P.info? t, P.underlying t with
  | some info, some d => (!isU8 ti || isU8D d) && (!isStr ti || isStrD d) && dB d ti.k && Nat.beq info.bytes ti.bytes &&
    (isTu ti.k || (Nat.beq info.size ti.size && Nat.beq ti.zero.length ti.size && ti.zero.all (·.oneCell') && match info.zero with | some z => zsB z.cells.toList ti.zero | none => false))
  | _, _ => false
theorem isU8D_eq {d : TypeDesc} (h : isU8D d = true) : d = .int .u8 := by
  unfold isU8D at h; split at h
  · rfl
  · cases h
theorem isStrD_eq {d : TypeDesc} (h : isStrD d = true) : d = .string := by
  unfold isStrD at h; split at h
  · rfl
  · cases h
theorem tokB_ok {P : Program} {t : TypeId} {ti : TI} (h : tokB P t ti = true) : TOk P t ti := by
  unfold tokB at h
  split at h
  · rename_i info d h1 h2
    simp only [Bool.and_eq_true, Bool.or_eq_true] at h
    obtain ⟨⟨⟨⟨a1, a2⟩, a3⟩, a4⟩, a5⟩ := h
    refine ⟨fun e => ?_, fun e => ?_, info, d, h1, h2, dB_ok a3, Nat.eq_of_beq_eq_true a4, fun e => ?_⟩
    · rcases a1 with h | h
      · rw [e] at h; cases h
      · rw [h2, isU8D_eq h]
    · rcases a2 with h | h
      · rw [e] at h; cases h
      · rw [h2, isStrD_eq h]
    · rcases a5 with h | ⟨⟨⟨b1, b2⟩, b3⟩, b4⟩
      · rw [e] at h; cases h
      · refine ⟨Nat.eq_of_beq_eq_true b1, ?_⟩
        split at b4
        · rename_i z hz
          exact ⟨z, hz, zsB_eq b4, Nat.eq_of_beq_eq_true b2, fun v hv => List.all_eq_true.mp b3 v hv⟩
        · cases b4
  · cases h

/-- More of what a row says: keys' types, zero values. -/
def isIntD : TypeDesc → Bool
  | .int _ => true
  | _ => false
def isBooD : TypeDesc → Bool
  | .bool => true
  | _ => false
def isAggV : Value → Bool
  | .agg _ => true
  | _ => false
def isPtD : TypeDesc → Bool
  | .pointer _ => true
  | _ => false
def tok2B (P : Program) (t : TypeId) (ti : TI) : Bool :=
  match P.info? t, P.underlying t with
  | some info, some d => (!isInt ti || isIntD d) && (!isBoo ti || isBooD d) && (!isPt ti || isPtD d) && (isTu ti.k || match info.zero with | some z => cond (isAg ti.k) (isAggV z) z.oneCell' | none => true)
  | _, _ => false
theorem tok2_int {P : Program} {t : TypeId} {ti : TI} (h : tok2B P t ti = true) (hi : isInt ti = true) : ∃ k, P.underlying t = some (.int k) := by
  unfold tok2B at h
  split at h
  · rename_i info d h1 h2
    simp only [Bool.and_eq_true, Bool.or_eq_true, hi, Bool.not_true, Bool.false_eq_true, false_or] at h
    have := h.1.1.1
    cases d <;> first | exact ⟨_, h2⟩ | cases this
  · cases h
theorem tok2_boo {P : Program} {t : TypeId} {ti : TI} (h : tok2B P t ti = true) (hi : isBoo ti = true) : P.underlying t = some .bool := by
  unfold tok2B at h
  split at h
  · rename_i info d h1 h2
    simp only [Bool.and_eq_true, Bool.or_eq_true, hi, Bool.not_true, Bool.false_eq_true, false_or] at h
    have := h.1.1.2
    cases d <;> first | exact h2 | cases this
  · cases h
theorem tok2_ptr {P : Program} {t : TypeId} {ti : TI} (h : tok2B P t ti = true) (hi : isPt ti = true) : ∃ e, P.underlying t = some (.pointer e) := by
  unfold tok2B at h
  split at h
  · rename_i info d h1 h2
    simp only [Bool.and_eq_true, Bool.or_eq_true, hi, Bool.not_true, Bool.false_eq_true, false_or] at h
    have := h.1.2
    cases d <;> first | exact ⟨_, h2⟩ | cases this
  · cases h
theorem tok2_zero {P : Program} {t : TypeId} {ti : TI} (h : tok2B P t ti = true) (hk : isTu ti.k = false) {info : TypeInfo} {z : Value} (hi : P.info? t = some info) (hz : info.zero = some z) :
    (isAg ti.k = true → ∃ vs, z = .agg vs) ∧ (isAg ti.k = false → z.oneCell' = true) := by
  unfold tok2B at h
  split at h
  · rename_i info' d h1 h2
    rw [hi] at h1; cases h1
    simp only [Bool.and_eq_true, hk, Bool.false_or, hz] at h
    have := h.2
    constructor
    · intro e
      rw [e] at this
      cases z <;> first | exact ⟨_, rfl⟩ | cases this
    · intro e
      rw [e] at this
      exact this
  · cases h

/-! ### functions -/
def fnB (fn : Func) : Bool := !(fn.name == "runtime.NumGoroutine") && match fn.body with | some b => dstB fn.ntmps b | none => true
def FnP (P : Program) (f : Nat) (fn : Func) : Prop := P.funcs[f]? = some fn ∧ fnB fn = true
def lkH : List (Nat × Nat × Nat) → Nat → Nat → Nat
  | [], _, _ => 0
  | (a, b, h) :: l, r, i => match Nat.beq a r && Nat.beq b i with | true => h | false => lkH l r i
def lkM : List (Nat × List Nat) → Nat → Option (List Nat)
  | [], _ => none
  | (a, m) :: l, r => match Nat.beq a r with | true => some m | false => lkM l r
def extX (P : Program) (f : FuncId) (vs : List Value) : Option Value :=
  (pureOf P (callFunc f vs.toArray)).bind fun n => match n with
    | .value v => some v
    | _ => none
def mkCx (P : Program) (T : Tr TI) (F : Tr Func) (H : Tr (List (Nat × Nat × Nat))) (M : Tr (List (Nat × List Nat))) : Cx :=
  ⟨P, T.get, F.get, extX P, fun f => match H.get f with | some l => lkH l | none => fun _ _ => 0, fun f => match M.get f with | some l => lkM l | none => fun _ => none⟩
theorem mkOk {P : Program} {T : Tr TI} {F : Tr Func} {H : Tr (List (Nat × Nat × Nat))} {M : Tr (List (Nat × List Nat))} (hT : T.all (tokB P) = true) (hT2 : T.all (tok2B P) = true) (hF : F.AllP (FnP P)) (hm : P.follows .mixedOrders = true) :
    Ok (mkCx P T F H M) ∧ DstOk (mkCx P T F H M) := by
  refine ⟨⟨fun t ti h => tokB_ok (Tr.get_all hT h), fun t ti h => tok2_int (Tr.get_all hT2 h), fun t ti h => tok2_boo (Tr.get_all hT2 h), fun t ti h => tok2_ptr (Tr.get_all hT2 h), fun t ti h hk info z hi hz => tok2_zero (Tr.get_all hT2 h) hk hi hz, fun f fn h => (Tr.get_allP hF h).1, fun f fn h => ?_, fun f fn vs v h hb hX w => ?_, hm⟩, fun f fn b h hb => ?_⟩
  · have := (Tr.get_allP hF h).2
    simp only [fnB, Bool.and_eq_true, Bool.not_eq_true'] at this
    exact this.1
  · have hX : extX P f vs = some v := hX
    unfold extX at hX
    obtain ⟨n, hn, hX⟩ := Option.bind_eq_some_iff.mp hX
    have hr := pureOf_run hn w
    split at hX
    · cases hX; exact hr
    · cases hX
  · have := (Tr.get_allP hF h).2
    simp only [fnB, Bool.and_eq_true, hb] at this
    exact this.2
end Go.Proofs.YtchmioacjkbfcaaGreat.AI
