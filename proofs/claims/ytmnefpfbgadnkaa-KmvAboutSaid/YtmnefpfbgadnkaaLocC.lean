/- States as functions; one operation in the order of a region; two that do not clash change places. -/
import Derived.Test.YtmnefpfbgadnkaaLocB
namespace Go.Proofs.Ytmnefpfbgadnkaa.AI
open Go
set_option linter.unusedVariables false
set_option linter.unusedSimpArgs false

structure Vw where
  sl : Nat → SV
  bx : Nat → Option (Nat × List AV)
  hp : Hp
def St.vw (st : St) : Vw := ⟨slot st.sl, getB st.bx, st.hp⟩
def evV (σ : Nat → SV) : Operand → SV
  | .tmp t => σ t
  | x => evS [] x
theorem evV_slot (l : Slots) : evV (slot l) = evS l := by
  funext x; cases x <;> rfl
def dnV (h : Nat) (o : Oper) (σ : Nat → SV) (k : Nat) : SV :=
  match o.op with
  | .extract (.tmp t) i => if k = t then (match σ t with | .tp xs => .tp (match xs[i]? with | some y => xs.set i (ro y) | none => xs) | s => s) else σ k
  | _ => if k ∈ downs h o then (σ k).ro else σ k
def putV (σ : Nat → SV) (d : Option Tmp) (s : SV) (k : Nat) : SV := if d = some k then s else σ k
def setV (β : Nat → Option (Nat × List AV)) (b : BE) (k : Nat) : Option (Nat × List AV) :=
  match b with
  | some (j, g, cs) => if j = k then some (g, cs) else β k
  | none => β k
def fpV (h : Nat) (ops : Array Oper) (o : Oper) (ev : Operand → SV) : Fp :=
  { rs := o.looksAt ops, ws := o.dst.toList ++ downs h o, br := (accB h o ev).1, bw := (accB h o ev).2, hr := (accH h o ev).1, hw := (accH h o ev).2.1, nw := (accH h o ev).2.2 }
theorem fpOf_eq (h : Nat) (ops : Array Oper) (o : Oper) (l : Slots) : fpOf h ops o l = fpV h ops o (evV (slot l)) := by
  rw [evV_slot]; rfl
theorem dnOp_no {h : Nat} {o : Oper} (hno : ∀ t i, o.op ≠ .extract (.tmp t) i) (l : Slots) : dnOp h o l = dnAll (downs h o) l := by
  unfold dnOp
  split
  · rename_i t i hop; exact absurd hop (hno t i)
  · rfl
theorem dnV_no {h : Nat} {o : Oper} (hno : ∀ t i, o.op ≠ .extract (.tmp t) i) (σ : Nat → SV) (k : Nat) : dnV h o σ k = if k ∈ downs h o then (σ k).ro else σ k := by
  unfold dnV
  split
  · rename_i t i hop; exact absurd hop (hno t i)
  · rfl
theorem dn_slot (h : Nat) (o : Oper) (l : Slots) (k : Nat) : slot (dnOp h o l) k = dnV h o (slot l) k := by
  by_cases hop : ∃ t i, o.op = .extract (.tmp t) i
  · obtain ⟨t, i, hop⟩ := hop
    have e1 : dnOp h o l = dnX t i l := by simp only [dnOp, hop]
    have e2 : dnV h o (slot l) k = if k = t then (match slot l t with | .tp xs => .tp (match xs[i]? with | some y => xs.set i (ro y) | none => xs) | s => s) else slot l k := by simp only [dnV, hop] <;> rfl
    rw [e1, e2]
    simp only [dnX]
    cases hx : slot l t with
    | tp xs =>
      simp only
      rw [slot_put]
      by_cases e : t = k
      · subst e; rw [if_pos rfl, if_pos rfl]; rfl
      · have e' : ¬ k = t := fun h => e h.symm
        simp [e, e']
    | _ =>
      simp only
      by_cases e : k = t
      · subst e; simp [hx]
      · simp [e]
  · have hno : ∀ t i, o.op ≠ .extract (.tmp t) i := fun t i e => hop ⟨t, i, e⟩
    rw [dnOp_no hno, dnV_no hno, slot_dnAll]
theorem put_slot (l : Slots) (d : Option Tmp) (s : SV) (k : Nat) : slot (putS l d s) k = putV (slot l) d s k := by
  cases d with
  | none => simp [putS, putV]
  | some d =>
    simp only [putS, putV]
    rw [slot_put]
    by_cases e : d = k
    · subst e; simp
    · have : ¬ some d = some k := fun h => e (Option.some.inj h)
      simp [e]
theorem after_vw (h : Nat) (o : Oper) (st : St) (s : SV) (b : BE) (hp : Hp) : (after h o st s b hp).vw = ⟨putV (dnV h o (slot st.sl)) o.dst s, setV (getB st.bx) b, hp⟩ := by
  unfold St.vw after
  congr 1
  · funext k
    rw [put_slot]
    unfold putV
    rw [dn_slot]
  · funext k
    cases b with
    | none => rfl
    | some q => obtain ⟨j, g, cs⟩ := q; simp only [setV]; rw [getB_put]

section
variable (c : Cx) (C : Orc) (f : FuncId) (r : Nat) (ops : Array Oper)
def vExec (h : Nat) (o : Oper) (v : Vw) : Option (Vw × Fp) :=
  (coreK c C h o (evV v.sl) v.bx v.hp k3).bind fun q => some (⟨putV (dnV h o v.sl) o.dst q.1, setV v.bx q.2.1, q.2.2⟩, fpV h ops o (evV v.sl))
def vSkip (o : Oper) (v : Vw) : Vw × Fp := (⟨putV v.sl o.dst .ud, v.bx, v.hp⟩, fpSkip ops o)
def vOp (i : Nat) (v : Vw) : Option (Vw × Fp) :=
  match ops[i]? with
  | none => none
  | some o => match guarded o ops with
    | none => none
    | some none => vExec c C ops (c.H f r i) o v
    | some (some (g, want)) => match v.sl g with
      | .ud => some (vSkip ops o v)
      | .sv u => (asB u).bind fun t => if t = want then vExec c C ops (c.H f r i) o v else some (vSkip ops o v)
      | _ => none
def vRun : List Nat → Vw → Option (Vw × List (Nat × Fp))
  | [], v => some (v, [])
  | i :: is, v => (vOp c C f r ops i v).bind fun p => (vRun is p.1).bind fun q => some (q.1, (i, p.2) :: q.2)
end

section
variable {c : Cx} {C : Orc} {f : FuncId} {r : Nat} {ops : Array Oper}
theorem setT_vw (st : St) (g : Nat) (b : Bool) (h : slot st.sl g = .sv (.bool b)) : (setT st g b).vw = st.vw := by
  unfold setT St.vw
  congr 1
  funext k
  show slot ((g, .sv (.bool b)) :: st.sl) k = slot st.sl k
  rw [slot_put]
  split
  · rename_i e; subst e; exact h.symm
  · rfl
theorem execF_v {G : GoT} {is : List Nat} {d : Bool} {acc : List (Nat × Fp)} {k : List It} {h i : Nat} {o : Oper} {st : St} {q : AV × Hp} (hr : execF c C G r ops is d acc k h i o st = some q) :
    ∃ st1 F, vExec c C ops h o st.vw = some (st1.vw, F) ∧ G (.ops r ops is d (accP d i F acc) :: k) st1 = some q := by
  unfold execF at hr
  rw [coreK_nat] at hr
  obtain ⟨p, hp, hr⟩ := Option.bind_eq_some_iff.mp hr
  refine ⟨_, _, ?_, hr⟩
  unfold vExec
  show (coreK c C h o (evV (slot st.sl)) (getB st.bx) st.hp k3).bind _ = _
  rw [evV_slot, hp]
  simp only [Option.bind_some]
  rw [after_vw, fpOf_eq]
  rfl
theorem skipF_v {G : GoT} {is : List Nat} {d : Bool} {acc : List (Nat × Fp)} {k : List It} {i : Nat} {o : Oper} {st : St} {q : AV × Hp} (hr : skipF G r ops is d acc k i o st = some q) :
    ∃ st1, vSkip ops o st.vw = (st1.vw, fpSkip ops o) ∧ G (.ops r ops is d (accP d i (fpSkip ops o) acc) :: k) st1 = some q := by
  unfold skipF at hr
  refine ⟨_, ?_, hr⟩
  unfold vSkip St.vw
  congr 2
  funext k
  exact (put_slot _ _ _ k).symm
theorem opF_v {G : GoT} {is : List Nat} {d : Bool} {acc : List (Nat × Fp)} {k : List It} {i : Nat} {o : Oper} {st : St} {q : AV × Hp} (ho : ops[i]? = some o) (hr : opF c C G r ops is d acc k (c.H f r i) i o st = some q) :
    ∃ st1 F, vOp c C f r ops i st.vw = some (st1.vw, F) ∧ G (.ops r ops is d (accP d i F acc) :: k) st1 = some q := by
  unfold opF at hr
  unfold vOp
  rw [ho]
  simp only
  split at hr
  · cases hr
  · rename_i hg
    rw [hg]
    exact execF_v hr
  · rename_i g want hg
    rw [hg]
    simp only
    have hs : st.vw.sl g = slot st.sl g := rfl
    rw [hs]
    split at hr
    · rename_i hud
      rw [hud]
      obtain ⟨st1, h1, h2⟩ := skipF_v hr
      exact ⟨st1, _, by simp only; rw [h1], h2⟩
    · rename_i u hsv
      rw [hsv]
      simp only
      obtain ⟨t, ht, hr⟩ := Option.bind_eq_some_iff.mp hr
      rw [ht]
      simp only [Option.bind_some]
      have hu := asB_some ht
      subst hu
      cases want <;> cases t
      · simp only [cond_false, if_true] at hr ⊢
        obtain ⟨st1, F, h1, h2⟩ := execF_v hr
        rw [setT_vw _ _ _ hsv] at h1
        exact ⟨st1, F, h1, h2⟩
      · simp only [cond_true] at hr ⊢
        obtain ⟨st1, h1, h2⟩ := skipF_v hr
        rw [setT_vw _ _ _ hsv] at h1
        exact ⟨st1, _, by simp [h1], h2⟩
      · simp only [cond_false] at hr ⊢
        obtain ⟨st1, h1, h2⟩ := skipF_v hr
        rw [setT_vw _ _ _ hsv] at h1
        exact ⟨st1, _, by simp [h1], h2⟩
      · simp only [cond_true, if_true] at hr ⊢
        obtain ⟨st1, F, h1, h2⟩ := execF_v hr
        rw [setT_vw _ _ _ hsv] at h1
        exact ⟨st1, F, h1, h2⟩
    · cases hr
/-- The walk through a region's operations. -/
theorem ops_v : ∀ (n : Nat) (is : List Nat) (d : Bool) (acc : List (Nat × Fp)) (k : List It) (st : St) (q : AV × Hp), goC c C f n (.ops r ops is d acc :: k) st = some q →
    ∃ n' st' accs, n' < n ∧ vRun c C f r ops is st.vw = some (st'.vw, accs) ∧ (d = true → drawOk ops (accs.reverse ++ acc) = true) ∧ goC c C f n' k st' = some q
  | 0, _, _, _, _, _, _, h => by simp [goC] at h
  | n + 1, [], d, acc, k, st, q, h => by
    simp only [goC, stepF] at h
    cases ht : (!d || drawOk ops acc) with
    | false => rw [ht] at h; cases h
    | true =>
      rw [ht] at h
      exact ⟨n, st, [], Nat.lt_succ_self n, rfl, fun hd => by subst hd; simpa using ht, h⟩
  | n + 1, i :: is, d, acc, k, st, q, h => by
    simp only [goC, stepF] at h
    obtain ⟨o, ho, h⟩ := Option.bind_eq_some_iff.mp h
    obtain ⟨st1, F, h1, h2⟩ := opF_v ho h
    obtain ⟨n', st', accs, h3, h4, h5, h6⟩ := ops_v n is d _ k st1 q h2
    refine ⟨n', st', (i, F) :: accs, by omega, ?_, fun hd => ?_, h6⟩
    · simp only [vRun, h1, Option.bind_some, h4]
    · have := h5 hd
      subst hd
      simpa [accP] using this
end
end Go.Proofs.Ytmnefpfbgadnkaa.AI
