/- What an operation depends on: memory. -/
import Derived.Test.YtmnefpfbgadnkaaLocA
namespace Go.Proofs.Ytmnefpfbgadnkaa.AI
open Go
set_option linter.unusedVariables false
set_option linter.unusedSimpArgs false

section
variable {c : Cx} {C : Orc} {h : Nat} {ev : Operand → SV}
theorem hp_ext {a b : Hp} (h1 : a.next = b.next) (h2 : a.get = b.get) : a = b := by
  cases a; cases b; simp only at h1 h2; subst h1; subst h2; rfl
theorem rd_get {a b : Hp} (h : a.get = b.get) : a.rd = b.rd := by
  funext x y; simp only [Hp.rd, h]
theorem put_get' {a b : Hp} (h : a.get = b.get) (x g : Nat) (cs : List AV) : (a.put x g cs).get = (b.put x g cs).get := by
  simp only [Hp.put, h]
theorem loc_load {o : Oper} {t : TypeId} {x : Operand} (hop : o.op = .load t x) {gb gb' : Nat → Option (Nat × List AV)} {hp hp' : Hp} {r : SV × BE × Hp} (hr : coreK c C h o ev gb hp k3 = some r)
    (hb : ∀ k, (accB h o ev).1 = some k ∨ (accB h o ev).2 = some k → gb' k = gb k) (hA : (accH h o ev).1 = true ∨ (accH h o ev).2.1 = true → hp'.get = hp.get) : LocM c C h o ev gb gb' hp hp' r := by
  have e1 : ∀ gb hp, coreK c C h o ev gb hp k3 = (match c.tn t with | some ti => loadOpK h ti (ev x) gb hp k3 | none => none) := fun gb hp => by simp only [coreK, hop] <;> rfl
  have eB : accB h o ev = (match ev x with | .lp k _ _ => if h = 1 then (none, some k) else (some k, none) | _ => (none, none)) := by simp only [accB, hop] <;> rfl
  have eH : accH h o ev = (match ev x with | .av _ => (true, h == 1, false) | _ => (false, false, false)) := by simp only [accH, hop] <;> rfl
  unfold LocM
  rw [e1] at hr ⊢
  rw [eH] at hA ⊢
  rw [eB] at hb ⊢
  cases hti : c.tn t with
  | none => rw [hti] at hr; cases hr
  | some ti =>
    rw [hti] at hr
    simp only at hr ⊢
    unfold loadOpK at hr ⊢
    cases hx : ev x with
    | lp k g off =>
      rw [hx] at hr hb
      simp only at hr hb ⊢
      have hg : gb' k = gb k := by
        apply hb
        by_cases h1 : h = 1 <;> simp [h1]
      rw [hg]
      cases hgb : gb k with
      | none => rw [hgb] at hr; cases hr
      | some q =>
        obtain ⟨g', cs⟩ := q
        rw [hgb] at hr
        simp only at hr ⊢
        by_cases hgg : g = g'
        · simp only [if_pos hgg] at hr ⊢
          rw [loadK_nat] at hr ⊢
          obtain ⟨q, hq, hr⟩ := Option.bind_eq_some_iff.mp hr
          cases hr
          rw [hq]
          refine ⟨rfl, fun _ => rfl, fun _ => rfl, fun k' g' cs' e => ?_⟩
          by_cases h1 : h = 1
          · simp only [h1, if_true] at e ⊢
            cases e; rfl
          · simp only [h1, if_false] at e; cases e
        · simp only [if_neg hgg] at hr; cases hr
    | rv cs =>
      rw [hx] at hr
      simp only at hr ⊢
      by_cases h1 : h = 1
      · simp only [if_pos h1] at hr; cases hr
      · simp only [if_neg h1] at hr ⊢
        rw [loadK_nat] at hr ⊢
        obtain ⟨q, hq, hr⟩ := Option.bind_eq_some_iff.mp hr
        cases hr
        rw [hq]
        exact ⟨rfl, fun _ => rfl, fun _ => rfl, fun _ _ _ e => by cases e⟩
    | av y =>
      rw [hx] at hr hA
      simp only at hr hA ⊢
      have hge : hp'.get = hp.get := hA (.inl trivial)
      obtain ⟨p, hp1, hr⟩ := Option.bind_eq_some_iff.mp hr
      obtain ⟨cs, hcs, hr⟩ := Option.bind_eq_some_iff.mp hr
      rw [hp1, rd_get hge]
      simp only [Option.bind_some, hcs]
      rw [loadK_nat] at hr ⊢
      obtain ⟨q, hq, hr⟩ := Option.bind_eq_some_iff.mp hr
      cases hr
      rw [hq]
      by_cases h1 : h = 1
      · have hne : (h == 1) = true := by simp [h1]
        refine ⟨?_, fun _ => ?_, fun e => ?_, fun _ _ _ e => by cases e⟩
        · simp only [h1, if_true, Option.bind_some, beq_self_eq_true, Bool.false_eq_true, if_false]
          refine congrArg some (congrArg (Prod.mk _) (congrArg (Prod.mk _) (hp_ext rfl (put_get' hge _ _ _))))
        · simp only [if_pos h1]; rfl
        · have e' : (h == 1) = false := e
          rw [hne] at e'; cases e'
      · have hne : (h == 1) = false := by simpa using h1
        refine ⟨?_, fun _ => ?_, fun e => ?_, fun _ _ _ e => by cases e⟩
        · simp only [h1, if_false, Option.bind_some, hne, Bool.false_eq_true]
        · simp only [if_neg h1]
        · simp only [if_neg h1]
    | _ => rw [hx] at hr; cases hr
theorem loc_store {o : Oper} {t : TypeId} {x y : Operand} (hop : o.op = .store t x y) {gb gb' : Nat → Option (Nat × List AV)} {hp hp' : Hp} {r : SV × BE × Hp} (hr : coreK c C h o ev gb hp k3 = some r)
    (hb : ∀ k, (accB h o ev).1 = some k ∨ (accB h o ev).2 = some k → gb' k = gb k) (hA : (accH h o ev).1 = true ∨ (accH h o ev).2.1 = true → hp'.get = hp.get) : LocM c C h o ev gb gb' hp hp' r := by
  have e1 : ∀ gb hp, coreK c C h o ev gb hp k3 = (match c.tn t with | some ti => storeOpK ti (ev x) (ev y) gb hp k3 | none => none) := fun gb hp => by simp only [coreK, hop] <;> rfl
  have eB : accB h o ev = (match ev x with | .lp k _ _ => (none, some k) | _ => (none, none)) := by simp only [accB, hop] <;> rfl
  have eH : accH h o ev = (match ev x with | .av _ => (false, true, false) | _ => (false, false, false)) := by simp only [accH, hop] <;> rfl
  unfold LocM
  rw [e1] at hr ⊢
  rw [eH] at hA ⊢
  rw [eB] at hb ⊢
  cases hti : c.tn t with
  | none => rw [hti] at hr; cases hr
  | some ti =>
    rw [hti] at hr
    simp only at hr ⊢
    unfold storeOpK at hr ⊢
    obtain ⟨vs, hvs, hr⟩ := Option.bind_eq_some_iff.mp hr
    rw [hvs]
    simp only [Option.bind_some]
    cases hx : ev x with
    | lp k g off =>
      rw [hx] at hr hb
      simp only at hr hb ⊢
      have hg : gb' k = gb k := hb k (.inr rfl)
      rw [hg]
      cases hgb : gb k with
      | none => rw [hgb] at hr; cases hr
      | some q =>
        obtain ⟨g', cs⟩ := q
        rw [hgb] at hr
        simp only at hr ⊢
        by_cases hgg : g = g'
        · simp only [if_pos hgg] at hr ⊢
          obtain ⟨q, hq, hr⟩ := Option.bind_eq_some_iff.mp hr
          cases hr
          rw [hq]
          exact ⟨rfl, fun _ => rfl, fun _ => rfl, fun k' g' cs' e => by cases e; rfl⟩
        · simp only [if_neg hgg] at hr; cases hr
    | av z =>
      rw [hx] at hr hA
      simp only at hr hA ⊢
      have hge : hp'.get = hp.get := hA (.inr trivial)
      obtain ⟨p, hp1, hr⟩ := Option.bind_eq_some_iff.mp hr
      obtain ⟨cs, hcs, hr⟩ := Option.bind_eq_some_iff.mp hr
      obtain ⟨q, hq, hr⟩ := Option.bind_eq_some_iff.mp hr
      cases hr
      rw [hp1, rd_get hge]
      simp only [Option.bind_some, hcs, hq, if_true, Bool.false_eq_true, if_false]
      refine ⟨?_, fun _ => rfl, fun e => (by cases e), fun _ _ _ e => by cases e⟩
      exact congrArg some (congrArg (Prod.mk _) (congrArg (Prod.mk _) (hp_ext rfl (put_get' hge _ _ _))))
    | _ => rw [hx] at hr; cases hr
theorem new_ext {a b : Hp} (h1 : a.next = b.next) (h2 : a.get = b.get) (cs : List AV) : a.new cs = b.new cs := by rw [hp_ext h1 h2]
/-- A variable, an object is made. -/
theorem loc_new {o : Oper} {cs : List AV} {gb gb' : Nat → Option (Nat × List AV)} {hp hp' : Hp} {r : SV × BE × Hp} {W : Option (List AV)}
    (he : ∀ gb hp, coreK c C h o ev gb hp k3 = W.bind fun cs => if h = 2 then k3 (.av (.ptr hp.next 0 0)) none (hp.new cs) else
      match o.dst with
      | some d => let g := match gb d with | some (g, _) => g + 1 | none => 0
        k3 (.lp d g 0) (some (d, g, cs)) hp
      | none => none)
    (eB : accB h o ev = if h = 2 then (none, none) else (none, o.dst)) (eH : accH h o ev = (false, h == 2, h == 2))
    (hr : coreK c C h o ev gb hp k3 = some r) (hb : ∀ k, (accB h o ev).1 = some k ∨ (accB h o ev).2 = some k → gb' k = gb k) (hA : (accH h o ev).1 = true ∨ (accH h o ev).2.1 = true → hp'.get = hp.get)
    (hB : (accH h o ev).2.2 = true → hp'.next = hp.next) : LocM c C h o ev gb gb' hp hp' r := by
  unfold LocM
  rw [he] at hr ⊢
  rw [eH] at hA hB ⊢
  rw [eB] at hb ⊢
  obtain ⟨cs, hcs, hr⟩ := Option.bind_eq_some_iff.mp hr
  rw [hcs]
  simp only [Option.bind_some]
  by_cases h2 : h = 2
  · simp only [h2, if_true, beq_self_eq_true] at hr hA hB ⊢
    cases hr
    have hg := hA (.inr trivial)
    have hn := hB trivial
    refine ⟨?_, fun e => (by cases e), fun e => (by cases e), fun _ _ _ e => by cases e⟩
    show some (SV.av (.ptr hp'.next 0 0), (none : BE), hp'.new cs) = some (SV.av (.ptr hp.next 0 0), none, ⟨(hp.new cs).next, (hp.new cs).get⟩)
    rw [hp_ext hn hg]
  · have hne : (h == 2) = false := by simpa using h2
    simp only [if_neg h2, hne, Bool.false_eq_true, if_false] at hr hb ⊢
    cases hd : o.dst with
    | none => rw [hd] at hr; cases hr
    | some d =>
      rw [hd] at hr hb
      simp only at hr hb ⊢
      have hg := hb d (.inr rfl)
      rw [hg]
      cases hr
      exact ⟨rfl, fun _ => rfl, fun _ => rfl, fun k g cs e => by cases e; rfl⟩
theorem loc_callK {ti : TI} {f : FuncId} {caps : List AV} {as : List SV} {hp hp' : Hp} {r : SV × BE × Hp} (hr : callK c C h ti f caps as hp k3 = some r) (hA : h = 2 → hp'.get = hp.get) (hB : hp'.next = hp.next) :
    callK c C h ti f caps as hp' k3 = some (r.1, r.2.1, ⟨r.2.2.next, if h = 2 then r.2.2.get else hp'.get⟩) ∧ (h ≠ 2 → r.2.2.get = hp.get) ∧ r.2.1 = none := by
  unfold callK at hr ⊢
  obtain ⟨xs, hxs, hr⟩ := Option.bind_eq_some_iff.mp hr
  rw [hxs]
  simp only [Option.bind_some]
  by_cases h2 : h = 2
  · simp only [if_pos h2] at hr ⊢
    rw [hp_ext hB (hA h2)]
    obtain ⟨p, hp1, hr⟩ := Option.bind_eq_some_iff.mp hr
    rw [hp1]
    simp only [Option.bind_some]
    rw [resK_nat] at hr ⊢
    obtain ⟨s, hs, hr⟩ := Option.bind_eq_some_iff.mp hr
    cases hr
    rw [hs]
    exact ⟨rfl, fun e => absurd h2 e, rfl⟩
  · simp only [if_neg h2] at hr ⊢
    have he : hp'.emp = hp.emp := by unfold Hp.emp; rw [hB]
    rw [he]
    obtain ⟨p, hp1, hr⟩ := Option.bind_eq_some_iff.mp hr
    rw [hp1]
    simp only [Option.bind_some]
    rw [resK_nat] at hr ⊢
    obtain ⟨s, hs, hr⟩ := Option.bind_eq_some_iff.mp hr
    cases hr
    rw [hs]
    exact ⟨rfl, fun _ => rfl, rfl⟩
theorem coreK_loc {o : Oper} {gb gb' : Nat → Option (Nat × List AV)} {hp hp' : Hp} {r : SV × BE × Hp} (hr : coreK c C h o ev gb hp k3 = some r)
    (hb : ∀ k, (accB h o ev).1 = some k ∨ (accB h o ev).2 = some k → gb' k = gb k) (hA : (accH h o ev).1 = true ∨ (accH h o ev).2.1 = true → hp'.get = hp.get)
    (hB : (accH h o ev).2.2 = true → hp'.next = hp.next) : LocM c C h o ev gb gb' hp hp' r := by
  have pure : accH h o ev = (false, false, false) → (match o.op with | .load _ _ => False | .store _ _ _ => False | .alloc _ => False | .box _ _ => False | .makeSlice _ _ _ => False | .call cl => (match cl.callee with | .builtin _ => True | _ => False) | _ => True) → LocM c C h o ev gb gb' hp hp' r := by
    intro hH hop
    obtain ⟨Z, hz⟩ := coreK_pure (c := c) (C := C) (h := h) (ev := ev) hop
    exact locM_pure hH hz hr
  cases hop : o.op
  case load t x => exact loc_load hop hr hb hA
  case store t x y => exact loc_store hop hr hb hA
  case alloc t =>
    refine loc_new (cs := []) (W := (c.tn t).map fun ti => zeroA ti.zero) (fun gb hp => ?_) (by simp only [accB, hop]) (by simp only [accH, hop]) hr hb hA hB
    simp only [coreK, hop]
    cases c.tn t <;> rfl
  case box t x =>
    refine loc_new (cs := []) (W := (c.tn t).bind fun ti => (valC ti.size (ev x)).map fun vs => vs.map ro1) (fun gb hp => ?_) (by simp only [accB, hop]) (by simp only [accH, hop]) hr hb hA hB
    simp only [coreK, hop]
    cases c.tn t with
    | none => rfl
    | some ti =>
      simp only [Option.bind_some]
      cases valC ti.size (ev x) <;> rfl
  case makeSlice t l m =>
    have eH : accH h o ev = (false, h == 2, h == 2) := by simp only [accH, hop]
    have eB : accB h o ev = (none, none) := by simp only [accB, hop]
    have key : ∃ W : Option (Nat × List AV × Nat), ∀ gb hp, coreK c C h o ev gb hp k3 = W.bind fun q => if h = 2 then k3 (.av (.ms hp.next 0 0 q.1)) none (hp.new q.2.1) else k3 (.av (.us q.2.2 q.2.1)) none hp := by
      cases hti : c.tn t with
      | none => exact ⟨none, fun gb hp => by simp only [coreK, hop, hti]; rfl⟩
      | some ti =>
        cases hk : ti.k with
        | sl e =>
          cases hei : c.tn e with
          | none => exact ⟨none, fun gb hp => by simp only [coreK, hop, hti, hk, hei]; rfl⟩
          | some ei =>
            refine ⟨(asSV (ev l)).bind fun lv => (asSV (ev m)).bind fun mv => (asI lv).bind fun n => (asI mv).bind fun n' =>
              if n = n' ∧ 0 ≤ n ∧ fits ei.bytes 1 n.toNat = true ∧ 0 < ei.size then some (n.toNat, (List.replicate n.toNat (zeroA ei.zero)).flatten, ei.size) else none, fun gb hp => ?_⟩
            simp only [coreK, hop, hti, hk, hei, Option.bind_assoc]
            congr 1; funext lv; congr 1; funext mv; congr 1; funext n; congr 1; funext n'
            split
            · simp only [Option.bind_some]
            · rfl
        | _ => exact ⟨none, fun gb hp => by simp only [coreK, hop, hti, hk]; rfl⟩
    obtain ⟨W, he⟩ := key
    unfold LocM
    rw [he] at hr ⊢
    rw [eH] at hA hB ⊢
    rw [eB] at hb ⊢
    obtain ⟨q, hq, hr⟩ := Option.bind_eq_some_iff.mp hr
    rw [hq]
    simp only [Option.bind_some]
    by_cases h2 : h = 2
    · simp only [h2, if_true, beq_self_eq_true] at hr hA hB ⊢
      cases hr
      rw [hp_ext (hB trivial) (hA (.inr trivial))]
      exact ⟨rfl, fun e => (by cases e), fun e => (by cases e), fun _ _ _ e => by cases e⟩
    · have hne : (h == 2) = false := by simpa using h2
      simp only [if_neg h2, hne, Bool.false_eq_true, if_false] at hr ⊢
      cases hr
      exact ⟨rfl, fun _ => rfl, fun _ => rfl, fun _ _ _ e => by cases e⟩
  case call cl =>
    cases hcl : cl.callee with
    | builtin b => exact pure (by simp only [accH, hop, hcl]) (by simp only [hop, hcl])
    | invoke x n => simp only [coreK, hop, hcl] at hr; cases hr
    | value f =>
      have eH : accH h o ev = (h == 2, h == 2, true) := by simp only [accH, hop, hcl]
      have eB : accB h o ev = (none, none) := by simp only [accB, hop]
      have key : (∃ ti g caps, ∀ hp gb, coreK c C h o ev gb hp k3 = callK c C h ti g caps (cl.args.toList.map ev) hp k3) ∨ ∃ Z : Option SV, ∀ gb hp, coreK c C h o ev gb hp k3 = Z.bind fun s => some (s, none, hp) := by
        cases f with
        | tmp t =>
          cases hti : c.tt o.type with
          | none => exact .inr ⟨none, fun gb hp => by simp only [coreK, hop, hcl, hti]; rfl⟩
          | some ti =>
            cases hx : ev (.tmp t) with
            | av x =>
              cases hf : getFn x with
              | none => exact .inr ⟨none, fun gb hp => by simp only [coreK, hop, hcl, hti, hx, hf]; rfl⟩
              | some p => exact .inl ⟨ti, p.1, p.2, fun hp gb => by simp only [coreK, hop, hcl, hti, hx, hf]; rfl⟩
            | _ => exact .inr ⟨none, fun gb hp => by simp only [coreK, hop, hcl, hti, hx]; rfl⟩
        | func g =>
          cases hF : c.F g with
          | none => exact .inr ⟨none, fun gb hp => by simp only [coreK, hop, hcl, hF]; rfl⟩
          | some fn =>
            cases hti : c.tt o.type with
            | none => exact .inr ⟨none, fun gb hp => by simp only [coreK, hop, hcl, hF, hti]; rfl⟩
            | some ti =>
              cases hb' : fn.body with
              | some b => exact .inl ⟨ti, g, [], fun hp gb => by simp only [coreK, hop, hcl, hF, hti, hb']⟩
              | none => exact .inr ⟨(toVs (cl.args.toList.map ev)).bind fun vs => (one (c.X g vs)).bind fun z => some (.sv z), fun gb hp => by
                  simp only [coreK, hop, hcl, hF, hti, hb', Option.bind_assoc]; rfl⟩
        | const v => exact .inr ⟨none, fun gb hp => by simp only [coreK, hop, hcl]; rfl⟩
        | global g => exact .inr ⟨none, fun gb hp => by simp only [coreK, hop, hcl]; rfl⟩
      unfold LocM
      rw [eH] at hA hB ⊢
      rw [eB]
      have hn : hp'.next = hp.next := hB rfl
      rcases key with ⟨ti, g, caps, he⟩ | ⟨Z, hz⟩
      · rw [he] at hr ⊢
        obtain ⟨a1, a2, a3⟩ := loc_callK hr (fun h2 => hA (.inl (by simp [h2]))) hn
        rw [a1]
        by_cases h2 : h = 2
        · simp only [h2, if_true, beq_self_eq_true]
          exact ⟨by trivial, fun e => (by cases e), fun e => (by cases e), fun k g cs e => by rw [a3] at e; cases e⟩
        · have hne : (h == 2) = false := by simpa using h2
          simp only [if_neg h2, hne, Bool.false_eq_true, if_false, if_true]
          exact ⟨trivial, fun e => (by cases e), fun _ => a2 h2, fun k g cs e => by rw [a3] at e; cases e⟩
      · rw [hz] at hr ⊢
        obtain ⟨s, hs, hr⟩ := Option.bind_eq_some_iff.mp hr
        cases hr
        rw [hs]
        simp only [Option.bind_some, if_true]
        refine ⟨?_, fun e => (by cases e), fun _ => trivial, fun k g cs e => by cases e⟩
        refine congrArg some (congrArg (Prod.mk _) (congrArg (Prod.mk _) (hp_ext hn ?_)))
        show hp'.get = if (h == 2) = true then hp.get else hp'.get
        by_cases h2 : h = 2
        · have : (h == 2) = true := by simp [h2]
          rw [if_pos this]; exact hA (.inl this)
        · have : ¬ (h == 2) = true := by simp [h2]
          rw [if_neg this]
  all_goals exact pure (by simp only [accH, hop]) (by simp only [hop])
end
end Go.Proofs.Ytmnefpfbgadnkaa.AI
