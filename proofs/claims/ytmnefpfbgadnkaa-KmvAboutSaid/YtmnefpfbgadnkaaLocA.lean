/- What an operation depends on: its operands, the variable and the objects that it names. -/
import Derived.Test.YtmnefpfbgadnkaaOpQ
import Derived.Orders
namespace Go.Proofs.Ytmnefpfbgadnkaa.AI
open Go
set_option linter.unusedVariables false
set_option linter.unusedSimpArgs false

section
variable {c : Cx} {C : Orc} {h : Nat} {ev ev' : Operand → SV}
theorem fillK_ev {R : Type} (place : Nat → Option (Nat × Nat)) (K : List AV → Option R) : ∀ (l : List (Nat × Operand)) (cs : List AV), (∀ p ∈ l, ev p.2 = ev' p.2) → fillK place ev K l cs = fillK place ev' K l cs
  | [], cs, _ => rfl
  | (i, x) :: r, cs, hl => by
    simp only [fillK]
    rw [hl (i, x) (by simp)]
    split
    · rfl
    · congr 1; funext vs; congr 1; funext cs'
      exact fillK_ev place K r cs' fun p hp => hl p (by simp [hp])
theorem opV_ev (x : Option Operand) (hx : ∀ y, x = some y → ev y = ev' y) : opV ev x = opV ev' x := by
  cases x with
  | none => rfl
  | some y => simp only [opV]; rw [hx y rfl]
theorem map_ev {l : List Operand} (hl : ∀ x ∈ l, ev x = ev' x) : l.map ev = l.map ev' := List.map_congr_left hl
theorem coreK_ev {R : Type} {o : Oper} {gb : Nat → Option (Nat × List AV)} {hp : Hp} {K : Kt R} (h1 : ∀ x ∈ o.op.operands.toList, ev x = ev' x) :
    coreK c C h o ev gb hp K = coreK c C h o ev' gb hp K := by
  obtain ⟨dst, op, type, pos, after, guard⟩ := o
  cases op <;> simp only [Op.operands] at h1
  case build t ps =>
    simp only [coreK]
    have hps : ∀ p ∈ ps.toList, ev p.2 = ev' p.2 := fun p hp => h1 _ (List.mem_map.mpr ⟨p, hp, rfl⟩)
    simp only [fillK_ev _ _ ps.toList _ hps]
  case buildSlice t n ps =>
    simp only [coreK]
    have hps : ∀ p ∈ ps.toList, ev p.2 = ev' p.2 := fun p hp => h1 _ (List.mem_map.mpr ⟨p, hp, rfl⟩)
    simp only [fillK_ev _ _ ps.toList _ hps]
  case makeFunc fn first captured =>
    cases fn <;> simp only [coreK]
    rw [map_ev (l := captured.toList) fun x hx => h1 x (by simp at hx ⊢; exact .inr hx)]
  case slice t x lo hi mx =>
    simp only [coreK]
    rw [h1 x (by simp), opV_ev lo (fun y hy => h1 y (by subst hy; simp)), opV_ev hi (fun y hy => h1 y (by subst hy; simp)), opV_ev mx (fun y hy => h1 y (by subst hy; simp))]
  case call cl =>
    have ha : cl.args.toList.map ev = cl.args.toList.map ev' := map_ev fun x hx => h1 x (by simp [Call.operands]; exact .inr (by simpa using hx))
    cases hc : cl.callee with
    | builtin b => simp only [coreK, hc, ha]
    | invoke r n => simp only [coreK, hc]
    | value f =>
      cases f with
      | tmp t =>
        have := h1 (.tmp t) (by simp [Call.operands, hc])
        simp only [coreK, hc, ha, this]
      | func f => simp only [coreK, hc, ha]
      | const v => simp only [coreK, hc]
      | global g => simp only [coreK, hc]
  all_goals simp only [coreK]
  all_goals (first | rfl | (simp only [List.mem_cons, List.not_mem_nil, or_false, forall_eq_or_imp, forall_eq] at h1; (try obtain ⟨h1, h2⟩ := h1); (try obtain ⟨h2, h3⟩ := h2); simp only [*]))
theorem acc_ev {o : Oper} (h1 : ∀ x ∈ o.op.operands.toList, ev x = ev' x) : accB h o ev = accB h o ev' ∧ accH h o ev = accH h o ev' := by
  obtain ⟨dst, op, type, pos, after, guard⟩ := o
  cases op <;> simp only [Op.operands] at h1 <;> simp only [accB, accH] <;> try exact ⟨trivial, trivial⟩
  case load t x => rw [h1 x (by simp)]; exact ⟨rfl, rfl⟩
  case store t x y => rw [h1 x (by simp)]; exact ⟨rfl, rfl⟩

/-! ### memory -/
/-- What is said of an operation's use of memory. -/
def LocM (c : Cx) (C : Orc) (h : Nat) (o : Oper) (ev : Operand → SV) (gb gb' : Nat → Option (Nat × List AV)) (hp hp' : Hp) (r : SV × BE × Hp) : Prop :=
  coreK c C h o ev gb' hp' k3 = some (r.1, r.2.1, ⟨if (accH h o ev).2.2 = true then r.2.2.next else hp'.next, if (accH h o ev).2.1 = true then r.2.2.get else hp'.get⟩) ∧
  ((accH h o ev).2.2 = false → r.2.2.next = hp.next) ∧ ((accH h o ev).2.1 = false → r.2.2.get = hp.get) ∧ ∀ k g cs, r.2.1 = some (k, g, cs) → (accB h o ev).2 = some k
theorem hp_eta (hp : Hp) : (⟨hp.next, hp.get⟩ : Hp) = hp := rfl
/-- An operation that leaves memory alone. -/
theorem locM_pure {o : Oper} {gb gb' : Nat → Option (Nat × List AV)} {hp hp' : Hp} {r : SV × BE × Hp} {Z : Option SV} (hH : accH h o ev = (false, false, false))
    (hz : ∀ gb hp, coreK c C h o ev gb hp k3 = Z.bind fun s => some (s, none, hp)) (hr : coreK c C h o ev gb hp k3 = some r) : LocM c C h o ev gb gb' hp hp' r := by
  rw [hz] at hr
  obtain ⟨s, hs, hr⟩ := Option.bind_eq_some_iff.mp hr
  cases hr
  unfold LocM
  rw [hz, hs, hH]
  exact ⟨rfl, fun _ => rfl, fun _ => rfl, fun _ _ _ e => by cases e⟩
theorem coreK_pure {o : Oper} (hop : match o.op with | .load _ _ => False | .store _ _ _ => False | .alloc _ => False | .box _ _ => False | .makeSlice _ _ _ => False | .call cl => (match cl.callee with | .builtin _ => True | _ => False) | _ => True) :
    ∃ Z : Option SV, ∀ gb hp, coreK c C h o ev gb hp k3 = Z.bind fun s => some (s, none, hp) := by
  obtain ⟨dst, op, type, pos, after, guard⟩ := o
  cases op <;> simp only at hop <;> try exact hop.elim
  case move x =>
    cases hti : c.tt type with
    | none => exact ⟨none, fun gb hp => by simp only [coreK, hti]; rfl⟩
    | some ti => exact ⟨some (if h = 1 then nrm ti.k (ev x) else nrm ti.k (ev x).ro), fun gb hp => by simp only [coreK, hti]; rfl⟩
  case assign x =>
    cases hti : c.tt type with
    | none => exact ⟨none, fun gb hp => by simp only [coreK, hti]; rfl⟩
    | some ti => exact ⟨some (nrm ti.k (ev x)), fun gb hp => by simp only [coreK, hti]; rfl⟩
  case pick x y z => exact ⟨pickK (ev x) (ev y) (ev z) some, fun gb hp => by simp only [coreK]; rw [pickK_nat]⟩
  case build t ps =>
    cases hti : c.tn t with
    | none => exact ⟨none, fun gb hp => by simp only [coreK, hti]; rfl⟩
    | some ti =>
      cases hk : ti.k with
      | st fs =>
        by_cases hall : fs.all (fun p => (c.tn p.2).isSome) = true
        · exact ⟨(fillK (placeS c fs) ev some ps.toList (zeroA ti.zero)).bind fun cs => some (.av (.agg (cs.map ro1))), fun gb hp => by
            simp only [coreK, hti, hk, if_pos hall]; rw [fillK_nat]; simp [Option.bind_assoc]⟩
        · exact ⟨none, fun gb hp => by simp only [coreK, hti, hk, if_neg hall]; rfl⟩
      | ar n e =>
        cases hei : c.tn e with
        | none => exact ⟨none, fun gb hp => by simp only [coreK, hti, hk, hei]; rfl⟩
        | some ei => exact ⟨(fillK (fun i => some (i * ei.size, ei.size)) ev some ps.toList (zeroA ti.zero)).bind fun cs => some (.av (.agg (cs.map ro1))), fun gb hp => by
            simp only [coreK, hti, hk, hei]; rw [fillK_nat]; simp [Option.bind_assoc]⟩
      | _ => exact ⟨none, fun gb hp => by simp only [coreK, hti, hk]; rfl⟩
  case buildSlice t n ps =>
    cases hti : c.tn t with
    | none => exact ⟨none, fun gb hp => by simp only [coreK, hti]; rfl⟩
    | some ti =>
      cases hk : ti.k with
      | sl e =>
        cases hei : c.tn e with
        | none => exact ⟨none, fun gb hp => by simp only [coreK, hti, hk, hei]; rfl⟩
        | some ei =>
          by_cases hn : n * ei.size ≤ 4096 ∧ 0 < ei.size
          · exact ⟨(fillK (fun i => some (i * ei.size, ei.size)) ev some ps.toList (List.replicate n (zeroA ei.zero)).flatten).bind fun cs => some (.av (.us ei.size (cs.map ro1))), fun gb hp => by
              simp only [coreK, hti, hk, hei, if_pos hn]; rw [fillK_nat]; simp [Option.bind_assoc]⟩
          · exact ⟨none, fun gb hp => by simp only [coreK, hti, hk, hei, if_neg hn]; rfl⟩
      | _ => exact ⟨none, fun gb hp => by simp only [coreK, hti, hk]; rfl⟩
  case nilCheck x =>
    cases hx : ev x with
    | lp k g off => exact ⟨some (.lp k g off), fun gb hp => by simp only [coreK, hx]; rfl⟩
    | av y => exact ⟨(nnA y).bind fun _ => some (.av y), fun gb hp => by simp only [coreK, hx]; simp [Option.bind_assoc]⟩
    | _ => exact ⟨none, fun gb hp => by simp only [coreK, hx]; rfl⟩
  case binOp op t x y yt => exact ⟨binK c op t x y (ev x) (ev y) some, fun gb hp => by simp only [coreK]; rw [binK_nat]⟩
  case unOp op t x => exact ⟨(asSV (ev x)).bind fun v => (unV c.P op v).bind fun z => some (.sv z), fun gb hp => by simp only [coreK]; simp [Option.bind_assoc]⟩
  case convert s d x =>
    cases hs : c.tn s with
    | none => exact ⟨none, fun gb hp => by simp only [coreK, hs]; rfl⟩
    | some si =>
      cases hd : c.tn d with
      | none => exact ⟨none, fun gb hp => by simp only [coreK, hs, hd]; rfl⟩
      | some di => exact ⟨convK c s d si di (ev x) some, fun gb hp => by simp only [coreK, hs, hd]; rw [convK_nat]⟩
  case makeFunc fn fs cs =>
    cases fn with
    | func f =>
      by_cases hf : fs.toList.isEmpty = true
      · exact ⟨(toAs (cs.toList.map ev)).bind fun xs => if xs.all flatA = true then some (.av (.fn f (xs.map ro1))) else none, fun gb hp => by
          simp only [coreK, if_pos hf, Option.bind_assoc]
          congr 1; funext xs
          split <;> rfl⟩
      · exact ⟨none, fun gb hp => by simp only [coreK, if_neg hf]; rfl⟩
    | _ => exact ⟨none, fun gb hp => rfl⟩
  case slice t x lo hi mx =>
    cases hti : c.tn t with
    | none => exact ⟨none, fun gb hp => by simp only [coreK, hti]; rfl⟩
    | some ti =>
      by_cases hm : (mx.isSome && !hi.isSome) = true
      · exact ⟨none, fun gb hp => by simp only [coreK, hti, if_pos hm]; rfl⟩
      · exact ⟨(opV ev lo).bind fun l => (opV ev hi).bind fun u => (opV ev mx).bind fun m => sliceK c h ti t (ev x) l u m some, fun gb hp => by
          simp only [coreK, hti, if_neg hm, Option.bind_assoc]
          congr 1; funext l; congr 1; funext u; congr 1; funext m
          rw [sliceK_nat]⟩
  case fieldAddr t x f =>
    cases hti : c.tn t with
    | none => exact ⟨none, fun gb hp => by simp only [coreK, hti]; rfl⟩
    | some ti => exact ⟨fieldAddrK c ti (ev x) f some, fun gb hp => by simp only [coreK, hti]; rw [fieldAddrK_nat]⟩
  case field t x f =>
    cases hti : c.tn t with
    | none => exact ⟨none, fun gb hp => by simp only [coreK, hti]; rfl⟩
    | some ti =>
      cases hk : ti.k with
      | st fs =>
        cases hf : fs[f]? with
        | none => exact ⟨none, fun gb hp => by simp only [coreK, hti, hk, hf]; rfl⟩
        | some q =>
          obtain ⟨fo, ft⟩ := q
          cases hfi : c.tn ft with
          | none => exact ⟨none, fun gb hp => by simp only [coreK, hti, hk, hf, hfi]; rfl⟩
          | some fi => exact ⟨(aggC (ev x)).bind fun cs => (loadK fi 0 cs fo fun s l => some (s, l)).bind fun p => some p.1, fun gb hp => by
              simp only [coreK, hti, hk, hf, hfi, Option.bind_assoc]
              congr 1; funext cs; rw [loadK_nat]; rfl⟩
      | _ => exact ⟨none, fun gb hp => by simp only [coreK, hti, hk]; rfl⟩
  case indexAddr t x i =>
    cases hti : c.tn t with
    | none => exact ⟨none, fun gb hp => by simp only [coreK, hti]; rfl⟩
    | some ti => exact ⟨indexAddrK c h ti (ev x) (ev i) some, fun gb hp => by simp only [coreK, hti]; rw [indexAddrK_nat]⟩
  case index t x i =>
    cases hti : c.tt type with
    | none => exact ⟨none, fun gb hp => by simp only [coreK, hti]; rfl⟩
    | some ti =>
      by_cases hs : isSc ti.k = true
      · exact ⟨(concS (ev x)).bind fun a => (asSV (ev i)).bind fun iv => (ixV c.P t a iv).bind fun z => some (.sv z), fun gb hp => by simp only [coreK, hti, if_pos hs]; simp [Option.bind_assoc]⟩
      · exact ⟨none, fun gb hp => by simp only [coreK, hti, if_neg hs]; rfl⟩
  case extract x i =>
    cases hx : ev x with
    | tp l =>
      cases hl : l[i]? with
      | none => exact ⟨none, fun gb hp => by simp only [coreK, hx, hl]; rfl⟩
      | some y =>
        cases hti : c.tt type with
        | none => exact ⟨none, fun gb hp => by simp only [coreK, hx, hl, hti]; rfl⟩
        | some ti =>
          by_cases hs : isSc ti.k = true
          · exact ⟨(asSc y).bind fun v => some (.sv v), fun gb hp => by simp only [coreK, hx, hl, hti, if_pos hs]; simp [Option.bind_assoc]⟩
          · exact ⟨some (.av y), fun gb hp => by simp only [coreK, hx, hl, hti, if_neg hs]; rfl⟩
    | _ => exact ⟨none, fun gb hp => by simp only [coreK, hx]; rfl⟩
  case call cl =>
    cases hc : cl.callee with
    | builtin b => exact ⟨bltK c h ⟨dst, .call cl, type, pos, after, guard⟩ b cl.argTypes.toList (cl.args.toList.map ev) some, fun gb hp => by simp only [coreK, hc]; rw [bltK_nat]⟩
    | invoke r n => simp only [hc] at hop
    | value f => simp only [hc] at hop
  all_goals exact ⟨none, fun gb hp => rfl⟩
end
end Go.Proofs.Ytmnefpfbgadnkaa.AI
