/- The abstract machine and what is true of it. -/
import Derived.Test.YtchmioacjkbfcaaGreatMb
import Derived.Orders
import Derived.Scope
/- What an operation depends on: its operands, the variable and the objects that it names. -/
namespace Go.Proofs.YtchmioacjkbfcaaGreat.AI
open Go
set_option linter.unusedVariables false
set_option linter.unusedSimpArgs false

section
variable {c : Cx} {C : Orc} {h : Nat} {ev ev' : Operand → SV}
theorem fillK_ev {R : Type} (place : Nat → Option (Nat × Nat)) (K : List AV → Option R) : ∀ (l : List (Nat × Operand)) (cs : List AV), (∀ p ∈ l, ev p.2 = ev' p.2) → fillK place ev K l cs = fillK place ev' K l cs
  | [], cs, _ => rfl
  | (i, x) :: r, cs, hl => by
    simp only [fillK]
    rw [hl (i, x) (by simp)]
    split
    · rfl
    · congr 1; funext vs; congr 1; funext cs'
      exact fillK_ev place K r cs' fun p hp => hl p (by simp [hp])
theorem opV_ev (x : Option Operand) (hx : ∀ y, x = some y → ev y = ev' y) : opV ev x = opV ev' x := by
  cases x with
  | none => rfl
  | some y => simp only [opV]; rw [hx y rfl]
theorem map_ev {l : List Operand} (hl : ∀ x ∈ l, ev x = ev' x) : l.map ev = l.map ev' := List.map_congr_left hl
theorem coreK_ev {R : Type} {o : Oper} {gb : Nat → Option (Nat × List AV)} {hp : Hp} {K : Kt R} (h1 : ∀ x ∈ o.op.operands.toList, ev x = ev' x) :
    coreK c C h o ev gb hp K = coreK c C h o ev' gb hp K := by
  obtain ⟨dst, op, type, pos, after, guard⟩ := o
  cases op <;> simp only [Op.operands] at h1
  case build t ps =>
    simp only [coreK]
    have hps : ∀ p ∈ ps.toList, ev p.2 = ev' p.2 := fun p hp => h1 _ (List.mem_map.mpr ⟨p, hp, rfl⟩)
    simp only [fillK_ev _ _ ps.toList _ hps]
  case buildSlice t n ps =>
    simp only [coreK]
    have hps : ∀ p ∈ ps.toList, ev p.2 = ev' p.2 := fun p hp => h1 _ (List.mem_map.mpr ⟨p, hp, rfl⟩)
    simp only [fillK_ev _ _ ps.toList _ hps]
  case makeFunc fn first captured =>
    cases fn <;> simp only [coreK]
    rw [map_ev (l := captured.toList) fun x hx => h1 x (by simp at hx ⊢; exact .inr hx), map_ev (l := first.toList) fun x hx => h1 x (by simp at hx ⊢; exact .inl hx)]
  case makeMap t m => cases m <;> rfl
  case slice t x lo hi mx =>
    simp only [coreK]
    rw [h1 x (by simp), opV_ev lo (fun y hy => h1 y (by subst hy; simp)), opV_ev hi (fun y hy => h1 y (by subst hy; simp)), opV_ev mx (fun y hy => h1 y (by subst hy; simp))]
  case call cl =>
    have ha : cl.args.toList.map ev = cl.args.toList.map ev' := map_ev fun x hx => h1 x (by simp [Call.operands]; exact .inr (by simpa using hx))
    cases hc : cl.callee with
    | builtin b => simp only [coreK, hc, ha]
    | invoke r n => simp only [coreK, hc]
    | value f =>
      cases f with
      | tmp t =>
        have := h1 (.tmp t) (by simp [Call.operands, hc])
        simp only [coreK, hc, ha, this]
      | func f => simp only [coreK, hc, ha]
      | const v => simp only [coreK, hc]
      | global g => simp only [coreK, hc]
  all_goals simp only [coreK]
  all_goals (first | rfl | (simp only [List.mem_cons, List.not_mem_nil, or_false, forall_eq_or_imp, forall_eq] at h1; (try obtain ⟨h1, h2⟩ := h1); (try obtain ⟨h2, h3⟩ := h2); simp only [*]))
theorem acc_ev {o : Oper} (h1 : ∀ x ∈ o.op.operands.toList, ev x = ev' x) : accB h o ev = accB h o ev' ∧ accH h o ev = accH h o ev' := by
  obtain ⟨dst, op, type, pos, after, guard⟩ := o
  cases op <;> simp only [Op.operands] at h1 <;> simp only [accB, accH] <;> try exact ⟨trivial, trivial⟩
  case load t x => rw [h1 x (by simp)]; exact ⟨rfl, rfl⟩
  case store t x y => rw [h1 x (by simp)]; exact ⟨rfl, rfl⟩

/-! ### memory -/
/-- What is said of an operation's use of memory. -/
def LocM (c : Cx) (C : Orc) (h : Nat) (o : Oper) (ev : Operand → SV) (gb gb' : Nat → Option (Nat × List AV)) (hp hp' : Hp) (r : SV × BE × Hp) : Prop :=
  coreK c C h o ev gb' hp' k3 = some (r.1, r.2.1, ⟨if (accH h o ev).2.2 = true then r.2.2.next else hp'.next, if (accH h o ev).2.1 = true then r.2.2.get else hp'.get⟩) ∧
  ((accH h o ev).2.2 = false → r.2.2.next = hp.next) ∧ ((accH h o ev).2.1 = false → r.2.2.get = hp.get) ∧ ∀ k g cs, r.2.1 = some (k, g, cs) → (accB h o ev).2 = some k
theorem hp_eta (hp : Hp) : (⟨hp.next, hp.get⟩ : Hp) = hp := rfl
/-- An operation that leaves memory alone. -/
theorem locM_pure {o : Oper} {gb gb' : Nat → Option (Nat × List AV)} {hp hp' : Hp} {r : SV × BE × Hp} {Z : Option SV} (hH : accH h o ev = (false, false, false))
    (hz : ∀ gb hp, coreK c C h o ev gb hp k3 = Z.bind fun s => some (s, none, hp)) (hr : coreK c C h o ev gb hp k3 = some r) : LocM c C h o ev gb gb' hp hp' r := by
  rw [hz] at hr
  obtain ⟨s, hs, hr⟩ := Option.bind_eq_some_iff.mp hr
  cases hr
  unfold LocM
  rw [hz, hs, hH]
  exact ⟨rfl, fun _ => rfl, fun _ => rfl, fun _ _ _ e => by cases e⟩
theorem chk_neg {p : Prop} [Decidable p] (h : ¬ p) : chk p = none := if_neg h
theorem bltK_pure {R : Type} (h2 : h ≠ 2) {o : Oper} {b : Builtin} {ts : List TypeId} {as : List SV} {hp : Hp} {K : SV → Hp → Option R} :
    bltK c h o b ts as hp K = (bltK c h o b ts as hp0 fun s _ => some s).bind fun s => K s hp := by
  unfold bltK
  repeat' split
  all_goals first
    | (simp [Option.bind_assoc, h2, chk_neg]; done)
    | rfl
theorem coreK_pure {o : Oper} (hop : match o.op with | .load _ _ => False | .store _ _ _ => False | .alloc _ => False | .box _ _ => False | .makeSlice _ _ _ => False | .makeMap _ _ => False | .lookup _ _ _ _ => False | .mapUpdate _ _ _ _ => False | .move _ => h ≠ 3 | .assign _ => h ≠ 3 | .call cl => (match cl.callee with | .builtin _ => h ≠ 2 | _ => False) | _ => True) :
    ∃ Z : Option SV, ∀ gb hp, coreK c C h o ev gb hp k3 = Z.bind fun s => some (s, none, hp) := by
  obtain ⟨dst, op, type, pos, after, guard⟩ := o
  cases op <;> simp only at hop <;> try exact hop.elim
  case move x =>
    cases hti : c.tt type with
    | none => exact ⟨none, fun gb hp => by simp only [coreK, hti]; rfl⟩
    | some ti => exact ⟨some (if h = 1 then nrm ti.k (ev x) else nrm ti.k (ev x).ro), fun gb hp => by simp only [coreK, hti, if_neg hop]; rfl⟩
  case assign x =>
    cases hti : c.tt type with
    | none => exact ⟨none, fun gb hp => by simp only [coreK, hti]; rfl⟩
    | some ti => exact ⟨some (nrm ti.k (ev x)), fun gb hp => by simp only [coreK, hti, if_neg hop]; rfl⟩
  case pick x y z => exact ⟨pickK (ev x) (ev y) (ev z) some, fun gb hp => by simp only [coreK]; rw [pickK_nat]⟩
  case build t ps =>
    cases hti : c.tn t with
    | none => exact ⟨none, fun gb hp => by simp only [coreK, hti]; rfl⟩
    | some ti =>
      cases hk : ti.k with
      | st fs =>
        by_cases hall : fs.all (fun p => (c.tn p.2).isSome) = true
        · exact ⟨(fillK (placeS c fs) ev some ps.toList (zeroA ti.zero)).bind fun cs => some (.av (.agg (cs.map ro1))), fun gb hp => by
            simp only [coreK, hti, hk, if_pos hall]; rw [fillK_nat]; simp [Option.bind_assoc]⟩
        · exact ⟨none, fun gb hp => by simp only [coreK, hti, hk, if_neg hall]; rfl⟩
      | ar n e =>
        cases hei : c.tn e with
        | none => exact ⟨none, fun gb hp => by simp only [coreK, hti, hk, hei]; rfl⟩
        | some ei => exact ⟨(fillK (fun i => some (i * ei.size, ei.size)) ev some ps.toList (zeroA ti.zero)).bind fun cs => some (.av (.agg (cs.map ro1))), fun gb hp => by
            simp only [coreK, hti, hk, hei]; rw [fillK_nat]; simp [Option.bind_assoc]⟩
      | _ => exact ⟨none, fun gb hp => by simp only [coreK, hti, hk]; rfl⟩
  case buildSlice t n ps =>
    cases hti : c.tn t with
    | none => exact ⟨none, fun gb hp => by simp only [coreK, hti]; rfl⟩
    | some ti =>
      cases hk : ti.k with
      | sl e =>
        cases hei : c.tn e with
        | none => exact ⟨none, fun gb hp => by simp only [coreK, hti, hk, hei]; rfl⟩
        | some ei =>
          by_cases hn : n * ei.size ≤ 4096 ∧ 0 < ei.size
          · exact ⟨(fillK (fun i => some (i * ei.size, ei.size)) ev some ps.toList (List.replicate n (zeroA ei.zero)).flatten).bind fun cs => (okV cs).bind fun _ => some (.av (.us ei.size (cs.map ro1))), fun gb hp => by
              simp only [coreK, hti, hk, hei, if_pos hn]; rw [fillK_nat]; simp [Option.bind_assoc]⟩
          · exact ⟨none, fun gb hp => by simp only [coreK, hti, hk, hei, if_neg hn]; rfl⟩
      | _ => exact ⟨none, fun gb hp => by simp only [coreK, hti, hk]; rfl⟩
  case nilCheck x =>
    cases hx : ev x with
    | lp k g off => exact ⟨some (.lp k g off), fun gb hp => by simp only [coreK, hx]; rfl⟩
    | av y => exact ⟨(nnA y).bind fun _ => some (.av y), fun gb hp => by simp only [coreK, hx]; simp [Option.bind_assoc]⟩
    | _ => exact ⟨none, fun gb hp => by simp only [coreK, hx]; rfl⟩
  case binOp op t x y yt => exact ⟨binK c op t x y (ev x) (ev y) some, fun gb hp => by simp only [coreK]; rw [binK_nat]⟩
  case unOp op t x => exact ⟨(asSV (ev x)).bind fun v => (unV c.P op v).bind fun z => some (.sv z), fun gb hp => by simp only [coreK]; simp [Option.bind_assoc]⟩
  case convert s d x =>
    cases hs : c.tn s with
    | none => exact ⟨none, fun gb hp => by simp only [coreK, hs]; rfl⟩
    | some si =>
      cases hd : c.tn d with
      | none => exact ⟨none, fun gb hp => by simp only [coreK, hs, hd]; rfl⟩
      | some di => exact ⟨convK c s d si di (ev x) some, fun gb hp => by simp only [coreK, hs, hd]; rw [convK_nat]⟩
  case makeFunc fn fs cs =>
    cases fn with
    | func f =>
      by_cases hf : fs.toList.isEmpty = true
      · exact ⟨(toAs (cs.toList.map ev)).bind fun xs => if xs.all flatA = true then (chkB (Nat.blt f 4294967296)).bind fun _ => some (.av (.fn f (xs.map ro1))) else none, fun gb hp => by
          simp only [coreK, if_pos hf, Option.bind_assoc]
          congr 1; funext xs
          split <;> simp [Option.bind_assoc]⟩
      · by_cases hc : cs.toList.isEmpty = true
        · exact ⟨(toAs (fs.toList.map ev)).bind fun xs => (flatL xs).bind fun _ => some (.av (.fn (4294967296 + f) (xs.map ro1))), fun gb hp => by
            simp only [coreK, if_neg hf, if_pos hc, Option.bind_assoc]
            congr 1⟩
        · exact ⟨none, fun gb hp => by simp only [coreK, if_neg hf, if_neg hc]; rfl⟩
    | _ => exact ⟨none, fun gb hp => rfl⟩
  case slice t x lo hi mx =>
    cases hti : c.tn t with
    | none => exact ⟨none, fun gb hp => by simp only [coreK, hti]; rfl⟩
    | some ti =>
      by_cases hm : (mx.isSome && !hi.isSome) = true
      · exact ⟨none, fun gb hp => by simp only [coreK, hti, if_pos hm]; rfl⟩
      · exact ⟨(opV ev lo).bind fun l => (opV ev hi).bind fun u => (opV ev mx).bind fun m => sliceK c h ti t (ev x) l u m some, fun gb hp => by
          simp only [coreK, hti, if_neg hm, Option.bind_assoc]
          congr 1; funext l; congr 1; funext u; congr 1; funext m
          rw [sliceK_nat]⟩
  case fieldAddr t x f =>
    cases hti : c.tn t with
    | none => exact ⟨none, fun gb hp => by simp only [coreK, hti]; rfl⟩
    | some ti => exact ⟨fieldAddrK c ti (ev x) f some, fun gb hp => by simp only [coreK, hti]; rw [fieldAddrK_nat]⟩
  case field t x f =>
    cases hti : c.tn t with
    | none => exact ⟨none, fun gb hp => by simp only [coreK, hti]; rfl⟩
    | some ti =>
      cases hk : ti.k with
      | st fs =>
        cases hf : fs[f]? with
        | none => exact ⟨none, fun gb hp => by simp only [coreK, hti, hk, hf]; rfl⟩
        | some q =>
          obtain ⟨fo, ft⟩ := q
          cases hfi : c.tn ft with
          | none => exact ⟨none, fun gb hp => by simp only [coreK, hti, hk, hf, hfi]; rfl⟩
          | some fi => exact ⟨(aggC (ev x)).bind fun cs => (loadK fi 0 cs fo fun s l => some (s, l)).bind fun p => some p.1, fun gb hp => by
              simp only [coreK, hti, hk, hf, hfi, Option.bind_assoc]
              congr 1; funext cs; rw [loadK_nat]; rfl⟩
      | _ => exact ⟨none, fun gb hp => by simp only [coreK, hti, hk]; rfl⟩
  case indexAddr t x i =>
    cases hti : c.tn t with
    | none => exact ⟨none, fun gb hp => by simp only [coreK, hti]; rfl⟩
    | some ti => exact ⟨indexAddrK c h ti (ev x) (ev i) some, fun gb hp => by simp only [coreK, hti]; rw [indexAddrK_nat]⟩
  case index t x i =>
    cases hti : c.tt type with
    | none => exact ⟨none, fun gb hp => by simp only [coreK, hti]; rfl⟩
    | some ti =>
      by_cases hs : isSc ti.k = true
      · exact ⟨(concS (ev x)).bind fun a => (asSV (ev i)).bind fun iv => (ixV c.P t a iv).bind fun z => some (.sv z), fun gb hp => by simp only [coreK, hti, if_pos hs]; simp [Option.bind_assoc]⟩
      · cases hxi : c.tn t with
        | none => exact ⟨none, fun gb hp => by simp only [coreK, hti, if_neg hs, hxi]; rfl⟩
        | some xi =>
          cases hk : xi.k with
          | ar n e =>
            cases hei : c.tn e with
            | none => exact ⟨none, fun gb hp => by simp only [coreK, hti, if_neg hs, hxi, hk, hei]; rfl⟩
            | some ei => exact ⟨(aggC (ev x)).bind fun cs => (asSV (ev i)).bind fun iv => (idx n iv).bind fun j => (loadK ei 0 cs (j * ei.size) fun s l => some (s, l)).bind fun p => some p.1, fun gb hp => by
                simp only [coreK, hti, if_neg hs, hxi, hk, hei, Option.bind_assoc]
                congr 1; funext cs; congr 1; funext iv; congr 1; funext j; rw [loadK_nat]; rfl⟩
          | _ => exact ⟨none, fun gb hp => by simp only [coreK, hti, if_neg hs, hxi, hk]; rfl⟩
  case extract x i =>
    cases hx : ev x with
    | tp l =>
      cases hl : l[i]? with
      | none => exact ⟨none, fun gb hp => by simp only [coreK, hx, hl]; rfl⟩
      | some y =>
        cases hti : c.tt type with
        | none => exact ⟨none, fun gb hp => by simp only [coreK, hx, hl, hti]; rfl⟩
        | some ti =>
          by_cases hs : isSc ti.k = true
          · exact ⟨(asSc y).bind fun v => some (.sv v), fun gb hp => by simp only [coreK, hx, hl, hti, if_pos hs]; simp [Option.bind_assoc]⟩
          · by_cases h1 : h = 1
            · exact ⟨some (.av (ro y)), fun gb hp => by simp only [coreK, hx, hl, hti, if_neg hs, if_pos h1]; rfl⟩
            · exact ⟨some (.av y), fun gb hp => by simp only [coreK, hx, hl, hti, if_neg hs, if_neg h1]; rfl⟩
    | _ => exact ⟨none, fun gb hp => by simp only [coreK, hx]; rfl⟩
  case call cl =>
    cases hc : cl.callee with
    | builtin b =>
      simp only [hc] at hop
      exact ⟨bltK c h ⟨dst, .call cl, type, pos, after, guard⟩ b cl.argTypes.toList (cl.args.toList.map ev) hp0 fun s _ => some s, fun gb hp => by simp only [coreK, hc]; rw [bltK_pure hop]⟩
    | invoke r n => simp only [hc] at hop
    | value f => simp only [hc] at hop
  all_goals exact ⟨none, fun gb hp => rfl⟩
end
end Go.Proofs.YtchmioacjkbfcaaGreat.AI

/- What an operation depends on: memory. -/
namespace Go.Proofs.YtchmioacjkbfcaaGreat.AI
open Go
set_option linter.unusedVariables false
set_option linter.unusedSimpArgs false

section
variable {c : Cx} {C : Orc} {h : Nat} {ev : Operand → SV}
theorem hp_ext {a b : Hp} (h1 : a.next = b.next) (h2 : a.get = b.get) : a = b := by
  cases a; cases b; simp only at h1 h2; subst h1; subst h2; rfl
theorem rd_get {a b : Hp} (h : a.get = b.get) : a.rd = b.rd := by
  funext x y; simp only [Hp.rd, h]
theorem put_get' {a b : Hp} (h : a.get = b.get) (x g : Nat) (cs : List AV) : (a.put x g cs).get = (b.put x g cs).get := by
  simp only [Hp.put, h]
theorem rdM_get {a b : Hp} (h : a.get = b.get) : a.rdM = b.rdM := by
  funext x; simp only [Hp.rdM, h]
/-- An operation that is alone with all of memory's objects. -/
theorem loc_all {o : Oper} {gb gb' : Nat → Option (Nat × List AV)} {hp hp' : Hp} {r : SV × BE × Hp} (hH : accH h o ev = (true, true, true)) (hg : coreK c C h o ev gb' hp k3 = coreK c C h o ev gb hp k3)
    (hn : r.2.1 = none) (hr : coreK c C h o ev gb hp k3 = some r) (hA : (accH h o ev).1 = true ∨ (accH h o ev).2.1 = true → hp'.get = hp.get)
    (hB : (accH h o ev).2.2 = true → hp'.next = hp.next) : LocM c C h o ev gb gb' hp hp' r := by
  unfold LocM
  rw [hH] at hA hB ⊢
  have e : hp' = hp := hp_ext (hB rfl) (hA (.inl rfl))
  subst e
  rw [hg, hr]
  exact ⟨rfl, fun e => (by cases e), fun e => (by cases e), fun k g cs e => by rw [hn] at e; cases e⟩
theorem loadOpK_none {ti : TI} {a : SV} {gb : Nat → Option (Nat × List AV)} {hp : Hp} {r : SV × BE × Hp} (hr : loadOpK 0 ti a gb hp k3 = some r) : r.2.1 = none := by
  unfold loadOpK at hr
  split at hr
  · split at hr
    · split at hr
      · rw [loadK_nat] at hr
        obtain ⟨q, hq, hr⟩ := Option.bind_eq_some_iff.mp hr
        cases hr; rfl
      · cases hr
    · cases hr
  · rw [if_neg (by decide), loadK_nat] at hr
    obtain ⟨q, hq, hr⟩ := Option.bind_eq_some_iff.mp hr
    cases hr; rfl
  · obtain ⟨q, hq, hr⟩ := Option.bind_eq_some_iff.mp hr
    obtain ⟨cs, hcs, hr⟩ := Option.bind_eq_some_iff.mp hr
    rw [loadK_nat] at hr
    obtain ⟨q, hq, hr⟩ := Option.bind_eq_some_iff.mp hr
    cases hr; rfl
  · cases hr
theorem loc_load3 {o : Oper} {t : TypeId} {x : Operand} (hop : o.op = .load t x) (h3 : h = 3) {gb gb' : Nat → Option (Nat × List AV)} {hp hp' : Hp} {r : SV × BE × Hp} (hr : coreK c C h o ev gb hp k3 = some r)
    (hb : ∀ k, (accB h o ev).1 = some k ∨ (accB h o ev).2 = some k → gb' k = gb k) (hA : (accH h o ev).1 = true ∨ (accH h o ev).2.1 = true → hp'.get = hp.get)
    (hB : (accH h o ev).2.2 = true → hp'.next = hp.next) : LocM c C h o ev gb gb' hp hp' r := by
  subst h3
  have e1 : ∀ gb hp, coreK c C 3 o ev gb hp k3 = (match c.tn t with | some ti => loadOpK 0 ti (ev x) gb hp fun s b q => frzK ti.k q s fun s' q' => k3 s' b q' | none => none) := fun gb hp => by simp only [coreK, hop] <;> rfl
  have eH : accH 3 o ev = (true, true, true) := by
    simp only [accH, hop]
    cases ev x <;> rfl
  have eB : ∀ k g off, ev x = .lp k g off → gb' k = gb k := fun k g off e => hb k (by simp [accB, hop, e])
  cases hti : c.tn t with
  | none => rw [e1, hti] at hr; cases hr
  | some ti =>
    refine loc_all eH ?_ ?_ hr hA hB
    · rw [e1, e1, hti]
      simp only
      unfold loadOpK
      cases hx : ev x with
      | lp k g off => simp only [eB k g off hx]
      | _ => rfl
    · rw [e1, hti] at hr
      simp only [frzK_eq] at hr
      rw [loadOpK_nat] at hr
      obtain ⟨q, hq, hr⟩ := Option.bind_eq_some_iff.mp hr
      obtain ⟨q', hq', hr⟩ := Option.bind_eq_some_iff.mp hr
      cases hr
      have := loadOpK_none hq
      exact this
/-- A load that takes no hold sees what 'seeG' says. -/
theorem load_see {ti : TI} {hp hp' : Hp} {y : AV} {p : Nat × Nat × Nat} (hy : getPtr y = some p) {cs : List AV} (h1 : h ≠ 1) (hcs : hp.rd p.1 p.2.1 = some cs) {s : SV × List AV} (hs : loadK ti h cs p.2.2 (fun s cs' => some (s, cs')) = some s)
    (hq : seeG (y, match isAg ti.k with | true => ti.size | false => 1) hp'.get = seeG (y, match isAg ti.k with | true => ti.size | false => 1) hp.get) :
    ∃ cs', hp'.rd p.1 p.2.1 = some cs' ∧ ∃ s', loadK ti h cs' p.2.2 (fun s cs' => some (s, cs')) = some s' ∧ s'.1 = s.1 := by
  obtain ⟨hg, h0⟩ : hp.get p.1 = some (0, cs) ∧ p.2.1 = 0 := by
    unfold Hp.rd at hcs
    obtain ⟨z, hz, hcs⟩ := Option.bind_eq_some_iff.mp hcs
    split at hcs
    · rename_i e
      cases hcs
      refine ⟨?_, e.2⟩
      rw [hz]
      obtain ⟨z1, z2⟩ := z
      have : z1 = 0 := by have := e.1; have := e.2; omega
      subst this; rfl
    · cases hcs
  have key : ∀ n, seeG (y, n) hp.get = (getN cs p.2.2 n).map (List.map ro1) := by
    intro n
    simp only [seeG, hy, hg, Option.bind_some, if_true]
  have key' : ∀ n l, seeG (y, n) hp'.get = some l → ∃ cs', hp'.rd p.1 p.2.1 = some cs' ∧ ∃ l', getN cs' p.2.2 n = some l' ∧ l'.map ro1 = l := by
    intro n l hl
    unfold seeG at hl
    simp only [hy, Option.bind_some] at hl
    obtain ⟨z, hz, hl⟩ := Option.bind_eq_some_iff.mp hl
    split at hl
    · rename_i e
      obtain ⟨l', hl', rfl⟩ := Option.map_eq_some_iff.mp hl
      refine ⟨z.2, ?_, l', hl', rfl⟩
      have hz : hp'.get p.1 = some z := hz
      have e : z.1 = 0 := e
      simp only [Hp.rd, hz, Option.bind_some, e, h0, and_self, if_true]
    · cases hl
  unfold loadK at hs ⊢
  split at hs
  · rename_i hsc
    have hag : isAg ti.k = false := by cases hk : ti.k <;> rw [hk] at hsc <;> first | rfl | cases hsc
    rw [hag] at hq
    obtain ⟨v, hv, hs⟩ := Option.bind_eq_some_iff.mp hs
    cases hs
    have hx := getSc_some hv
    have hlt := (List.getElem?_eq_some_iff.mp hx).1
    have e1 : getN cs p.2.2 1 = some [.sc v] := by
      unfold getN
      rw [if_pos (by omega)]
      congr 1
      obtain ⟨_, h2⟩ := List.getElem?_eq_some_iff.mp hx
      rw [List.drop_eq_getElem_cons hlt, h2]; rfl
    rw [key, e1] at hq
    obtain ⟨cs', hr, l', hl', e⟩ := key' 1 _ hq
    refine ⟨cs', hr, (.sv v, cs'), ?_, rfl⟩
    have e2 : cs'[p.2.2]? = some (.sc v) := by
      obtain ⟨hle, rfl⟩ := getN_some hl'
      have hlt' : p.2.2 < cs'.length := by omega
      rw [List.drop_eq_getElem_cons hlt'] at e
      have e : ro1 cs'[p.2.2] = .sc v := (List.cons.inj e).1
      rw [List.getElem?_eq_getElem hlt']
      cases hy : cs'[p.2.2] <;> rw [hy] at e <;> first | exact congrArg some e | cases e
    have e3 : getSc cs' p.2.2 = some v := by simp [getSc, e2, asSc]
    rw [if_pos hsc, e3]; rfl
  · rename_i hsc
    simp only [if_neg hsc]
    split at hs
    · rename_i hag
      rw [hag] at hq
      obtain ⟨l, hl, hs⟩ := Option.bind_eq_some_iff.mp hs
      cases hs
      rw [key, hl] at hq
      obtain ⟨cs', hr, l', hl', e⟩ := key' ti.size _ hq
      refine ⟨cs', hr, (.av (.agg (l'.map ro1)), cs'), ?_, by rw [e]⟩
      rw [if_pos hag, hl']
      simp only [Option.bind_some, if_neg h1]
    · rename_i hag
      have hag' : isAg ti.k = false := by cases h : isAg ti.k <;> first | rfl | exact absurd h hag
      rw [hag'] at hq
      obtain ⟨x, hx, hs⟩ := Option.bind_eq_some_iff.mp hs
      cases hs
      have hx : cs[p.2.2]? = some x := hx
      have hlt := (List.getElem?_eq_some_iff.mp hx).1
      have e1 : getN cs p.2.2 1 = some [x] := by
        unfold getN
        rw [if_pos (by omega)]
        congr 1
        obtain ⟨_, h2⟩ := List.getElem?_eq_some_iff.mp hx
        rw [List.drop_eq_getElem_cons hlt, h2]; rfl
      rw [key, e1] at hq
      obtain ⟨cs', hr, l', hl', e⟩ := key' 1 _ hq
      obtain ⟨hle, rfl⟩ := getN_some hl'
      have hlt' : p.2.2 < cs'.length := by omega
      rw [List.drop_eq_getElem_cons hlt'] at e
      have e : ro1 cs'[p.2.2] = ro1 x := (List.cons.inj e).1
      refine ⟨cs', hr, (.av (ro1 cs'[p.2.2]), cs'), ?_, by rw [e]⟩
      have e3 : getC cs' p.2.2 = some cs'[p.2.2] := List.getElem?_eq_getElem hlt'
      simp only [if_neg hag, e3, Option.bind_some, if_neg h1]
theorem loc_load {o : Oper} {t : TypeId} {x : Operand} (hop : o.op = .load t x) (h3 : h ≠ 3) {gb gb' : Nat → Option (Nat × List AV)} {hp hp' : Hp} {r : SV × BE × Hp} (hr : coreK c C h o ev gb hp k3 = some r)
    (hb : ∀ k, (accB h o ev).1 = some k ∨ (accB h o ev).2 = some k → gb' k = gb k) (hA : (accH h o ev).1 = true ∨ (accH h o ev).2.1 = true → hp'.get = hp.get)
    (hL : ∀ q, lqOf h o c.tn ev = some q → seeG q hp'.get = seeG q hp.get) : LocM c C h o ev gb gb' hp hp' r := by
  have e1 : ∀ gb hp, coreK c C h o ev gb hp k3 = (match c.tn t with | some ti => loadOpK h ti (ev x) gb hp k3 | none => none) := fun gb hp => by
    simp only [coreK, hop]
    cases c.tn t with
    | none => rfl
    | some ti => simp only [if_neg h3]
  have eB : accB h o ev = (match ev x with | .lp k _ _ => if h = 1 then (none, some k) else (some k, none) | _ => (none, none)) := by simp only [accB, hop] <;> rfl
  have h3b : (h == 3) = false := by simpa using h3
  have eH : accH h o ev = (match ev x with | .av _ => (h == 1, h == 1, false) | _ => (false, false, false)) := by
    simp only [accH, hop, h3b, Bool.or_false]
    cases ev x <;> rfl
  unfold LocM
  rw [e1] at hr ⊢
  rw [eH] at hA ⊢
  rw [eB] at hb ⊢
  cases hti : c.tn t with
  | none => rw [hti] at hr; cases hr
  | some ti =>
    rw [hti] at hr
    simp only at hr ⊢
    unfold loadOpK at hr ⊢
    cases hx : ev x with
    | lp k g off =>
      rw [hx] at hr hb
      simp only at hr hb ⊢
      have hg : gb' k = gb k := by
        apply hb
        by_cases h1 : h = 1 <;> simp [h1]
      rw [hg]
      cases hgb : gb k with
      | none => rw [hgb] at hr; cases hr
      | some q =>
        obtain ⟨g', cs⟩ := q
        rw [hgb] at hr
        simp only at hr ⊢
        by_cases hgg : g = g'
        · simp only [if_pos hgg] at hr ⊢
          rw [loadK_nat] at hr ⊢
          obtain ⟨q, hq, hr⟩ := Option.bind_eq_some_iff.mp hr
          cases hr
          rw [hq]
          refine ⟨rfl, fun _ => rfl, fun _ => rfl, fun k' g' cs' e => ?_⟩
          by_cases h1 : h = 1
          · simp only [h1, if_true] at e ⊢
            cases e; rfl
          · simp only [h1, if_false] at e; cases e
        · simp only [if_neg hgg] at hr; cases hr
    | rv cs =>
      rw [hx] at hr
      simp only at hr ⊢
      by_cases h1 : h = 1
      · simp only [if_pos h1] at hr; cases hr
      · simp only [if_neg h1] at hr ⊢
        rw [loadK_nat] at hr ⊢
        obtain ⟨q, hq, hr⟩ := Option.bind_eq_some_iff.mp hr
        cases hr
        rw [hq]
        exact ⟨rfl, fun _ => rfl, fun _ => rfl, fun _ _ _ e => by cases e⟩
    | av y =>
      rw [hx] at hr hA
      simp only at hr hA ⊢
      obtain ⟨p, hp1, hr⟩ := Option.bind_eq_some_iff.mp hr
      obtain ⟨cs, hcs, hr⟩ := Option.bind_eq_some_iff.mp hr
      by_cases h1 : h = 1
      · have hne : (h == 1) = true := by simp [h1]
        have hge : hp'.get = hp.get := hA (.inl hne)
        rw [hp1, rd_get hge]
        simp only [Option.bind_some, hcs]
        rw [loadK_nat] at hr ⊢
        obtain ⟨q, hq, hr⟩ := Option.bind_eq_some_iff.mp hr
        cases hr
        rw [hq]
        refine ⟨?_, fun _ => ?_, fun e => ?_, fun _ _ _ e => by cases e⟩
        · simp only [h1, if_true, Option.bind_some, beq_self_eq_true, Bool.false_eq_true, if_false]
          refine congrArg some (congrArg (Prod.mk _) (congrArg (Prod.mk _) (hp_ext rfl (put_get' hge _ _ _))))
        · simp only [if_pos h1]; rfl
        · have e' : (h == 1) = false := e
          rw [hne] at e'; cases e'
      · have hne : (h == 1) = false := by simpa using h1
        have hq := hL _ (by simp only [lqOf, hop, hx, hne, h3b, Bool.or_false, hti]; rfl)
        rw [hp1]
        simp only [Option.bind_some]
        rw [loadK_nat] at hr
        obtain ⟨s, hs, hr⟩ := Option.bind_eq_some_iff.mp hr
        obtain ⟨cs', hcs', hs'⟩ := load_see hp1 h1 hcs hs hq
        rw [hcs']
        simp only [Option.bind_some]
        rw [loadK_nat]
        obtain ⟨s', hs'', e⟩ := hs'
        rw [hs'']
        simp only [Option.bind_some, if_neg h1] at hr ⊢
        cases hr
        rw [e]
        refine ⟨?_, fun _ => rfl, fun _ => rfl, fun _ _ _ e => by cases e⟩
        simp only [hne, Bool.false_eq_true, if_false]
    | _ => rw [hx] at hr; cases hr
theorem loc_store {o : Oper} {t : TypeId} {x y : Operand} (hop : o.op = .store t x y) {gb gb' : Nat → Option (Nat × List AV)} {hp hp' : Hp} {r : SV × BE × Hp} (hr : coreK c C h o ev gb hp k3 = some r)
    (hb : ∀ k, (accB h o ev).1 = some k ∨ (accB h o ev).2 = some k → gb' k = gb k) (hA : (accH h o ev).1 = true ∨ (accH h o ev).2.1 = true → hp'.get = hp.get) : LocM c C h o ev gb gb' hp hp' r := by
  have e1 : ∀ gb hp, coreK c C h o ev gb hp k3 = (match c.tn t with | some ti => storeOpK ti (ev x) (ev y) gb hp k3 | none => none) := fun gb hp => by simp only [coreK, hop] <;> rfl
  have eB : accB h o ev = (match ev x with | .lp k _ _ => (none, some k) | _ => (none, none)) := by simp only [accB, hop] <;> rfl
  have eH : accH h o ev = (match ev x with | .av _ => (false, true, false) | _ => (false, false, false)) := by simp only [accH, hop] <;> rfl
  unfold LocM
  rw [e1] at hr ⊢
  rw [eH] at hA ⊢
  rw [eB] at hb ⊢
  cases hti : c.tn t with
  | none => rw [hti] at hr; cases hr
  | some ti =>
    rw [hti] at hr
    simp only at hr ⊢
    unfold storeOpK at hr ⊢
    obtain ⟨vs, hvs, hr⟩ := Option.bind_eq_some_iff.mp hr
    rw [hvs]
    simp only [Option.bind_some]
    cases hx : ev x with
    | lp k g off =>
      rw [hx] at hr hb
      simp only at hr hb ⊢
      have hg : gb' k = gb k := hb k (.inr rfl)
      rw [hg]
      cases hgb : gb k with
      | none => rw [hgb] at hr; cases hr
      | some q =>
        obtain ⟨g', cs⟩ := q
        rw [hgb] at hr
        simp only at hr ⊢
        by_cases hgg : g = g'
        · simp only [if_pos hgg] at hr ⊢
          obtain ⟨q, hq, hr⟩ := Option.bind_eq_some_iff.mp hr
          cases hr
          rw [hq]
          exact ⟨rfl, fun _ => rfl, fun _ => rfl, fun k' g' cs' e => by cases e; rfl⟩
        · simp only [if_neg hgg] at hr; cases hr
    | av z =>
      rw [hx] at hr hA
      simp only at hr hA ⊢
      have hge : hp'.get = hp.get := hA (.inr trivial)
      obtain ⟨p, hp1, hr⟩ := Option.bind_eq_some_iff.mp hr
      obtain ⟨cs, hcs, hr⟩ := Option.bind_eq_some_iff.mp hr
      obtain ⟨q, hq, hr⟩ := Option.bind_eq_some_iff.mp hr
      cases hr
      rw [hp1, rd_get hge]
      simp only [Option.bind_some, hcs, hq, if_true, Bool.false_eq_true, if_false]
      refine ⟨?_, fun _ => rfl, fun e => (by cases e), fun _ _ _ e => by cases e⟩
      exact congrArg some (congrArg (Prod.mk _) (congrArg (Prod.mk _) (hp_ext rfl (put_get' hge _ _ _))))
    | _ => rw [hx] at hr; cases hr
theorem new_ext {a b : Hp} (h1 : a.next = b.next) (h2 : a.get = b.get) (cs : List AV) : a.new cs = b.new cs := by rw [hp_ext h1 h2]
/-- A variable, an object is made. -/
theorem loc_new {o : Oper} {cs : List AV} {gb gb' : Nat → Option (Nat × List AV)} {hp hp' : Hp} {r : SV × BE × Hp} {W : Option (List AV)}
    (he : ∀ gb hp, coreK c C h o ev gb hp k3 = W.bind fun cs => if h = 2 then k3 (.av (.ptr hp.next 0 0)) none (hp.new cs) else
      match o.dst with
      | some d => let g := match gb d with | some (g, _) => g + 1 | none => 0
        k3 (.lp d g 0) (some (d, g, cs)) hp
      | none => none)
    (eB : accB h o ev = if h = 2 then (none, none) else (none, o.dst)) (eH : accH h o ev = (false, h == 2, h == 2))
    (hr : coreK c C h o ev gb hp k3 = some r) (hb : ∀ k, (accB h o ev).1 = some k ∨ (accB h o ev).2 = some k → gb' k = gb k) (hA : (accH h o ev).1 = true ∨ (accH h o ev).2.1 = true → hp'.get = hp.get)
    (hB : (accH h o ev).2.2 = true → hp'.next = hp.next) : LocM c C h o ev gb gb' hp hp' r := by
  unfold LocM
  rw [he] at hr ⊢
  rw [eH] at hA hB ⊢
  rw [eB] at hb ⊢
  obtain ⟨cs, hcs, hr⟩ := Option.bind_eq_some_iff.mp hr
  rw [hcs]
  simp only [Option.bind_some]
  by_cases h2 : h = 2
  · simp only [h2, if_true, beq_self_eq_true] at hr hA hB ⊢
    cases hr
    have hg := hA (.inr trivial)
    have hn := hB trivial
    refine ⟨?_, fun e => (by cases e), fun e => (by cases e), fun _ _ _ e => by cases e⟩
    show some (SV.av (.ptr hp'.next 0 0), (none : BE), hp'.new cs) = some (SV.av (.ptr hp.next 0 0), none, ⟨(hp.new cs).next, (hp.new cs).get⟩)
    rw [hp_ext hn hg]
  · have hne : (h == 2) = false := by simpa using h2
    simp only [if_neg h2, hne, Bool.false_eq_true, if_false] at hr hb ⊢
    cases hd : o.dst with
    | none => rw [hd] at hr; cases hr
    | some d =>
      rw [hd] at hr hb
      simp only at hr hb ⊢
      have hg := hb d (.inr rfl)
      rw [hg]
      cases hr
      exact ⟨rfl, fun _ => rfl, fun _ => rfl, fun k g cs e => by cases e; rfl⟩
theorem loc_callK {ti : TI} {f : FuncId} {caps : List AV} {as : List SV} {hp hp' : Hp} {r : SV × BE × Hp} (hr : callK c C h ti f caps as hp k3 = some r) (hA : h = 2 ∨ h = 4 → hp'.get = hp.get) (hB : h = 2 ∨ h = 4 → hp'.next = hp.next) :
    callK c C h ti f caps as hp' k3 = some (r.1, r.2.1, if h = 2 ∨ h = 4 then r.2.2 else hp') ∧ (¬(h = 2 ∨ h = 4) → r.2.2 = hp) ∧ r.2.1 = none := by
  by_cases h24 : h = 2 ∨ h = 4
  · rw [hp_ext (hB h24) (hA h24), hr, if_pos h24]
    refine ⟨rfl, fun e => absurd h24 e, ?_⟩
    unfold callK at hr
    obtain ⟨xs, hxs, hr⟩ := Option.bind_eq_some_iff.mp hr
    rcases h24 with h2 | h4
    · rw [if_pos h2] at hr
      obtain ⟨p, hp1, hr⟩ := Option.bind_eq_some_iff.mp hr
      rw [resK_nat] at hr
      obtain ⟨s, hs, hr⟩ := Option.bind_eq_some_iff.mp hr
      cases hr; rfl
    · rw [if_neg (by omega), if_pos h4] at hr
      obtain ⟨p, hp1, hr⟩ := Option.bind_eq_some_iff.mp hr
      rw [resK_nat] at hr
      obtain ⟨s, hs, hr⟩ := Option.bind_eq_some_iff.mp hr
      cases hr; rfl
  · have h2 : h ≠ 2 := fun e => h24 (.inl e)
    have h4 : h ≠ 4 := fun e => h24 (.inr e)
    unfold callK at hr ⊢
    obtain ⟨xs, hxs, hr⟩ := Option.bind_eq_some_iff.mp hr
    rw [hxs]
    simp only [Option.bind_some]
    simp only [if_neg h2, if_neg h4, if_neg h24] at hr ⊢
    obtain ⟨u, hu, hr⟩ := Option.bind_eq_some_iff.mp hr
    rw [hu]
    simp only [Option.bind_some]
    obtain ⟨p, hp1, hr⟩ := Option.bind_eq_some_iff.mp hr
    rw [hp1]
    simp only [Option.bind_some]
    obtain ⟨u', hu', hr⟩ := Option.bind_eq_some_iff.mp hr
    rw [hu']
    simp only [Option.bind_some]
    rw [resK_nat] at hr ⊢
    obtain ⟨s, hs, hr⟩ := Option.bind_eq_some_iff.mp hr
    cases hr
    rw [hs]
    exact ⟨rfl, fun _ => rfl, rfl⟩
theorem coreK_loc {o : Oper} {gb gb' : Nat → Option (Nat × List AV)} {hp hp' : Hp} {r : SV × BE × Hp} (hr : coreK c C h o ev gb hp k3 = some r)
    (hb : ∀ k, (accB h o ev).1 = some k ∨ (accB h o ev).2 = some k → gb' k = gb k) (hA : (accH h o ev).1 = true ∨ (accH h o ev).2.1 = true → hp'.get = hp.get)
    (hB : (accH h o ev).2.2 = true → hp'.next = hp.next) (hL : ∀ q, lqOf h o c.tn ev = some q → seeG q hp'.get = seeG q hp.get) : LocM c C h o ev gb gb' hp hp' r := by
  have pure : accH h o ev = (false, false, false) → (match o.op with | .load _ _ => False | .store _ _ _ => False | .alloc _ => False | .box _ _ => False | .makeSlice _ _ _ => False | .makeMap _ _ => False | .lookup _ _ _ _ => False | .mapUpdate _ _ _ _ => False | .move _ => h ≠ 3 | .assign _ => h ≠ 3 | .call cl => (match cl.callee with | .builtin _ => h ≠ 2 | _ => False) | _ => True) → LocM c C h o ev gb gb' hp hp' r := by
    intro hH hop
    obtain ⟨Z, hz⟩ := coreK_pure (c := c) (C := C) (h := h) (ev := ev) hop
    exact locM_pure hH hz hr
  cases hop : o.op
  case load t x =>
    by_cases h3 : h = 3
    · exact loc_load3 hop h3 hr hb hA hB
    · exact loc_load hop h3 hr hb hA hL
  case move x =>
    by_cases h3 : h = 3
    · subst h3
      refine loc_all (by simp only [accH, hop]; rfl) (by simp only [coreK, hop]) ?_ hr hA hB
      simp only [coreK, hop] at hr
      split at hr
      · rw [if_pos trivial, frzK_eq] at hr
        obtain ⟨q, hq, hr⟩ := Option.bind_eq_some_iff.mp hr
        cases hr; rfl
      · cases hr
    · have h3b : (h == 3) = false := by simpa using h3
      exact pure (by simp only [accH, hop, h3b]) (by simp only [hop]; exact h3)
  case assign x =>
    by_cases h3 : h = 3
    · subst h3
      refine loc_all (by simp only [accH, hop]; rfl) (by simp only [coreK, hop]) ?_ hr hA hB
      simp only [coreK, hop] at hr
      split at hr
      · rw [if_pos trivial, frzK_eq] at hr
        obtain ⟨q, hq, hr⟩ := Option.bind_eq_some_iff.mp hr
        cases hr; rfl
      · cases hr
    · have h3b : (h == 3) = false := by simpa using h3
      exact pure (by simp only [accH, hop, h3b]) (by simp only [hop]; exact h3)
  case makeMap t m =>
    have hm : m = none ∧ h = 2 := by
      cases m with
      | some m => simp only [coreK, hop] at hr; cases hr
      | none =>
        simp only [coreK, hop] at hr
        split at hr
        · exact ⟨rfl, by assumption⟩
        · cases hr
    obtain ⟨rfl, h2⟩ := hm
    refine loc_all (by simp only [accH, hop]) (by simp only [coreK, hop]) ?_ hr hA hB
    simp only [coreK, hop, if_pos h2] at hr
    cases hr; rfl
  case mapUpdate t m k x =>
    refine loc_all (by simp only [accH, hop]) (by simp only [coreK, hop]) ?_ hr hA hB
    simp only [coreK, hop] at hr
    split at hr
    · rw [mapPutK_nat] at hr
      obtain ⟨q, hq, hr⟩ := Option.bind_eq_some_iff.mp hr
      cases hr; rfl
    · cases hr
  case lookup t x i ok =>
    have eH : accH h o ev = (true, false, false) := by simp only [accH, hop]
    have eB : accB h o ev = (none, none) := by simp only [accB, hop]
    unfold LocM
    rw [eH] at hA ⊢
    rw [eB]
    have hge : hp'.get = hp.get := hA (.inl rfl)
    simp only [coreK, hop] at hr ⊢
    split at hr
    · rw [lookupK_nat] at hr
      obtain ⟨s, hs, hr⟩ := Option.bind_eq_some_iff.mp hr
      cases hr
      have e : lookupK c t (ev x) (ev i) ok hp' some = lookupK c t (ev x) (ev i) ok hp some := by
        unfold lookupK
        rw [rdM_get hge]
      rename_i h2
      rw [if_pos h2, lookupK_nat, e, hs]
      exact ⟨rfl, fun _ => rfl, fun _ => rfl, fun _ _ _ e => by cases e⟩
    · cases hr
  case store t x y => exact loc_store hop hr hb hA
  case alloc t =>
    refine loc_new (cs := []) (W := (c.tn t).map fun ti => zeroA ti.zero) (fun gb hp => ?_) (by simp only [accB, hop]) (by simp only [accH, hop]) hr hb hA hB
    simp only [coreK, hop]
    cases c.tn t <;> rfl
  case box t x =>
    refine loc_new (cs := []) (W := (c.tn t).bind fun ti => (valC ti.size (ev x)).map fun vs => vs.map ro1) (fun gb hp => ?_) (by simp only [accB, hop]) (by simp only [accH, hop]) hr hb hA hB
    simp only [coreK, hop]
    cases c.tn t with
    | none => rfl
    | some ti =>
      simp only [Option.bind_some]
      cases valC ti.size (ev x) <;> rfl
  case makeSlice t l m =>
    have eH : accH h o ev = (false, h == 2, h == 2) := by simp only [accH, hop]
    have eB : accB h o ev = (none, none) := by simp only [accB, hop]
    have key : ∃ W : Option (Nat × List AV × Nat), ∀ gb hp, coreK c C h o ev gb hp k3 = W.bind fun q => if h = 2 then k3 (.av (.ms hp.next 0 0 q.1 q.2.2)) none (hp.new q.2.1) else k3 (.av (.us q.2.2 q.2.1)) none hp := by
      cases hti : c.tn t with
      | none => exact ⟨none, fun gb hp => by simp only [coreK, hop, hti]; rfl⟩
      | some ti =>
        cases hk : ti.k with
        | sl e =>
          cases hei : c.tn e with
          | none => exact ⟨none, fun gb hp => by simp only [coreK, hop, hti, hk, hei]; rfl⟩
          | some ei =>
            refine ⟨(asSV (ev l)).bind fun lv => (asSV (ev m)).bind fun mv => (asI lv).bind fun n => (asI mv).bind fun n' =>
              (okMake ei.bytes ei.size n n').bind fun _ => some (tN n, zerosA n ei.zero, ei.size), fun gb hp => ?_⟩
            simp only [coreK, hop, hti, hk, hei, Option.bind_assoc]
            congr 1
        | _ => exact ⟨none, fun gb hp => by simp only [coreK, hop, hti, hk]; rfl⟩
    obtain ⟨W, he⟩ := key
    unfold LocM
    rw [he] at hr ⊢
    rw [eH] at hA hB ⊢
    rw [eB] at hb ⊢
    obtain ⟨q, hq, hr⟩ := Option.bind_eq_some_iff.mp hr
    rw [hq]
    simp only [Option.bind_some]
    by_cases h2 : h = 2
    · simp only [h2, if_true, beq_self_eq_true] at hr hA hB ⊢
      cases hr
      rw [hp_ext (hB trivial) (hA (.inr trivial))]
      exact ⟨rfl, fun e => (by cases e), fun e => (by cases e), fun _ _ _ e => by cases e⟩
    · have hne : (h == 2) = false := by simpa using h2
      simp only [if_neg h2, hne, Bool.false_eq_true, if_false] at hr ⊢
      cases hr
      exact ⟨rfl, fun _ => rfl, fun _ => rfl, fun _ _ _ e => by cases e⟩
  case call cl =>
    cases hcl : cl.callee with
    | builtin b =>
      by_cases h2 : h = 2
      · subst h2
        refine loc_all (by simp only [accH, hop, hcl]; rfl) (by simp only [coreK, hop, hcl]) ?_ hr hA hB
        simp only [coreK, hop, hcl] at hr
        rw [bltK_nat] at hr
        obtain ⟨q, hq, hr⟩ := Option.bind_eq_some_iff.mp hr
        cases hr; rfl
      · have h2b : (h == 2) = false := by simpa using h2
        exact pure (by simp only [accH, hop, hcl, h2b]) (by simp only [hop, hcl]; exact h2)
    | invoke x n => simp only [coreK, hop, hcl] at hr; cases hr
    | value f =>
      have eH : accH h o ev = (h == 2 || h == 4, h == 2 || h == 4, h == 2 || h == 4) := by simp only [accH, hop, hcl]
      have e24 : (h == 2 || h == 4) = true ↔ h = 2 ∨ h = 4 := by simp
      have eB : accB h o ev = (none, none) := by simp only [accB, hop]
      have key : (∃ ti g caps, ∀ hp gb, coreK c C h o ev gb hp k3 = callK c C h ti g caps (cl.args.toList.map ev) hp k3) ∨ ∃ Z : Option SV, ∀ gb hp, coreK c C h o ev gb hp k3 = Z.bind fun s => some (s, none, hp) := by
        cases f with
        | tmp t =>
          cases hti : c.tt o.type with
          | none => exact .inr ⟨none, fun gb hp => by simp only [coreK, hop, hcl, hti]; rfl⟩
          | some ti =>
            cases hx : ev (.tmp t) with
            | av x =>
              by_cases h4 : h = 4
              · cases hf : getBd x with
                | none => exact .inr ⟨none, fun gb hp => by simp only [coreK, hop, hcl, hti, hx, if_pos h4, hf]; rfl⟩
                | some p => exact .inl ⟨ti, p.1, p.2, fun hp gb => by simp only [coreK, hop, hcl, hti, hx, if_pos h4, hf]; rfl⟩
              · cases hf : getFn x with
                | none => exact .inr ⟨none, fun gb hp => by simp only [coreK, hop, hcl, hti, hx, if_neg h4, hf]; rfl⟩
                | some p => exact .inl ⟨ti, p.1, p.2, fun hp gb => by simp only [coreK, hop, hcl, hti, hx, if_neg h4, hf]; rfl⟩
            | _ => exact .inr ⟨none, fun gb hp => by simp only [coreK, hop, hcl, hti, hx]; rfl⟩
        | func g =>
          cases hF : c.F g with
          | none => exact .inr ⟨none, fun gb hp => by simp only [coreK, hop, hcl, hF]; rfl⟩
          | some fn =>
            cases hti : c.tt o.type with
            | none => exact .inr ⟨none, fun gb hp => by simp only [coreK, hop, hcl, hF, hti]; rfl⟩
            | some ti =>
              cases hb' : fn.body with
              | some b => exact .inl ⟨ti, g, [], fun hp gb => by simp only [coreK, hop, hcl, hF, hti, hb']⟩
              | none => exact .inr ⟨(toVs (cl.args.toList.map ev)).bind fun vs => (one (c.X g vs)).bind fun z => some (.sv z), fun gb hp => by
                  simp only [coreK, hop, hcl, hF, hti, hb', Option.bind_assoc]; rfl⟩
        | const v => exact .inr ⟨none, fun gb hp => by simp only [coreK, hop, hcl]; rfl⟩
        | global g => exact .inr ⟨none, fun gb hp => by simp only [coreK, hop, hcl]; rfl⟩
      unfold LocM
      rw [eH] at hA hB ⊢
      rw [eB]
      rcases key with ⟨ti, g, caps, he⟩ | ⟨Z, hz⟩
      · rw [he] at hr ⊢
        obtain ⟨a1, a2, a3⟩ := loc_callK hr (fun h2 => hA (.inl (e24.mpr h2))) (fun h2 => hB (e24.mpr h2))
        rw [a1]
        by_cases h2 : h = 2 ∨ h = 4
        · simp only [if_pos h2, e24.mpr h2, if_true]
          exact ⟨by trivial, fun e => (by cases e), fun e => (by cases e), fun k g cs e => by rw [a3] at e; cases e⟩
        · have hne : (h == 2 || h == 4) = false := by
            cases e : (h == 2 || h == 4) with
            | false => rfl
            | true => exact absurd (e24.mp e) h2
          simp only [if_neg h2, hne, Bool.false_eq_true, if_false]
          exact ⟨trivial, fun _ => by rw [a2 h2], fun _ => by rw [a2 h2], fun k g cs e => by rw [a3] at e; cases e⟩
      · rw [hz] at hr ⊢
        obtain ⟨s, hs, hr⟩ := Option.bind_eq_some_iff.mp hr
        cases hr
        rw [hs]
        simp only [Option.bind_some]
        by_cases h2 : h = 2 ∨ h = 4
        · have hb2 : (h == 2 || h == 4) = true := e24.mpr h2
          rw [hp_ext (hB hb2) (hA (.inl hb2))]
          simp only [hb2, if_true]
          exact ⟨trivial, fun e => (by cases e), fun e => (by cases e), fun k g cs e => by cases e⟩
        · have hne : (h == 2 || h == 4) = false := by
            cases e : (h == 2 || h == 4) with
            | false => rfl
            | true => exact absurd (e24.mp e) h2
          simp only [hne, Bool.false_eq_true, if_false]
          exact ⟨trivial, fun _ => trivial, fun _ => trivial, fun k g cs e => by cases e⟩
  all_goals exact pure (by simp only [accH, hop]) (by simp only [hop])
end
end Go.Proofs.YtchmioacjkbfcaaGreat.AI

/- States as functions; one operation in the order of a region; two that do not clash change places. -/
namespace Go.Proofs.YtchmioacjkbfcaaGreat.AI
open Go
set_option linter.unusedVariables false
set_option linter.unusedSimpArgs false

structure Vw where
  sl : Nat → SV
  bx : Nat → Option (Nat × List AV)
  hp : Hp
def St.vw (st : St) : Vw := ⟨slot st.sl, getB st.bx, st.hp⟩
def evV (σ : Nat → SV) : Operand → SV
  | .tmp t => σ t
  | x => evS [] x
theorem evV_slot (l : Slots) : evV (slot l) = evS l := by
  funext x; cases x <;> rfl
def dnV (h : Nat) (o : Oper) (σ : Nat → SV) (k : Nat) : SV :=
  match o.op with
  | .extract (.tmp t) i => if h = 1 then σ k else if k = t then (match σ t with | .tp xs => .tp (match xs[i]? with | some y => xs.set i (ro y) | none => xs) | s => s) else σ k
  | _ => if k ∈ downs h o then (σ k).ro else σ k
def putV (σ : Nat → SV) (d : Option Tmp) (s : SV) (k : Nat) : SV := if d = some k then s else σ k
def setV (β : Nat → Option (Nat × List AV)) (b : BE) (k : Nat) : Option (Nat × List AV) :=
  match b with
  | some (j, g, cs) => if j = k then some (g, cs) else β k
  | none => β k
def fpV (tn : TypeId → Option TI) (h : Nat) (ops : Array Oper) (o : Oper) (ev : Operand → SV) (hp hp' : Hp) : Fp :=
  { rs := o.looksAt ops, ws := o.dst.toList ++ downs h o, br := (accB h o ev).1, bw := (accB h o ev).2, hr := (accH h o ev).1, hw := (accH h o ev).2.1, nw := (accH h o ev).2.2, lq := lqOf h o tn ev, gb := gsel (accH h o ev).2.1 hp, ga := gsel (accH h o ev).2.1 hp' }
theorem fpOf_eq (tn : TypeId → Option TI) (h : Nat) (ops : Array Oper) (o : Oper) (l : Slots) (hp hp' : Hp) : fpOf tn h ops o l hp hp' = fpV tn h ops o (evV (slot l)) hp hp' := by
  rw [evV_slot]; rfl
theorem dnOp_no {h : Nat} {o : Oper} (hno : ∀ t i, o.op ≠ .extract (.tmp t) i) (l : Slots) : dnOp h o l = dnAll (downs h o) l := by
  unfold dnOp
  split
  · rename_i t i hop; exact absurd hop (hno t i)
  · rfl
theorem dnV_no {h : Nat} {o : Oper} (hno : ∀ t i, o.op ≠ .extract (.tmp t) i) (σ : Nat → SV) (k : Nat) : dnV h o σ k = if k ∈ downs h o then (σ k).ro else σ k := by
  unfold dnV
  split
  · rename_i t i hop; exact absurd hop (hno t i)
  · rfl
theorem dn_slot (h : Nat) (o : Oper) (l : Slots) (k : Nat) : slot (dnOp h o l) k = dnV h o (slot l) k := by
  by_cases hop : ∃ t i, o.op = .extract (.tmp t) i
  · obtain ⟨t, i, hop⟩ := hop
    by_cases h1 : h = 1
    · have e1 : dnOp h o l = l := by simp only [dnOp, hop, if_pos h1]
      have e2 : dnV h o (slot l) k = slot l k := by simp only [dnV, hop, if_pos h1]
      rw [e1, e2]
    have e1 : dnOp h o l = dnX t i l := by simp only [dnOp, hop, if_neg h1]
    have e2 : dnV h o (slot l) k = if k = t then (match slot l t with | .tp xs => .tp (match xs[i]? with | some y => xs.set i (ro y) | none => xs) | s => s) else slot l k := by simp only [dnV, hop, if_neg h1] <;> rfl
    rw [e1, e2]
    simp only [dnX]
    cases hx : slot l t with
    | tp xs =>
      simp only
      rw [slot_put]
      by_cases e : t = k
      · subst e; rw [if_pos rfl, if_pos rfl]; rfl
      · have e' : ¬ k = t := fun h => e h.symm
        simp [e, e']
    | _ =>
      simp only
      by_cases e : k = t
      · subst e; simp [hx]
      · simp [e]
  · have hno : ∀ t i, o.op ≠ .extract (.tmp t) i := fun t i e => hop ⟨t, i, e⟩
    rw [dnOp_no hno, dnV_no hno, slot_dnAll]
theorem put_slot (l : Slots) (d : Option Tmp) (s : SV) (k : Nat) : slot (putS l d s) k = putV (slot l) d s k := by
  cases d with
  | none => simp [putS, putV]
  | some d =>
    simp only [putS, putV]
    rw [slot_put]
    by_cases e : d = k
    · subst e; simp
    · have : ¬ some d = some k := fun h => e (Option.some.inj h)
      simp [e]
theorem after_vw (h : Nat) (o : Oper) (st : St) (s : SV) (b : BE) (hp : Hp) : (after h o st s b hp).vw = ⟨putV (dnV h o (slot st.sl)) o.dst s, setV (getB st.bx) b, hp⟩ := by
  unfold St.vw after
  congr 1
  · funext k
    rw [put_slot]
    unfold putV
    rw [dn_slot]
  · funext k
    cases b with
    | none => rfl
    | some q => obtain ⟨j, g, cs⟩ := q; simp only [setV]; rw [getB_put]

section
variable (c : Cx) (C : Orc) (f : FuncId) (r : Nat) (ops : Array Oper)
def vExec (h : Nat) (o : Oper) (v : Vw) : Option (Vw × Fp) :=
  (coreK c C h o (evV v.sl) v.bx v.hp k3).bind fun q => some (⟨putV (dnV h o v.sl) o.dst q.1, setV v.bx q.2.1, q.2.2⟩, fpV c.tn h ops o (evV v.sl) v.hp q.2.2)
def vSkip (o : Oper) (v : Vw) : Vw × Fp := (⟨putV v.sl o.dst .ud, v.bx, v.hp⟩, fpSkip ops o)
def vOp (i : Nat) (v : Vw) : Option (Vw × Fp) :=
  match ops[i]? with
  | none => none
  | some o => match guarded o ops with
    | none => none
    | some none => vExec c C ops (c.H f r i) o v
    | some (some (g, want)) => match v.sl g with
      | .ud => some (vSkip ops o v)
      | .sv u => (asB u).bind fun t => if t = want then vExec c C ops (c.H f r i) o v else some (vSkip ops o v)
      | _ => none
def vRun : List Nat → Vw → Option (Vw × List (Nat × Fp))
  | [], v => some (v, [])
  | i :: is, v => (vOp c C f r ops i v).bind fun p => (vRun is p.1).bind fun q => some (q.1, (i, p.2) :: q.2)
end

section
variable {c : Cx} {C : Orc} {f : FuncId} {r : Nat} {ops : Array Oper}
theorem setT_vw (st : St) (g : Nat) (b : Bool) (h : slot st.sl g = .sv (.bool b)) : (setT st g b).vw = st.vw := by
  unfold setT St.vw
  congr 1
  funext k
  show slot ((g, .sv (.bool b)) :: st.sl) k = slot st.sl k
  rw [slot_put]
  split
  · rename_i e; subst e; exact h.symm
  · rfl
theorem execF_v {G : GoT} {is : List Nat} {d : Bool} {acc : List (Nat × Fp)} {k : List It} {h i : Nat} {o : Oper} {st : St} {q : AV × Hp} (hr : execF c C G r ops is d acc k h i o st = some q) :
    ∃ st1 F, vExec c C ops h o st.vw = some (st1.vw, F) ∧ G (.ops r ops is d (accP d i F acc) :: k) st1 = some q := by
  unfold execF at hr
  rw [coreK_nat] at hr
  obtain ⟨p, hp, hr⟩ := Option.bind_eq_some_iff.mp hr
  refine ⟨_, _, ?_, hr⟩
  unfold vExec
  show (coreK c C h o (evV (slot st.sl)) (getB st.bx) st.hp k3).bind _ = _
  rw [evV_slot, hp]
  simp only [Option.bind_some]
  rw [after_vw, fpOf_eq]
  rfl
theorem skipF_v {G : GoT} {is : List Nat} {d : Bool} {acc : List (Nat × Fp)} {k : List It} {i : Nat} {o : Oper} {st : St} {q : AV × Hp} (hr : skipF G r ops is d acc k i o st = some q) :
    ∃ st1, vSkip ops o st.vw = (st1.vw, fpSkip ops o) ∧ G (.ops r ops is d (accP d i (fpSkip ops o) acc) :: k) st1 = some q := by
  unfold skipF at hr
  refine ⟨_, ?_, hr⟩
  unfold vSkip St.vw
  congr 2
  funext k
  exact (put_slot _ _ _ k).symm
theorem opF_v {G : GoT} {is : List Nat} {d : Bool} {acc : List (Nat × Fp)} {k : List It} {i : Nat} {o : Oper} {st : St} {q : AV × Hp} (ho : ops[i]? = some o) (hr : opF c C G r ops is d acc k (c.H f r i) i o st = some q) :
    ∃ st1 F, vOp c C f r ops i st.vw = some (st1.vw, F) ∧ G (.ops r ops is d (accP d i F acc) :: k) st1 = some q := by
  unfold opF at hr
  unfold vOp
  rw [ho]
  simp only
  split at hr
  · cases hr
  · rename_i hg
    rw [hg]
    exact execF_v hr
  · rename_i g want hg
    rw [hg]
    simp only
    have hs : st.vw.sl g = slot st.sl g := rfl
    rw [hs]
    split at hr
    · rename_i hud
      rw [hud]
      obtain ⟨st1, h1, h2⟩ := skipF_v hr
      exact ⟨st1, _, by simp only; rw [h1], h2⟩
    · rename_i u hsv
      rw [hsv]
      simp only
      obtain ⟨t, ht, hr⟩ := Option.bind_eq_some_iff.mp hr
      rw [ht]
      simp only [Option.bind_some]
      have hu := asB_some ht
      subst hu
      cases want <;> cases t
      · simp only [cond_false, if_true] at hr ⊢
        obtain ⟨st1, F, h1, h2⟩ := execF_v hr
        rw [setT_vw _ _ _ hsv] at h1
        exact ⟨st1, F, h1, h2⟩
      · simp only [cond_true] at hr ⊢
        obtain ⟨st1, h1, h2⟩ := skipF_v hr
        rw [setT_vw _ _ _ hsv] at h1
        exact ⟨st1, _, by simp [h1], h2⟩
      · simp only [cond_false] at hr ⊢
        obtain ⟨st1, h1, h2⟩ := skipF_v hr
        rw [setT_vw _ _ _ hsv] at h1
        exact ⟨st1, _, by simp [h1], h2⟩
      · simp only [cond_true, if_true] at hr ⊢
        obtain ⟨st1, F, h1, h2⟩ := execF_v hr
        rw [setT_vw _ _ _ hsv] at h1
        exact ⟨st1, F, h1, h2⟩
    · cases hr
/-- The walk through a region's operations. -/
theorem ops_v : ∀ (n : Nat) (is : List Nat) (d : Bool) (acc : List (Nat × Fp)) (k : List It) (st : St) (q : AV × Hp), goC c C f n (.ops r ops is d acc :: k) st = some q →
    ∃ n' st' accs, n' < n ∧ vRun c C f r ops is st.vw = some (st'.vw, accs) ∧ (d = true → drawOk ops (accs.reverse ++ acc) = true ∧ ∀ o ∈ pend ops (accs.reverse ++ acc), o = some ()) ∧ goC c C f n' k st' = some q
  | 0, _, _, _, _, _, _, h => by simp [goC] at h
  | n + 1, [], d, acc, k, st, q, h => by
    simp only [goC, stepF] at h
    cases ht : (!d || drawOk ops acc) with
    | false => rw [ht] at h; cases h
    | true =>
      rw [ht] at h
      obtain ⟨h1, h2⟩ := bindL_some h
      exact ⟨n, st, [], Nat.lt_succ_self n, rfl, fun hd => by subst hd; exact ⟨by simpa using ht, h1⟩, h2⟩
  | n + 1, i :: is, d, acc, k, st, q, h => by
    simp only [goC, stepF] at h
    obtain ⟨o, ho, h⟩ := Option.bind_eq_some_iff.mp h
    obtain ⟨st1, F, h1, h2⟩ := opF_v ho h
    obtain ⟨n', st', accs, h3, h4, h5, h6⟩ := ops_v n is d _ k st1 q h2
    refine ⟨n', st', (i, F) :: accs, by omega, ?_, fun hd => ?_, h6⟩
    · simp only [vRun, h1, Option.bind_some, h4]
    · have := h5 hd
      subst hd
      simpa [accP] using this
end
end Go.Proofs.YtchmioacjkbfcaaGreat.AI

/- Two operations that do not clash change places; an operation is drawn to the front. -/
namespace Go.Proofs.YtchmioacjkbfcaaGreat.AI
open Go
set_option linter.unusedVariables false
set_option linter.unusedSimpArgs false

def mix (F : Fp) (v1 v : Vw) : Vw :=
  ⟨fun k => if k ∈ F.ws then v1.sl k else v.sl k, fun k => if F.bw = some k then v1.bx k else v.bx k, ⟨if F.nw = true then v1.hp.next else v.hp.next, if F.hw = true then v1.hp.get else v.hp.get⟩⟩
/-- What the operation looks at is alike. -/
structure Like (F : Fp) (v' v : Vw) : Prop where
  s : ∀ k, k ∈ F.rs ∨ k ∈ F.ws → v'.sl k = v.sl k
  b : ∀ k, F.br = some k ∨ F.bw = some k → v'.bx k = v.bx k
  A : F.hr = true ∨ F.hw = true → v'.hp.get = v.hp.get
  B : F.nw = true → v'.hp.next = v.hp.next
  L : ∀ q, F.lq = some q → seeG q v'.hp.get = seeG q v.hp.get
theorem gsel_get {b : Bool} {hp hp' : Hp} (h : b = true → hp'.get = hp.get) : gsel b hp' = gsel b hp := by
  cases b with
  | false => rfl
  | true => exact h rfl
theorem lq_ev {h : Nat} {o : Oper} {tn : TypeId → Option TI} {ev ev' : Operand → SV} (h1 : ∀ x ∈ o.op.operands.toList, ev x = ev' x) : lqOf h o tn ev = lqOf h o tn ev' := by
  obtain ⟨dst, op, type, pos, after, guard⟩ := o
  cases op <;> simp only [Op.operands] at h1 <;> simp only [lqOf]
  case load t x => rw [h1 x (by simp)]
theorem vw_ext {a b : Vw} (h1 : ∀ k, a.sl k = b.sl k) (h2 : ∀ k, a.bx k = b.bx k) (h3 : a.hp.next = b.hp.next) (h4 : a.hp.get = b.hp.get) : a = b := by
  obtain ⟨s, x, p⟩ := a
  obtain ⟨s', x', p'⟩ := b
  have e1 : s = s' := funext h1
  have e2 : x = x' := funext h2
  have e3 : p = p' := hp_ext h3 h4
  subst e1; subst e2; subst e3; rfl

section
variable {c : Cx} {C : Orc} {f : FuncId} {r : Nat} {ops : Array Oper}
theorem dnV_congr {h : Nat} {o : Oper} {σ σ' : Nat → SV} {k : Nat} (hk : σ' k = σ k) : dnV h o σ' k = dnV h o σ k := by
  unfold dnV
  split
  · rename_i t i hop
    by_cases h1 : h = 1
    · rw [if_pos h1, if_pos h1, hk]
    rw [if_neg h1, if_neg h1]
    by_cases e : k = t
    · subst e; rw [if_pos rfl, if_pos rfl, hk]
    · rw [if_neg e, if_neg e, hk]
  · rw [hk]
theorem dnV_out {h : Nat} {o : Oper} {σ : Nat → SV} {k : Nat} (hk : k ∉ downs h o) : dnV h o σ k = σ k := by
  unfold dnV
  split
  · rename_i t i hop
    by_cases h1 : h = 1
    · rw [if_pos h1]
    rw [if_neg h1]
    have : k ≠ t := by
      rintro rfl
      apply hk
      simp only [downs, hop, if_neg h1, tmpsOf, List.mem_singleton]
    rw [if_neg this]
  · rw [if_neg hk]
theorem looks_tmp {o : Oper} {t : Nat} (h : Operand.tmp t ∈ o.op.operands.toList) : t ∈ o.looksAt ops :=
  List.mem_append_left _ (List.mem_filterMap.2 ⟨.tmp t, h, rfl⟩)
theorem vExec_loc {h : Nat} {o : Oper} {v v' v1 : Vw} {F : Fp} (hr : vExec c C ops h o v = some (v1, F)) (hl : Like F v' v) : vExec c C ops h o v' = some (mix F v1 v', F) := by
  unfold vExec at hr ⊢
  obtain ⟨q, hq, hr⟩ := Option.bind_eq_some_iff.mp hr
  have hF : fpV c.tn h ops o (evV v.sl) v.hp q.2.2 = F := (Prod.mk.inj (Option.some.inj hr)).2
  have hv1 : (⟨putV (dnV h o v.sl) o.dst q.1, setV v.bx q.2.1, q.2.2⟩ : Vw) = v1 := (Prod.mk.inj (Option.some.inj hr)).1
  subst hv1
  subst hF
  have hev : ∀ x ∈ o.op.operands.toList, evV v'.sl x = evV v.sl x := by
    intro x hx
    cases x with
    | tmp t => exact hl.s t (.inl (looks_tmp hx))
    | _ => rfl
  have ha := acc_ev (h := h) hev
  obtain ⟨l1, l2, l3, l4⟩ := coreK_loc (gb' := v'.bx) (hp' := v'.hp) hq (fun k hk => hl.b k hk) (fun hk => hl.A hk) (fun hk => hl.B hk) (fun q hk => hl.L q hk)
  rw [coreK_ev hev, l1]
  simp only [Option.bind_some]
  have hfp : ∀ g : Hp, ((accH h o (evV v.sl)).2.1 = true → g.get = q.2.2.get) → fpV c.tn h ops o (evV v'.sl) v'.hp g = fpV c.tn h ops o (evV v.sl) v.hp q.2.2 := by
    intro g hg
    unfold fpV
    rw [ha.1, ha.2, lq_ev (h := h) (tn := c.tn) hev, gsel_get (b := (accH h o (evV v.sl)).2.1) (hp' := v'.hp) (hp := v.hp) (fun hw => hl.A (.inr hw)), gsel_get (b := (accH h o (evV v.sl)).2.1) hg]
  rw [hfp _ (fun hw => by simp only [hw, if_true])]
  congr 2
  refine vw_ext (fun k => ?_) (fun k => ?_) rfl rfl
  · show putV (dnV h o v'.sl) o.dst q.1 k = if k ∈ o.dst.toList ++ downs h o then putV (dnV h o v.sl) o.dst q.1 k else v'.sl k
    by_cases hk : k ∈ o.dst.toList ++ downs h o
    · rw [if_pos hk]
      unfold putV
      rw [dnV_congr (hl.s k (.inr hk))]
    · rw [if_neg hk]
      unfold putV
      have h1 : ¬ o.dst = some k := fun e => hk (by simp [e])
      have h2 : k ∉ downs h o := fun e => hk (by simp [e])
      rw [if_neg h1, dnV_out h2]
  · show setV v'.bx q.2.1 k = if (accB h o (evV v.sl)).2 = some k then setV v.bx q.2.1 k else v'.bx k
    by_cases hk : (accB h o (evV v.sl)).2 = some k
    · rw [if_pos hk]
      have := hl.b k (.inr hk)
      unfold setV
      rw [this]
    · rw [if_neg hk]
      unfold setV
      split
      · rename_i j g cs e
        have : j ≠ k := by
          rintro rfl
          exact hk (l4 _ _ _ e)
        rw [if_neg this]
      · rfl
theorem vSkip_loc {o : Oper} {v v' v1 : Vw} {F : Fp} (hr : vSkip ops o v = (v1, F)) (hl : Like F v' v) : vSkip ops o v' = (mix F v1 v', F) := by
  unfold vSkip at hr ⊢
  cases hr
  congr 1
  refine vw_ext (fun k => ?_) (fun k => ?_) (by simp [mix, fpSkip]) (by simp [mix, fpSkip])
  · show putV v'.sl o.dst .ud k = if k ∈ o.dst.toList then putV v.sl o.dst .ud k else v'.sl k
    unfold putV
    by_cases hk : o.dst = some k
    · have : k ∈ o.dst.toList := by simp [hk]
      rw [if_pos hk, if_pos this, if_pos hk]
    · have : ¬ k ∈ o.dst.toList := by simpa using hk
      rw [if_neg hk, if_neg this]
  · show v'.bx k = if (none : Option Nat) = some k then v.bx k else v'.bx k
    rw [if_neg (by simp)]
theorem guarded_looks {o : Oper} {g : Nat} {want : Bool} (h : guarded o ops = some (some (g, want))) : g ∈ o.looksAt ops := by
  unfold guarded at h
  split at h
  · cases h
  · rename_i j want' hg
    split at h
    · rename_i oj hj
      split at h
      · rename_i d hd
        cases h
        refine List.mem_append_right _ ?_
        rw [hg]
        simp [hj, hd]
      · cases h
    · cases h
theorem vOp_loc {i : Nat} {v v' v1 : Vw} {F : Fp} (hr : vOp c C f r ops i v = some (v1, F)) (hl : Like F v' v) : vOp c C f r ops i v' = some (mix F v1 v', F) := by
  unfold vOp at hr ⊢
  cases ho : ops[i]? with
  | none => rw [ho] at hr; cases hr
  | some o =>
    rw [ho] at hr
    simp only at hr ⊢
    cases hg : guarded o ops with
    | none => rw [hg] at hr; cases hr
    | some gw =>
      rw [hg] at hr
      cases gw with
      | none => exact vExec_loc hr hl
      | some q =>
        obtain ⟨g, want⟩ := q
        simp only at hr ⊢
        have hlook := guarded_looks hg
        have hsl : v'.sl g = v.sl g := by
          refine hl.s g (.inl ?_)
          cases hvg : v.sl g with
          | ud => rw [hvg] at hr; simp only at hr; cases hr; exact hlook
          | sv u =>
            rw [hvg] at hr
            simp only at hr
            obtain ⟨t, ht, hr⟩ := Option.bind_eq_some_iff.mp hr
            split at hr
            · unfold vExec at hr
              obtain ⟨q, hq, hr⟩ := Option.bind_eq_some_iff.mp hr
              cases hr; exact hlook
            · cases hr; exact hlook
          | _ => rw [hvg] at hr; cases hr
        rw [hsl]
        cases hvg : v.sl g with
        | ud =>
          rw [hvg] at hr
          simp only at hr ⊢
          exact congrArg some (vSkip_loc (Option.some.inj hr) hl)
        | sv u =>
          rw [hvg] at hr
          simp only at hr ⊢
          obtain ⟨t, ht, hr⟩ := Option.bind_eq_some_iff.mp hr
          rw [ht]
          simp only [Option.bind_some]
          split at hr
          · rename_i e; rw [if_pos e]; exact vExec_loc hr hl
          · rename_i e; rw [if_neg e]; exact congrArg some (vSkip_loc (Option.some.inj hr) hl)
        | _ => rw [hvg] at hr; cases hr
theorem Like.refl (F : Fp) (v : Vw) : Like F v v := ⟨fun _ _ => rfl, fun _ _ => rfl, fun _ => rfl, fun _ => rfl, fun _ _ => rfl⟩
/-- What a write's footprint tells of the heaps ahead and behind. -/
theorem vOp_g {i : Nat} {v v1 : Vw} {F : Fp} (hr : vOp c C f r ops i v = some (v1, F)) (hw : F.hw = true) : F.gb = v.hp.get ∧ F.ga = v1.hp.get := by
  have ex : ∀ {h : Nat} {o : Oper}, vExec c C ops h o v = some (v1, F) → F.gb = v.hp.get ∧ F.ga = v1.hp.get := by
    intro h o hr
    unfold vExec at hr
    obtain ⟨q, hq, hr⟩ := Option.bind_eq_some_iff.mp hr
    cases hr
    have hw : (accH h o (evV v.sl)).2.1 = true := hw
    simp only [fpV, hw, gsel, and_self]
  have sk : ∀ {o : Oper}, some (vSkip ops o v) = some (v1, F) → F.gb = v.hp.get ∧ F.ga = v1.hp.get := by
    intro o hr
    cases hr
    cases hw
  unfold vOp at hr
  split at hr
  · cases hr
  · split at hr
    · cases hr
    · exact ex hr
    · split at hr
      · exact sk hr
      · obtain ⟨t, ht, hr⟩ := Option.bind_eq_some_iff.mp hr
        split at hr
        · exact ex hr
        · exact sk hr
      · cases hr
theorem vOp_keep {i : Nat} {v v1 : Vw} {F : Fp} (hr : vOp c C f r ops i v = some (v1, F)) : v1 = mix F v1 v := by
  have := vOp_loc hr (Like.refl F v)
  rw [hr] at this
  exact (Prod.mk.inj (Option.some.inj this)).1
theorem meets_false {a b : List Nat} (h : meets a b = false) {k : Nat} (ha : k ∈ a) : k ∉ b := by
  intro hb
  have : meets a b = true := by
    unfold meets
    rw [List.any_eq_true]
    exact ⟨k, ha, by simpa using hb⟩
  rw [this] at h; cases h
structure Apart (a b : Fp) : Prop where
  wr : ∀ k, k ∈ a.ws → k ∉ b.rs
  ww : ∀ k, k ∈ a.ws → k ∉ b.ws
  rw_ : ∀ k, k ∈ a.rs → k ∉ b.ws
  bww : ∀ k, a.bw = some k → b.bw ≠ some k
  bwr : ∀ k, a.bw = some k → b.br ≠ some k
  brw : ∀ k, a.br = some k → b.bw ≠ some k
  hwx : a.hw = true → b.hr = false ∧ b.hw = false
  hrw : a.hr = true → b.hw = false
  nn : a.nw = true → b.nw = false
  qa : ∀ q, a.lq = some q → b.hw = true → seeG q b.gb = seeG q b.ga
  qb : ∀ q, b.lq = some q → a.hw = true → seeG q a.gb = seeG q a.ga
theorem apart_of {a b : Fp} (h : clash a b = false) (qa : ∀ q, a.lq = some q → b.hw = true → seeG q b.gb = seeG q b.ga) (qb : ∀ q, b.lq = some q → a.hw = true → seeG q a.gb = seeG q a.ga) : Apart a b := by
  unfold clash at h
  simp only [Bool.or_eq_false_iff] at h
  obtain ⟨⟨⟨⟨⟨⟨⟨⟨h1, h2⟩, h3⟩, h4⟩, h5⟩, h6⟩, h7⟩, h8⟩, h9⟩ := h
  refine ⟨fun k hk => meets_false h1 hk, fun k hk => meets_false h2 hk, fun k hk => meets_false h3 hk, fun k e e' => ?_, fun k e e' => ?_, fun k e e' => ?_, fun e => ?_, fun e => ?_, fun e => ?_, qa, qb⟩
  · rw [e, e'] at h4; simp at h4
  · rw [e, e'] at h5; simp at h5
  · rw [e, e'] at h6; simp at h6
  · rw [e] at h7; simpa using h7
  · rw [e] at h8; simpa using h8
  · rw [e] at h9; simpa using h9
theorem vOp_swap {x y : Nat} {v v1 v2 : Vw} {Fx Fy : Fp} (hx : vOp c C f r ops x v = some (v1, Fx)) (hy : vOp c C f r ops y v1 = some (v2, Fy)) (ha : Apart Fx Fy) :
    ∃ v1', vOp c C f r ops y v = some (v1', Fy) ∧ vOp c C f r ops x v1' = some (v2, Fx) := by
  have kx := vOp_keep hx
  have ky := vOp_keep hy
  have xs : ∀ k, k ∉ Fx.ws → v1.sl k = v.sl k := fun k hk => by rw [kx]; simp [mix, hk]
  have xb : ∀ k, Fx.bw ≠ some k → v1.bx k = v.bx k := fun k hk => by rw [kx]; simp [mix, hk]
  have xA : Fx.hw = false → v1.hp.get = v.hp.get := fun h => by rw [kx]; simp [mix, h]
  have xB : Fx.nw = false → v1.hp.next = v.hp.next := fun h => by rw [kx]; simp [mix, h]
  have hy' := vOp_loc hy (v' := v) {
    s := fun k hk => (xs k (hk.elim (fun h e => ha.wr k e h) (fun h e => ha.ww k e h))).symm
    b := fun k hk => (xb k (hk.elim (fun h e => ha.bwr k e h) (fun h e => ha.bww k e h))).symm
    A := fun hk => (xA (by
      cases hw : Fx.hw with
      | false => rfl
      | true => have := ha.hwx hw; rcases hk with h | h <;> simp [this] at h)).symm
    B := fun hk => (xB (by
      cases hw : Fx.nw with
      | false => rfl
      | true => have := ha.nn hw; rw [this] at hk; cases hk)).symm
    L := fun q hq => by
      cases hw : Fx.hw with
      | false => rw [xA hw]
      | true =>
        obtain ⟨g1, g2⟩ := vOp_g hx hw
        rw [← g1, ← g2]
        exact ha.qb q hq hw }
  refine ⟨_, hy', ?_⟩
  have hx' := vOp_loc hx (v' := mix Fy v2 v) {
    s := fun k hk => by
      have : k ∉ Fy.ws := hk.elim (fun h => ha.rw_ k h) (fun h => ha.ww k h)
      simp [mix, this]
    b := fun k hk => by
      have : Fy.bw ≠ some k := hk.elim (fun h => ha.brw k h) (fun h => ha.bww k h)
      simp [mix, this]
    A := fun hk => by
      have : Fy.hw = false := hk.elim (fun h => ha.hrw h) (fun h => (ha.hwx h).2)
      simp [mix, this]
    B := fun hk => by
      have : Fy.nw = false := ha.nn hk
      simp [mix, this]
    L := fun q hq => by
      cases hw : Fy.hw with
      | false => simp [mix, hw]
      | true =>
        obtain ⟨g1, g2⟩ := vOp_g hy hw
        have hxw : Fx.hw = false := by
          cases h : Fx.hw with
          | false => rfl
          | true => have := (ha.hwx h).2; rw [hw] at this; cases this
        have e : (mix Fy v2 v).hp.get = v2.hp.get := by simp [mix, hw]
        rw [e, ← g2, ← xA hxw, ← g1]
        exact (ha.qa q hq hw).symm }
  rw [hx']
  congr 2
  refine vw_ext (fun k => ?_) (fun k => ?_) ?_ ?_
  · show (if k ∈ Fx.ws then v1.sl k else if k ∈ Fy.ws then v2.sl k else v.sl k) = v2.sl k
    by_cases h1 : k ∈ Fx.ws
    · rw [if_pos h1, ky]
      simp [mix, ha.ww k h1]
    · rw [if_neg h1]
      by_cases h2 : k ∈ Fy.ws
      · rw [if_pos h2]
      · rw [if_neg h2, ky]
        simp [mix, h2, xs k h1]
  · show (if Fx.bw = some k then v1.bx k else if Fy.bw = some k then v2.bx k else v.bx k) = v2.bx k
    by_cases h1 : Fx.bw = some k
    · rw [if_pos h1, ky]
      simp [mix, ha.bww k h1]
    · rw [if_neg h1]
      by_cases h2 : Fy.bw = some k
      · rw [if_pos h2]
      · rw [if_neg h2, ky]
        simp [mix, h2, xb k h1]
  · show (if Fx.nw = true then v1.hp.next else if Fy.nw = true then v2.hp.next else v.hp.next) = v2.hp.next
    by_cases h1 : Fx.nw = true
    · rw [if_pos h1, ky]
      simp [mix, ha.nn h1]
    · rw [if_neg h1]
      by_cases h2 : Fy.nw = true
      · rw [if_pos h2]
      · rw [if_neg h2, ky]
        simp [mix, h2, xB (by simpa using h1)]
  · show (if Fx.hw = true then v1.hp.get else if Fy.hw = true then v2.hp.get else v.hp.get) = v2.hp.get
    by_cases h1 : Fx.hw = true
    · rw [if_pos h1, ky]
      simp [mix, (ha.hwx h1).2]
    · rw [if_neg h1]
      by_cases h2 : Fy.hw = true
      · rw [if_pos h2]
      · rw [if_neg h2, ky]
        simp [mix, h2, xA (by simpa using h1)]
/-- An operation is drawn to the front. -/
theorem vRun_front {y : Nat} : ∀ (L1 L2 : List Nat) (v v2 : Vw) (accs : List (Nat × Fp)), vRun c C f r ops (L1 ++ y :: L2) v = some (v2, accs) →
    (∀ x Fx Fy, (x, Fx) ∈ accs.take L1.length → (y, Fy) ∈ accs → Apart Fx Fy) →
    ∃ v1 F acc1 acc2, vOp c C f r ops y v = some (v1, F) ∧ vRun c C f r ops (L1 ++ L2) v1 = some (v2, acc1 ++ acc2) ∧ accs = acc1 ++ (y, F) :: acc2 ∧ acc1.length = L1.length
  | [], L2, v, v2, accs, h, _ => by
    simp only [List.nil_append, vRun] at h
    obtain ⟨p, hp, h⟩ := Option.bind_eq_some_iff.mp h
    obtain ⟨q, hq, h⟩ := Option.bind_eq_some_iff.mp h
    cases h
    exact ⟨p.1, p.2, [], q.2, hp, hq, rfl, rfl⟩
  | x :: L1, L2, v, v2, accs, h, ha => by
    simp only [List.cons_append, vRun] at h
    obtain ⟨⟨v1, Fx⟩, hx, h⟩ := Option.bind_eq_some_iff.mp h
    obtain ⟨⟨v2', acc'⟩, hrest, h⟩ := Option.bind_eq_some_iff.mp h
    cases h
    obtain ⟨w1, F, acc1, acc2, h1, h2, h3, h4⟩ := vRun_front L1 L2 v1 v2' acc' hrest (fun x' Fx' Fy' hx' hy' => ha x' Fx' Fy' (by simp; exact .inr hx') (by simp [hy']))
    obtain ⟨u, hu1, hu2⟩ := vOp_swap hx h1 (ha x Fx F (by simp) (by rw [h3]; simp))
    refine ⟨u, F, (x, Fx) :: acc1, acc2, hu1, ?_, by rw [h3]; rfl, by simp [h4]⟩
    simp only [List.cons_append, vRun, hu2, Option.bind_some, h2]
end
end Go.Proofs.YtchmioacjkbfcaaGreat.AI

/- A region whose order is drawn: every order does what the first one does. -/
namespace Go.Proofs.YtchmioacjkbfcaaGreat.AI
open Go
set_option linter.unusedVariables false
set_option linter.unusedSimpArgs false

/-! ### what must stand ahead -/
def dsOf (o : Oper) : List Nat := (o.after.toList.filter fun e => Region.binds .any e).map (·.on)
def AncOk (all : List Oper) (t : List (List Nat)) : Prop :=
  ∀ j x, x ∈ t.getD j [] → ∃ o, all[j]? = some o ∧ (x ∈ dsOf o ∨ ∃ d ∈ dsOf o, x ∈ t.getD d [])
theorem getD_append_lt {α : Type} (t : List α) (e d : α) (j : Nat) (h : j < t.length) : (t ++ [e]).getD j d = t.getD j d := by
  simp [List.getD, List.getElem?_append_left h]
theorem getD_len {α : Type} (t : List (List α)) (j : Nat) (x : α) (h : x ∈ t.getD j []) : j < t.length := by
  rcases Nat.lt_or_ge j t.length with h' | h'
  · exact h'
  · simp [List.getD, List.getElem?_eq_none h'] at h
theorem anc_spec (all : List Oper) : ∀ (L done : List Oper) (t : List (List Nat)), all = done ++ L → t.length = done.length → AncOk all t → AncOk all (ancTab L t)
  | [], done, t, _, _, h => h
  | o :: L, done, t, he, hl, h => by
    simp only [ancTab]
    refine anc_spec all L (done ++ [o]) _ (by rw [he]; simp) (by simp [hl]) ?_
    intro j x hx
    by_cases hj : j < t.length
    · rw [getD_append_lt _ _ _ _ hj] at hx
      obtain ⟨o', h1, h2⟩ := h j x hx
      refine ⟨o', h1, h2.imp id ?_⟩
      rintro ⟨d, hd, hxd⟩
      exact ⟨d, hd, by rw [getD_append_lt _ _ _ _ (getD_len _ _ _ hxd)]; exact hxd⟩
    · have hj' : j = t.length := by
        have := getD_len _ _ _ hx
        simp at this
        omega
      subst hj'
      have hx' : x ∈ ((dsOf o) ++ (dsOf o).flatMap fun j => t.getD j []) := by
        have e : ∀ E : List Nat, (t ++ [E]).getD t.length [] = E := fun E => by simp [List.getD]
        rw [e] at hx
        exact List.mem_eraseDups.mp hx
      refine ⟨o, by rw [he, hl]; simp, ?_⟩
      rw [List.mem_append, List.mem_flatMap] at hx'
      refine hx'.imp id ?_
      rintro ⟨d, hd, hxd⟩
      exact ⟨d, hd, by rw [getD_append_lt _ _ _ _ (getD_len _ _ _ hxd)]; exact hxd⟩
theorem mem_dsOf {o : Oper} {d : Nat} : d ∈ dsOf o ↔ ∃ e ∈ o.after, Region.binds .any e = true ∧ e.on = d := by
  unfold dsOf
  rw [List.mem_map]
  constructor
  · rintro ⟨e, he, rfl⟩
    obtain ⟨h1, h2⟩ := List.mem_filter.mp he
    exact ⟨e, by simpa using h1, h2, rfl⟩
  · rintro ⟨e, h1, h2, rfl⟩
    exact ⟨e, List.mem_filter.mpr ⟨by simpa using h1, h2⟩, rfl⟩
theorem depsB_lt {ops : Array Oper} (h : depsB ops = true) {i d : Nat} {o : Oper} (ho : ops[i]? = some o) (hd : d ∈ dsOf o) : d < i := by
  have hi : i < ops.size := (Array.getElem?_eq_some_iff.mp ho).1
  have := List.all_eq_true.mp h i (List.mem_range.mpr hi)
  rw [ho] at this
  obtain ⟨e, h1, h2, rfl⟩ := mem_dsOf.mp hd
  have := List.all_eq_true.mp this e (by simpa using h1)
  simpa [h2] using this
/-- Whoever stands ahead is listed. -/
theorem anc_listed {ops : Array Oper} (hdeps : depsB ops = true) (S : Nat → Prop) (hcl : ∀ j o d, S j → ops[j]? = some o → d ∈ dsOf o → S d) :
    ∀ (n j : Nat), j ≤ n → (∀ o d, ops[j]? = some o → d ∈ dsOf o → S d) → ∀ x, x ∈ (ancTab ops.toList []).getD j [] → S x := by
  have hA : AncOk ops.toList (ancTab ops.toList []) := anc_spec ops.toList ops.toList [] [] rfl rfl (by intro j x hx; simp [List.getD] at hx)
  intro n
  induction n with
  | zero =>
    intro j hj hdir x hx
    obtain ⟨o, ho, hx⟩ := hA j x hx
    have ho' : ops[j]? = some o := by simpa using ho
    rcases hx with hx | ⟨d, hd, hx⟩
    · exact hdir o x ho' hx
    · have := depsB_lt hdeps ho' hd; omega
  | succ n ih =>
    intro j hj hdir x hx
    obtain ⟨o, ho, hx⟩ := hA j x hx
    have ho' : ops[j]? = some o := by simpa using ho
    rcases hx with hx | ⟨d, hd, hx⟩
    · exact hdir o x ho' hx
    · have hlt := depsB_lt hdeps ho' hd
      exact ih d (by omega) (fun o' d' h1 h2 => hcl d o' d' (hdir o d ho' hd) h1 h2) x hx

/-- Whoever is listed stands ahead. -/
theorem anc_lt {ops : Array Oper} (hdeps : depsB ops = true) : ∀ {j x : Nat}, x ∈ (ancTab ops.toList []).getD j [] → x < j := by
  have hA : AncOk ops.toList (ancTab ops.toList []) := anc_spec ops.toList ops.toList [] [] rfl rfl (by intro j x hx; simp [List.getD] at hx)
  have key : ∀ n j, j ≤ n → ∀ x, x ∈ (ancTab ops.toList []).getD j [] → x < j := by
    intro n
    induction n with
    | zero =>
      intro j hj x hx
      obtain ⟨o, ho, hx⟩ := hA j x hx
      have ho' : ops[j]? = some o := by simpa using ho
      rcases hx with hx | ⟨d, hd, hx⟩
      · exact depsB_lt hdeps ho' hx
      · have := depsB_lt hdeps ho' hd; omega
    | succ n ih =>
      intro j hj x hx
      obtain ⟨o, ho, hx⟩ := hA j x hx
      have ho' : ops[j]? = some o := by simpa using ho
      rcases hx with hx | ⟨d, hd, hx⟩
      · exact depsB_lt hdeps ho' hx
      · have h1 := depsB_lt hdeps ho' hd
        have h2 := ih d (by omega) x hx
        omega
  intro j x hx
  exact key j j (Nat.le_refl j) x hx

/-! ### one operation -/
def InvV (G : Gh) (w : World) (v : Vw) (tmps : Array Value) : Prop := ∃ st : St, st.vw = v ∧ Inv G w st tmps
/-- What a region's run leaves. -/
def AftV (G : Gh) (w : World) (a : Act) (v : Vw) (a' : Act) (w' : World) : Prop :=
  ∃ G', InvV G' w' v a'.tmps ∧ Fr G w G' w' ∧ a'.tmps.size = a.tmps.size ∧ a'.defers = a.defers
section
variable {c : Cx} {R : Orc} {f : FuncId} {r : Nat} {ops : Array Oper} {G : Gh} {w : World} {a : Act} {Q : Exit → Act → World → Prop}
abbrev Bodies (c : Cx) (R : Orc) : Prop := ∀ f xs hp r, R f xs hp = some r → ∃ fn b, c.F f = some fn ∧ fn.body = some b
theorem vExec_ok (hc : Ok c) (hR : Sound c R) (hS : Bodies c R) {h : Nat} {o : Oper} {v v1 : Vw} {F : Fp} (hr : vExec c R ops h o v = some (v1, F)) (hI : InvV G w v a.tmps) (hd : Dst o a) {K : Act → World → Prop}
    (hK : ∀ a' w', AftV G w a v1 a' w' → K a' w') : o.wp c.P a w K Q := by
  obtain ⟨st, rfl, hI⟩ := hI
  unfold vExec at hr
  obtain ⟨q, hq, hr⟩ := Option.bind_eq_some_iff.mp hr
  have hv1 : (⟨putV (dnV h o st.vw.sl) o.dst q.1, setV st.vw.bx q.2.1, q.2.2⟩ : Vw) = v1 := (Prod.mk.inj (Option.some.inj hr)).1
  have hq' : coreK c R h o (evS st.sl) (getB st.bx) st.hp k3 = some q := by rw [← evV_slot]; exact hq
  refine Oper.wp_mono (fun a' w' ha => ?_) (core_ok (Q := Q) hc hR hS hI hd h hq')
  obtain ⟨G', h1, h2, h3, h4⟩ := ha
  exact hK a' w' ⟨G', ⟨_, by rw [after_vw]; exact hv1, h1⟩, h2, h3, h4⟩
theorem vSkip_ok {o : Oper} {v : Vw} (hI : InvV G w v a.tmps) (hd : Dst o a) : AftV G w a (vSkip ops o v).1 (a.put o.dst undef) w := by
  obtain ⟨st, rfl, hI⟩ := hI
  refine ⟨G, ⟨⟨putS st.sl o.dst .ud, st.bx, st.hp⟩, ?_, ?_⟩, Fr.refl G w, put_size _ _ _, put_defers _ _ _⟩
  · unfold St.vw vSkip
    congr 1
    funext k
    exact put_slot _ _ _ k
  · exact hI.put o.dst hd (fun k _ => rfl) (fun k g off e => by cases e)
theorem wanted_guard {o : Oper} {g : Nat} {want : Bool} (hg : guarded o ops = some (some (g, want))) (tmps : Array Value) :
    Region.wanted o (yielded ops tmps) = ((match tmps[g]? with | some (.bool b) => some b | _ => none) == some want) := by
  unfold guarded at hg
  split at hg
  · cases hg
  · rename_i j want' hgo
    split at hg
    · rename_i oj hj
      split at hg
      · rename_i d hd
        cases hg
        simp only [Region.wanted, hgo, yielded, hj, hd, Option.bind_some] <;> rfl
      · cases hg
    · cases hg
theorem wanted_none {o : Oper} (hg : guarded o ops = some none) (y : Nat → Option Bool) : Region.wanted o y = true := by
  unfold guarded at hg
  split at hg
  · rename_i h; simp only [Region.wanted, h]
  · split at hg
    · split at hg <;> cases hg
    · cases hg
theorem vOp_ok (hc : Ok c) (hR : Sound c R) (hS : Bodies c R) {i : Nat} {v v1 : Vw} {F : Fp} (hr : vOp c R f r ops i v = some (v1, F)) (hI : InvV G w v a.tmps) (hd : ∀ o ∈ ops, Dst o a) {K : Act → World → Prop}
    (hK : ∀ a' w', AftV G w a v1 a' w' → K a' w') : wpOp c.P ops Q i K a w := by
  unfold vOp at hr
  unfold wpOp
  cases ho : ops[i]? with
  | none => rw [ho] at hr; cases hr
  | some o =>
    rw [ho] at hr
    simp only at hr ⊢
    have hdo : Dst o a := hd o (Array.mem_of_getElem? ho)
    cases hg : guarded o ops with
    | none => rw [hg] at hr; cases hr
    | some gw =>
      rw [hg] at hr
      cases gw with
      | none =>
        rw [wanted_none hg]
        simp only [if_true]
        exact .inl (vExec_ok hc hR hS hr hI hdo hK)
      | some q =>
        obtain ⟨g, want⟩ := q
        rw [wanted_guard hg]
        simp only at hr
        have hslot : RelS G w g (v.sl g) (a.tmps.getD g undef) := by
          obtain ⟨st, rfl, hI⟩ := hI
          exact hI.slots g
        cases hvg : v.sl g with
        | ud =>
          rw [hvg] at hr hslot
          simp only at hr
          have hv1 : (vSkip ops o v).1 = v1 := by rw [Option.some.inj hr]
          have hund : a.tmps.getD g undef = undef := hslot
          have hy : (match a.tmps[g]? with | some (.bool b) => some b | _ => none : Option Bool) = none := by
            cases ht : a.tmps[g]? with
            | none => rfl
            | some z =>
              have : z = undef := by simpa [ht] using hund
              subst this; rfl
          rw [hy]
          simp only [show ((none : Option Bool) == some want) = false by rfl, Bool.false_eq_true, if_false]
          exact hK _ _ (hv1 ▸ vSkip_ok hI hdo)
        | sv u =>
          rw [hvg] at hr hslot
          simp only at hr
          obtain ⟨t, ht, hr'⟩ := Option.bind_eq_some_iff.mp hr
          have hu := asB_some ht
          subst hu
          have hval : a.tmps.getD g undef = .bool t := hslot.1
          have hy : (match a.tmps[g]? with | some (.bool b) => some b | _ => none : Option Bool) = some t := by
            cases hz : a.tmps[g]? with
            | none => simp [hz, undef] at hval
            | some z =>
              have : z = .bool t := by simpa [hz] using hval
              subst this; rfl
          rw [hy]
          by_cases e : t = want
          · subst e
            rw [if_pos rfl] at hr'
            simp only [beq_self_eq_true, if_true]
            exact .inl (vExec_ok hc hR hS hr' hI hdo hK)
          · rw [if_neg e] at hr'
            have hv1 : (vSkip ops o v).1 = v1 := by rw [Option.some.inj hr']
            have hne : ((some t : Option Bool) == some want) = false := by simpa using e
            rw [hne]
            simp only [Bool.false_eq_true, if_false]
            exact hK _ _ (hv1 ▸ vSkip_ok hI hdo)
        | _ => rw [hvg] at hr; cases hr
theorem AftV.trans {v' : Vw} {a' a'' : Act} {w' w'' : World} {G' : Gh} (hf : Fr G w G' w') (hs : a'.tmps.size = a.tmps.size) (hdf : a'.defers = a.defers) (h : AftV G' w' a' v' a'' w'') : AftV G w a v' a'' w'' := by
  obtain ⟨G'', h1, h2, h3, h4⟩ := h
  exact ⟨G'', h1, hf.trans h2, h3.trans hs, h4.trans hdf⟩
theorem ops_ok (hc : Ok c) (hR : Sound c R) (hS : Bodies c R) : ∀ (is : List Nat) (G : Gh) (w : World) (a : Act) (v v2 : Vw) (accs : List (Nat × Fp)), vRun c R f r ops is v = some (v2, accs) → InvV G w v a.tmps → (∀ o ∈ ops, Dst o a) →
    (∀ a' w', AftV G w a v2 a' w' → Q .normal a' w') → wpOps c.P ops Q is a w
  | [], G, w, a, v, v2, accs, h, hI, hd, hK => by
    simp only [vRun] at h
    cases h
    exact hK a w ⟨G, hI, Fr.refl G w, rfl, rfl⟩
  | i :: is, G, w, a, v, v2, accs, h, hI, hd, hK => by
    simp only [vRun] at h
    obtain ⟨p, hp, h⟩ := Option.bind_eq_some_iff.mp h
    obtain ⟨q, hq, h⟩ := Option.bind_eq_some_iff.mp h
    cases h
    rw [wpOps_cons]
    refine vOp_ok hc hR hS hp hI hd fun a' w' ha => ?_
    obtain ⟨G', h1, h2, h3, h4⟩ := ha
    exact ops_ok hc hR hS is G' w' a' p.1 q.1 q.2 hq h1 (fun o ho k hk => by rw [h3]; exact hd o ho k hk) fun a'' w'' h => hK a'' w'' (AftV.trans h2 h3 h4 h)
theorem vRun_fst : ∀ (is : List Nat) (v v2 : Vw) (accs : List (Nat × Fp)), vRun c R f r ops is v = some (v2, accs) → accs.map (·.1) = is
  | [], v, v2, accs, h => by simp only [vRun] at h; cases h; rfl
  | i :: is, v, v2, accs, h => by
    simp only [vRun] at h
    obtain ⟨p, hp, h⟩ := Option.bind_eq_some_iff.mp h
    obtain ⟨q, hq, h⟩ := Option.bind_eq_some_iff.mp h
    cases h
    simp [vRun_fst is p.1 q.1 q.2 hq]
theorem any_ok (hc : Ok c) (hR : Sound c R) (hS : Bodies c R) (hdeps : depsB ops = true) : ∀ (fuel : Nat) (L : List Nat) (listed : Array Bool) (G : Gh) (w : World) (a : Act) (v v2 : Vw) (accs : List (Nat × Fp)), L.length = fuel →
    (∀ i, i ∈ L ↔ listed.getD i true = false) → (∀ i ∈ L, i < ops.size) → listed.size = ops.size → L.Pairwise (· < ·) →
    (∀ j o d, listed.getD j false = true → ops[j]? = some o → d ∈ dsOf o → listed.getD d false = true) →
    vRun c R f r ops L v = some (v2, accs) → (∀ x Fx y Fy, (x, Fx) ∈ accs → (y, Fy) ∈ accs → x < y → x ∈ (ancTab ops.toList []).getD y [] ∨ Apart Fx Fy) →
    InvV G w v a.tmps → (∀ o ∈ ops, Dst o a) → (∀ a' w', AftV G w a v2 a' w' → Q .normal a' w') → wpAny c.P .any ops Q fuel listed a w
  | 0, L, listed, G, w, a, v, v2, accs, hlen, hL, hlt, hsz, hsort, hcl, hrun, hap, hI, hd, hK => by
    have hnil : L = [] := List.length_eq_zero_iff.mp hlen
    subst hnil
    simp only [vRun] at hrun
    cases hrun
    refine ⟨?_, hK a w ⟨G, hI, Fr.refl G w, rfl, rfl⟩⟩
    apply List.eq_nil_iff_forall_not_mem.mpr
    intro j hj
    have := (mem_ready.mp hj).1
    rw [← hL] at this
    simp at this
  | fuel + 1, L, listed, G, w, a, v, v2, accs, hlen, hL, hlt, hsz, hsort, hcl, hrun, hap, hI, hd, hK => by
    have hlist : ∀ i, i < ops.size → i ∉ L → listed.getD i false = true := by
      intro i hi hn
      rw [hL] at hn
      have hi' : i < listed.size := by rw [hsz]; exact hi
      simp [Array.getD, hi'] at hn ⊢
      exact hn
    have hunl : ∀ i, i ∈ L → ¬ listed.getD i false = true := by
      intro i hi hn
      rw [hL] at hi
      have hi' : i < listed.size := by
        rcases Nat.lt_or_ge i listed.size with h | h
        · exact h
        · have : ¬ i < listed.size := by omega
          simp [Array.getD, this] at hi
      simp [Array.getD, hi'] at hi hn
      rw [hi] at hn; cases hn
    refine ⟨fun hnone => ?_, fun i hi => ?_⟩
    · exfalso
      match L, hlen, hL, hlt, hsort, hlist with
      | i0 :: rest, hlen, hL, hlt, hsort, hlist =>
        have hi0 := hlt i0 (by simp)
        have : i0 ∈ Region.ready .any ops listed := by
          rw [mem_ready]
          refine ⟨(hL i0).mp (by simp), ops[i0], Array.getElem?_eq_getElem hi0, fun e he hb => ?_⟩
          have hlt' := depsB_lt hdeps (Array.getElem?_eq_getElem hi0) (mem_dsOf.mpr ⟨e, he, hb, rfl⟩)
          refine hlist e.on (by omega) fun hm => ?_
          rcases List.mem_cons.mp hm with h | h
          · omega
          · have := (List.pairwise_cons.mp hsort).1 _ h; omega
        rw [hnone] at this
        simp at this
    · obtain ⟨hi1, o, ho, hi2⟩ := mem_ready.mp hi
      have hiL : i ∈ L := (hL i).mpr hi1
      obtain ⟨L1, L2, rfl⟩ := List.append_of_mem hiL
      have hfst := vRun_fst _ _ _ _ hrun
      have hx1 : ∀ x Fx, (x, Fx) ∈ accs.take L1.length → x ∈ L1 ∧ (x, Fx) ∈ accs := by
        intro x Fx hx
        have hm : x ∈ (accs.take L1.length).map (·.1) := List.mem_map.mpr ⟨_, hx, rfl⟩
        rw [List.map_take, hfst, List.take_left'] at hm
        · exact ⟨hm, List.mem_of_mem_take hx⟩
        · rfl
      have hpw := List.pairwise_append.mp hsort
      obtain ⟨v1, F, acc1, acc2, r1, r2, r3, r4⟩ := vRun_front L1 L2 v v2 accs hrun (fun x Fx Fy hx hy => by
        obtain ⟨hxL, hxa⟩ := hx1 x Fx hx
        have hlt' : x < i := hpw.2.2 x hxL i (by simp)
        refine (hap x Fx i Fy hxa hy hlt').resolve_left fun hanc => ?_
        have := anc_listed hdeps (fun j => listed.getD j false = true) hcl i i (Nat.le_refl i) (fun o' d ho' hdd => by
          rw [ho] at ho'; cases ho'
          obtain ⟨e, he, hb, rfl⟩ := mem_dsOf.mp hdd
          exact hi2 e he hb) x hanc
        exact hunl x (by simp [hxL]) this)
      have hiLt : i < listed.size := by rw [hsz]; exact hlt i (by simp)
      refine vOp_ok hc hR hS r1 hI hd fun a' w' ha => ?_
      obtain ⟨G', h1, h2, h3, h4⟩ := ha
      have hsort' : (L1 ++ L2).Pairwise (· < ·) := by
        refine List.pairwise_append.mpr ⟨hpw.1, (List.pairwise_cons.mp hpw.2.1).2, fun x hx y hy => hpw.2.2 x hx y (by simp [hy])⟩
      have hni : i ∉ L1 ++ L2 := by
        intro hm
        rcases List.mem_append.mp hm with h | h
        · have := hpw.2.2 i h i (by simp); omega
        · have := (List.pairwise_cons.mp hpw.2.1).1 i h; omega
      refine any_ok hc hR hS hdeps fuel (L1 ++ L2) (listed.setIfInBounds i true) G' w' a' v1 v2 (acc1 ++ acc2) (by simp at hlen ⊢; omega) (fun j => ?_) (fun j hj => hlt j ?_) (by simp [hsz]) hsort' ?_ r2 ?_ h1
        (fun o ho k hk => by rw [h3]; exact hd o ho k hk) (fun a'' w'' h => hK a'' w'' (AftV.trans h2 h3 h4 h))
      · by_cases e : i = j
        · subst e
          constructor
          · intro h; exact absurd h hni
          · intro h; simp [Array.getD, hiLt] at h
        · rw [getD_set_ne true e, ← hL j]
          simp only [List.mem_append, List.mem_cons]
          have : ¬ j = i := fun h => e h.symm
          simp [this]
      · simp only [List.mem_append, List.mem_cons] at hj ⊢
        rcases hj with h | h
        · exact .inl h
        · exact .inr (.inr h)
      · intro j o' d hj ho' hdd
        by_cases e : i = j
        · subst e
          rw [ho] at ho'; cases ho'
          obtain ⟨e, he, hb, rfl⟩ := mem_dsOf.mp hdd
          exact getD_set_true (hi2 e he hb)
        · rw [getD_set_ne false e] at hj
          exact getD_set_true (hcl j o' d hj ho' hdd)
      · intro x Fx y Fy hx hy hxy
        refine hap x Fx y Fy ?_ ?_ hxy
        · rw [r3]
          rcases List.mem_append.mp hx with h | h <;> simp [h]
        · rw [r3]
          rcases List.mem_append.mp hy with h | h <;> simp [h]
end
end Go.Proofs.YtchmioacjkbfcaaGreat.AI

/- A function's results; its start. -/
namespace Go.Proofs.YtchmioacjkbfcaaGreat.AI
open Go
set_option linter.unusedVariables false
set_option linter.unusedSimpArgs false

/-- Who owns a result's parts. -/
def OwnKey (key : Nat × Nat) (own : Nat → Ow) : Prop := (key.1 = 0 ∧ own = fun i => .sl key.2 0 i) ∨ (key.1 = 1 ∧ ∃ g off, own = fun i => .bc key.2 g (off + i))
theorem OwnKey.inj {k k' : Nat × Nat} {own own' : Nat → Ow} (h : OwnKey k own) (h' : OwnKey k' own') {i i' : Nat} (e : own i = own' i') : k = k' := by
  obtain ⟨a, b⟩ := k
  obtain ⟨a', b'⟩ := k'
  rcases h with ⟨h1, rfl⟩ | ⟨h1, g, off, rfl⟩ <;> rcases h' with ⟨h1', rfl⟩ | ⟨h1', g', off', rfl⟩ <;> simp only at h1 h1' e
  · injection e with e1 e2 e3; subst h1; subst h1'; subst e1; rfl
  · cases e
  · cases e
  · injection e with e1 e2 e3; subst h1; subst h1'; subst e1; rfl
theorem OwnKey.inj1 {k : Nat × Nat} {own : Nat → Ow} (h : OwnKey k own) {i i' : Nat} (e : own i = own i') : i = i' := by
  rcases h with ⟨h1, rfl⟩ | ⟨h1, g, off, rfl⟩
  · injection e
  · injection e with e1 e2 e3; omega
theorem OwnKey.form {k : Nat × Nat} {own : Nat → Ow} (h : OwnKey k own) (i : Nat) : (∃ a b c, own i = .sl a b c) ∨ ∃ a b c, own i = .bc a b c := by
  rcases h with ⟨h1, rfl⟩ | ⟨h1, g, off, rfl⟩
  · exact .inl ⟨_, _, _, rfl⟩
  · exact .inr ⟨_, _, _, rfl⟩
open Classical in
noncomputable def relx (owns : List (Nat → Ow)) (p : Ow) : Ow :=
  if h : ∃ ji : Nat × Nat, ∃ own, owns[ji.1]? = some own ∧ own ji.2 = p then .sl 0 h.choose.1 h.choose.2 else .oth
/-- What the function's results are called behind its end. -/
noncomputable def relab (owns : List (Nat → Ow)) (p : Ow) : Ow :=
  match p with
  | .fr => .fr
  | .obj b g => .obj b g
  | .oc b g i => .oc b g i
  | p => relx owns p
theorem relx_or {owns : List (Nat → Ow)} (p : Ow) : (∃ j i, relx owns p = .sl 0 j i) ∨ relx owns p = .oth := by
  unfold relx
  split
  · exact .inl ⟨_, _, rfl⟩
  · exact .inr rfl
theorem relab_sl {owns : List (Nat → Ow)} (a b c : Nat) : (∃ j i, relab owns (.sl a b c) = .sl 0 j i) ∨ relab owns (.sl a b c) = .oth := relx_or _
theorem relab_bc {owns : List (Nat → Ow)} (a b c : Nat) : (∃ j i, relab owns (.bc a b c) = .sl 0 j i) ∨ relab owns (.bc a b c) = .oth := relx_or _
theorem relab_box {owns : List (Nat → Ow)} (a b : Nat) : (∃ j i, relab owns (.box a b) = .sl 0 j i) ∨ relab owns (.box a b) = .oth := relx_or _
theorem relx_own {owns : List (Nat → Ow)} (hinj : ∀ (j j' : Nat) (own own' : Nat → Ow) (i i' : Nat), owns[j]? = some own → owns[j']? = some own' → own i = own' i' → j = j' ∧ i = i')
    {j : Nat} {own : Nat → Ow} (hj : owns[j]? = some own) (i : Nat) : relx owns (own i) = .sl 0 j i := by
  have hex : ∃ ji : Nat × Nat, ∃ own', owns[ji.1]? = some own' ∧ own' ji.2 = own i := ⟨(j, i), own, hj, rfl⟩
  have key : relx owns (own i) = .sl 0 hex.choose.1 hex.choose.2 := by
    unfold relx
    rw [dif_pos hex]
  rw [key]
  obtain ⟨own', h1, h2⟩ := hex.choose_spec
  obtain ⟨e1, e2⟩ := hinj _ _ _ _ _ _ h1 hj h2
  rw [e1, e2]
theorem relab_own {owns : List (Nat → Ow)} (hinj : ∀ (j j' : Nat) (own own' : Nat → Ow) (i i' : Nat), owns[j]? = some own → owns[j']? = some own' → own i = own' i' → j = j' ∧ i = i')
    (hform : ∀ (j : Nat) (own : Nat → Ow), owns[j]? = some own → ∀ i, (∃ a b c, own i = .sl a b c) ∨ ∃ a b c, own i = .bc a b c) {j : Nat} {own : Nat → Ow} (hj : owns[j]? = some own) (i : Nat) :
    relab owns (own i) = .sl 0 j i := by
  have e : relab owns (own i) = relx owns (own i) := by
    rcases hform j own hj i with ⟨a, b, c, e⟩ | ⟨a, b, c, e⟩ <;> rw [e] <;> rfl
  rw [e, relx_own hinj hj]
theorem relx_oth {owns : List (Nat → Ow)} (hoth : ∀ (j : Nat) (own : Nat → Ow), owns[j]? = some own → ∀ i, (∃ a b c, own i = .sl a b c) ∨ ∃ a b c, own i = .bc a b c) : relx owns .oth = .oth := by
  unfold relx
  rw [dif_neg]
  rintro ⟨ji, own, h1, h2⟩
  rcases hoth _ own h1 ji.2 with ⟨a, b, c, e⟩ | ⟨a, b, c, e⟩ <;> rw [e] at h2 <;> cases h2
theorem relab_rho (owns : List (Nat → Ow)) (hoth : ∀ (j : Nat) (own : Nat → Ow), owns[j]? = some own → ∀ i, (∃ a b c, own i = .sl a b c) ∨ ∃ a b c, own i = .bc a b c) : Rho (relab owns) where
  fr := rfl
  oth := relx_oth hoth
  box p k g h := by
    cases p with
    | fr => cases h
    | oth => rw [show relab owns .oth = .oth from relx_oth hoth] at h; cases h
    | box a b => rcases relab_box (owns := owns) a b with ⟨j, i, e⟩ | e <;> rw [e] at h <;> cases h
    | obj a b => cases h
    | sl a b d => rcases relab_sl (owns := owns) a b d with ⟨j, i, e⟩ | e <;> rw [e] at h <;> cases h
    | bc a b d => rcases relab_bc (owns := owns) a b d with ⟨j, i, e⟩ | e <;> rw [e] at h <;> cases h
    | oc a b d => cases h
  obj p k g h := by
    cases p with
    | fr => cases h
    | oth => rw [show relab owns .oth = .oth from relx_oth hoth] at h; cases h
    | box a b => rcases relab_box (owns := owns) a b with ⟨j, i, e⟩ | e <;> rw [e] at h <;> cases h
    | obj a b => exact h
    | sl a b d => rcases relab_sl (owns := owns) a b d with ⟨j, i, e⟩ | e <;> rw [e] at h <;> cases h
    | bc a b d => rcases relab_bc (owns := owns) a b d with ⟨j, i, e⟩ | e <;> rw [e] at h <;> cases h
    | oc a b d => cases h

theorem noKey_spec {k : Nat × Nat} : ∀ {l : List (Nat × Nat)}, noKey k l = true → ∀ j, j ∈ l → j ≠ k
  | [], _, j, hj => by simp at hj
  | x :: l, h, j, hj => by
    simp only [noKey] at h
    split at h
    · cases h
    · rename_i hb
      rcases List.mem_cons.mp hj with rfl | hj
      · rintro rfl
        simp [beq_self] at hb
      · exact noKey_spec h j hj
theorem distinct_spec : ∀ {l : List (Nat × Nat)}, distinctB l = true → ∀ (i j : Nat) (k : Nat × Nat), l[i]? = some k → l[j]? = some k → i = j
  | [], _, i, j, k, hi, _ => by simp at hi
  | x :: l, h, i, j, k, hi, hj => by
    simp only [distinctB] at h
    split at h
    · rename_i hn
      cases i with
      | zero =>
        cases j with
        | zero => rfl
        | succ j =>
          simp at hi hj
          subst hi
          exact absurd rfl (noKey_spec hn _ (List.mem_of_getElem? hj))
      | succ i =>
        cases j with
        | zero =>
          simp at hi hj
          subst hj
          exact absurd rfl (noKey_spec hn _ (List.mem_of_getElem? hi))
        | succ j =>
          simp at hi hj
          rw [distinct_spec h i j k hi hj]
    · cases h

section
variable {c : Cx} {G : Gh} {w : World} {st : St} {tmps : Array Value}
theorem resVK_nat {R : Type} (st : St) (tt : TypeId → Option TI) (r : ResultVar) (K : AV → Option R) : resVK st tt r K = (resVK st tt r some).bind K := by
  unfold resVK
  repeat' split
  all_goals simp [Option.bind_assoc]
theorem resVsK_nat {R : Type} (st : St) (tt : TypeId → Option TI) : ∀ (l : List ResultVar) (K : List AV → Option R), resVsK st tt K l = (resVsK st tt some l).bind K
  | [], K => rfl
  | r :: l, K => by
    simp only [resVsK]
    rw [resVK_nat, resVK_nat (K := fun x => resVsK st tt (fun xs => some (x :: xs)) l)]
    simp only [Option.bind_assoc]
    congr 1; funext x
    rw [resVsK_nat st tt l, resVsK_nat st tt l (fun xs => some (x :: xs))]
    simp [Option.bind_assoc]
def resEval (tmps : Array Value) : ResultVar → Sem Value
  | .tmp t => pure (tmps.getD t undef)
  | .cell a t => do loadVar t (← asAddr (tmps.getD a undef))
theorem res1 (hc : Ok c) (hI : Inv G w st tmps) {r : ResultVar} {x : AV} (hr : resVK st c.tn r some = some x) :
    ∃ own v, OwnKey (keyOf st r) own ∧ RelV G w own x v ∧ (resEval tmps r).run c.P w = .ok v w := by
  cases r with
  | tmp t => exact ⟨fun i => .sl t 0 i, _, .inl ⟨rfl, rfl⟩, toA_rel (hI.slots t) (by simpa [resVK] using hr), rfl⟩
  | cell a ty =>
    simp only [resVK] at hr
    split at hr
    · rename_i ti hti
      split at hr
      · rename_i k g off hs
        split at hr
        · rename_i g' cs hb
          split at hr
          · rename_i hg
            subst hg
            have hsl := hI.slots a
            rw [hs] at hsl
            obtain ⟨blk, hla, hv⟩ := hsl
            obtain ⟨blk', b1, b2, b3⟩ := hI.boxes k g cs hb
            rw [hla] at b1; cases b1
            obtain ⟨arr, e, c1, c2, c3⟩ := b3
            have ht := hc.tt ty ti (tn_some hti).1
            have hz := ht.sizeOf (tn_some hti).2 w
            have ha := ht.isAgg (tn_some hti).2 w
            obtain ⟨arrL, harr⟩ : ∃ l, l = arr.toList.take cs.length := ⟨_, rfl⟩
            have hlen : cs.length = arrL.length := by rw [harr]; simp; omega
            have hin : ∀ (k : Nat) (u : Value), arrL[k]? = some u → arr[k]? = some u := by
              intro k u hu
              rw [harr, List.getElem?_take] at hu
              split at hu
              · simpa using hu
              · cases hu
            have hkey : keyOf st (.cell a ty) = (1, k) := by simp [keyOf, hs]
            split at hr
            · rename_i hag
              obtain ⟨l, hl, hr⟩ := Option.bind_eq_some_iff.mp hr
              cases hr
              obtain ⟨hle, rfl⟩ := getN_some hl
              refine ⟨fun i => .bc k g (off + i), .agg ((arrL.drop off).take ti.size).toArray, .inr ⟨by rw [hkey], g, off, by rw [hkey]⟩, ⟨(arrL.drop off).take ti.size, rfl, by simp [hlen], fun i y u hy hu => ?_⟩, ?_⟩
              · rw [List.getElem?_take] at hy hu
                split at hy
                · rename_i hq
                  simp only [hq, if_true] at hu
                  rw [List.getElem?_drop] at hy hu
                  exact c3 (off + i) y u hy (hin _ _ hu)
                · cases hy
              · have hload := run_loadCells_list (P := c.P) (w := w) (⟨blk, off, none⟩ : Addr) ((arrL.drop off).take ti.size) (fun j v hj => by
                  rw [addr_add, cell_of_heap c1]
                  rw [List.getElem?_take] at hj
                  split at hj
                  · rw [List.getElem?_drop] at hj; exact hin _ _ hj
                  · cases hj)
                have hll : ((arrL.drop off).take ti.size).length = ti.size := by simp; omega
                rw [hll] at hload
                simp [resEval, hv, asAddr, loadVar, ha, hag, hz, hload]
            · rename_i hag
              have hx : cs[off]? = some x := by
                obtain ⟨y, hy, hr⟩ := Option.bind_eq_some_iff.mp hr
                cases hr; exact hy
              obtain ⟨u, hu⟩ := get_of_len hlen hx
              have hu' : arr[off]? = some u := hin _ _ hu
              have hrel := c3 off x u hx hu'
              have hag' : isAg ti.k = false := by simpa using hag
              refine ⟨fun i => .bc k g (off + i), u, .inr ⟨by rw [hkey], g, off, by rw [hkey]⟩, RelC.v hrel, ?_⟩
              have hcell : w.cell? (⟨blk, off, none⟩ : Addr) = some u := by rw [cell_of_heap c1]; exact hu'
              simp [resEval, hv, asAddr, loadVar, ha, hag', hcell]
          · cases hr
        · cases hr
      · cases hr
    · cases hr
theorem ress (hc : Ok c) (hI : Inv G w st tmps) : ∀ {rs : List ResultVar} {xs : List AV}, resVsK st c.tn some rs = some xs →
    ∃ (owns : List (Nat → Ow)) (vs : List Value), owns.length = rs.length ∧ vs.length = rs.length ∧ xs.length = rs.length ∧ (rs.mapM (resEval tmps)).run c.P w = .ok vs w ∧
      (∀ (j : Nat) (own : Nat → Ow), owns[j]? = some own → ∃ r, rs[j]? = some r ∧ OwnKey (keyOf st r) own) ∧
      ∀ (j : Nat) (x : AV) (v : Value), xs[j]? = some x → vs[j]? = some v → ∃ own, owns[j]? = some own ∧ RelV G w own x v
  | [], xs, h => by simp only [resVsK] at h; cases h; exact ⟨[], [], rfl, rfl, rfl, rfl, by simp, by simp⟩
  | r :: rs, xs, h => by
    simp only [resVsK] at h
    rw [resVK_nat] at h
    obtain ⟨x, hx, h⟩ := Option.bind_eq_some_iff.mp h
    rw [resVsK_nat] at h
    obtain ⟨xs', hxs, h⟩ := Option.bind_eq_some_iff.mp h
    cases h
    obtain ⟨own, v, h1, h2, h3⟩ := res1 hc hI hx
    obtain ⟨owns, vs, g1, g2, g3, g4, g5, g6⟩ := ress hc hI hxs
    refine ⟨own :: owns, v :: vs, by simp [g1], by simp [g2], by simp [g3], ?_, ?_, ?_⟩
    · rw [List.mapM_cons]
      simp only [Sem.run_bind, h3, Result.andThen_ok, g4, Sem.run_pure]
    · intro j own' hj
      cases j with
      | zero => simp at hj; subst hj; exact ⟨r, rfl, h1⟩
      | succ j => simp at hj; obtain ⟨r', a1, a2⟩ := g5 j own' hj; exact ⟨r', by simpa using a1, a2⟩
    · intro j x' v' hx' hv'
      cases j with
      | zero => simp at hx' hv'; subst hx'; subst hv'; exact ⟨own, rfl, h2⟩
      | succ j => simp at hx' hv'; obtain ⟨own', a1, a2⟩ := g6 j x' v' hx' hv'; exact ⟨own', by simpa using a1, a2⟩
theorem run_results {P : Program} {fn : Func} {vs : List Value} (h : (fn.results.toList.mapM (resEval tmps)).run P w = .ok vs w) :
    (results fn tmps).run P w = .ok (match vs with | [v] => v | vs => .tuple vs.toArray) w := by
  have hm : (fn.results.mapM (resEval tmps)).run P w = .ok vs.toArray w := by
    rw [Array.mapM_eq_mapM_toList, Sem.run_map, h]; rfl
  have e : results fn tmps = (do let vs ← fn.results.mapM (resEval tmps); pure (if h : vs.size = 1 then vs[0] else .tuple vs)) := by
    unfold results
    congr 1
  rw [e, Sem.run_bind, hm]
  simp only [Result.andThen_ok, Sem.run_pure]
  match vs with
  | [] => rfl
  | [v] => rfl
  | v :: v' :: vs => simp
theorem fin_ok (hc : Ok c) {f : FuncId} {fn : Func} (hF : c.F f = some fn) (hI : Inv G w st tmps) {y : AV} {hp : Hp} (hr : fin c f st = some (y, hp)) :
    ∃ v G', (results fn tmps).run c.P w = .ok v w ∧ Fr G w G' w ∧ HpI G' w hp ∧ ResR G' w y v := by
  unfold fin at hr
  rw [hF] at hr
  simp only at hr
  cases hd : distinctB (fn.results.toList.map (keyOf st)) with
  | false => rw [hd] at hr; cases hr
  | true =>
    rw [hd] at hr
    simp only [cond_true] at hr
    rw [resVsK_nat] at hr
    obtain ⟨xs, hxs, hr⟩ := Option.bind_eq_some_iff.mp hr
    obtain ⟨owns, vs, g1, g2, g3, g4, g5, g6⟩ := ress hc hI hxs
    have hform : ∀ (j : Nat) (own : Nat → Ow), owns[j]? = some own → ∀ i, (∃ a b c, own i = .sl a b c) ∨ ∃ a b c, own i = .bc a b c := by
      intro j own hj i
      obtain ⟨r, _, h⟩ := g5 j own hj
      exact h.form i
    have hinj : ∀ (j j' : Nat) (own own' : Nat → Ow) (i i' : Nat), owns[j]? = some own → owns[j']? = some own' → own i = own' i' → j = j' ∧ i = i' := by
      intro j j' own own' i i' hj hj' e
      obtain ⟨r, hr1, h⟩ := g5 j own hj
      obtain ⟨r', hr1', h'⟩ := g5 j' own' hj'
      have hk := h.inj h' e
      have e1 : (fn.results.toList.map (keyOf st))[j]? = some (keyOf st r) := by rw [List.getElem?_map, hr1]; rfl
      have e2 : (fn.results.toList.map (keyOf st))[j']? = some (keyOf st r) := by rw [List.getElem?_map, hr1', hk]; rfl
      have ej := distinct_spec hd j j' _ e1 e2
      subst ej
      rw [hj] at hj'; cases hj'
      exact ⟨rfl, h.inj1 e⟩
    have hrho := relab_rho owns hform
    have hfr : Fr G w (G.rel (relab owns)) w := Fr.rel hrho
    have hrel : ∀ (j : Nat) (x : AV) (v : Value), xs[j]? = some x → vs[j]? = some v → RelV (G.rel (relab owns)) w (.sl 0 j ·) x v := by
      intro j x v hx hv
      obtain ⟨own, ho, hr⟩ := g6 j x v hx hv
      refine RelV.ev hfr.ev (p := own) (fun i b hb => ⟨rfl, rfl, ?_⟩) hr
      simp only [Gh.rel, hb]
      exact relab_own hinj hform ho i
    refine ⟨_, G.rel (relab owns), run_results g4, hfr, ?_, ?_⟩
    · have : hp = st.hp := by
        split at hr <;> cases hr <;> rfl
      subst this
      exact hI.hpI.rel hrho (fun _ _ => rfl) (fun _ _ _ => rfl)
    · match xs, vs, hr, g2, g3, hrel with
      | [x], [v], hr, _, _, hrel =>
        cases hr
        have := hrel 0 _ _ rfl rfl
        unfold ResR
        split
        · exact this.elim
        · exact this
      | [], [], hr, _, _, hrel => cases hr; exact ⟨[], rfl, rfl, by simp⟩
      | x :: x' :: xs, v :: v' :: vs, hr, g2, g3, hrel => cases hr; exact ⟨_, rfl, by simp at g2 g3 ⊢; omega, hrel⟩
      | [], v :: vs, hr, g2, g3, _ => simp at g2 g3; omega
      | [x], [], hr, g2, g3, _ => simp at g2 g3; omega
      | [x], v :: v' :: vs, hr, g2, g3, _ => simp at g2 g3; omega
      | x :: x' :: xs, [], hr, g2, g3, _ => simp at g2 g3; omega
      | x :: x' :: xs, [v], hr, g2, g3, _ => simp at g2 g3; omega
end
end Go.Proofs.YtchmioacjkbfcaaGreat.AI

/- THE ABSTRACT MACHINE IS SOUND: whatever 'run' answers, the program's function answers. -/
namespace Go.Proofs.YtchmioacjkbfcaaGreat.AI
open Go
set_option linter.unusedVariables false
set_option linter.unusedSimpArgs false

/-- Every operation's place is a temporary of the frame. -/
def dstB (N : Nat) : Code → Bool
  | .region _ ops _ => ops.toList.all fun o => match o.dst with | some d => Nat.blt d N | none => true
  | .seq a b => dstB N a && dstB N b
  | .cond _ a b => dstB N a && dstB N b
  | .block _ b => dstB N b
  | .loop b => dstB N b
  | .scope b => dstB N b
  | _ => true
def ItOk (N : Nat) : It → Prop
  | .code c => dstB N c = true
  | .inBlock _ => True
  | .inLoop b => dstB N b = true
  | .inScope _ => True
  | .ops _ _ _ _ _ => False
def toItem : It → Item
  | .code c => .code c
  | .inBlock i => .inBlock i
  | .inLoop b => .inLoop b
  | .inScope b => .inScope b
  | .ops _ ops is _ _ => .inRegion ops is
theorem popTo_exit {N : Nat} {id : Nat} : ∀ {k k' : List It}, popTo id k = some k' → (∀ it ∈ k, ItOk N it) → exitTo id (k.map toItem) = some (k'.map toItem) ∧ ∀ it ∈ k', ItOk N it
  | [], k', h, _ => by simp [popTo] at h
  | .inBlock j :: k, k', h, hk => by
    simp only [popTo] at h
    by_cases e : j = id
    · rw [if_pos e] at h; cases h
      subst e
      exact ⟨by simp [exitTo, toItem], fun it hi => hk it (by simp [hi])⟩
    · rw [if_neg e] at h
      obtain ⟨h1, h2⟩ := popTo_exit h fun it hi => hk it (by simp [hi])
      have hne : (j == id) = false := by simpa using e
      exact ⟨by simp only [List.map_cons, toItem, exitTo, hne]; exact h1, h2⟩
  | .code c :: k, k', h, hk => by
    obtain ⟨h1, h2⟩ := popTo_exit (k := k) h fun it hi => hk it (by simp [hi])
    exact ⟨h1, h2⟩
  | .inLoop b :: k, k', h, hk => by
    obtain ⟨h1, h2⟩ := popTo_exit (k := k) h fun it hi => hk it (by simp [hi])
    exact ⟨h1, h2⟩
  | .inScope b :: k, k', h, hk => by
    obtain ⟨h1, h2⟩ := popTo_exit (k := k) h fun it hi => hk it (by simp [hi])
    exact ⟨h1, h2⟩
  | .ops r ops is d acc :: k, k', h, hk => (show False from hk (.ops r ops is d acc) (by simp)).elim

section
variable {c : Cx} {R : Orc} {G : Gh} {w : World}
/-- What is forgotten is not asked for. -/
theorem Inv.mask {st : St} {t : Array Value} (hI : Inv G w st t) (m : Option (List Nat)) : Inv G w (AI.mask m st) t := by
  cases m with
  | none => exact hI
  | some live =>
    have hb : ∀ k g cs, getB (maskB st.bx live) k = some (g, cs) → getB st.bx k = some (g, cs) := by
      intro k g cs h
      rw [getB_maskB] at h
      split at h
      · exact h
      · cases h
    exact {
      slots := fun k => by
        show RelS G w k (slot (maskS (maskB st.bx live) st.sl live) k) _
        rw [slot_maskS]
        split
        · have h := hI.slots k
          cases hs : slot st.sl k with
          | lp j g off =>
            simp only [okLp]
            split
            · rw [hs] at h; exact h
            · trivial
          | _ => rw [hs] at h; exact h
        · trivial
      boxes := fun k g cs h => hI.boxes k g cs (hb k g cs h)
      heap := hI.heap
      next := hI.next
      hlt := hI.hlt
      new := hI.new
      vars := hI.vars
      lps := fun j k g off h => by
        have h' : slot (maskS (maskB st.bx live) st.sl live) j = .lp k g off := h
        show ∃ g' cs, getB (maskB st.bx live) k = some (g', cs) ∧ g ≤ g'
        rw [slot_maskS] at h'
        split at h'
        · cases hs : slot st.sl j with
          | lp j' g' off' =>
            rw [hs] at h'
            simp only [okLp] at h'
            split at h'
            · rename_i q hq
              cases h'
              obtain ⟨g', cs, h1, h2⟩ := hI.lps j k g off hs
              rw [hq]
              have := hb k q.1 q.2 hq
              rw [h1] at this
              cases this
              exact ⟨_, _, rfl, h2⟩
            · cases h'
          | _ => rw [hs] at h'; cases h'
        · cases h' }
/-- The drawn order leaves memory alone. -/
theorem Inv.world {w' : World} {st : St} {t : Array Value} (hI : Inv G w st t) (hw : w'.heap = w.heap) : Inv G w' st t := by
  have he : Ev G w G w' := ⟨fun b i _ => by simp [World.cell?, hw], fun _ => Nat.le_refl _, fun _ _ _ h => h, fun b z h => (bsz_of (w := w) (w' := w') (by rw [hw])).trans h⟩
  have hk : ∀ p, Keeps G w G w' p p := fun p b hb => ⟨by rw [hw], rfl, hb⟩
  exact {
    slots := fun k => RelS.ev he (fun j i => hk _) (fun _ _ _ _ _ h => h) (hI.slots k)
    boxes := fun k g cs h => by
      obtain ⟨blk, h1, h2, h3⟩ := hI.boxes k g cs h
      exact ⟨blk, h1, h2, h3.ev he (by rw [hw]) fun i => hk _⟩
    heap := fun k g cs h => by
      obtain ⟨blk, h1, h2, h3⟩ := hI.heap k g cs h
      exact ⟨blk, h1, h2, h3.ev he (by rw [hw]) fun i => hk _⟩
    next := hI.next
    hlt := hI.hlt
    new := fun b hb => hI.new b (by rw [hw] at hb; exact hb)
    vars := hI.vars
    lps := hI.lps }
theorem Fr.world {w' : World} (hw : w'.heap = w.heap) (hr : Rest w w') : Fr G w G w' :=
  ⟨by rw [hw]; exact Nat.le_refl _, fun b i _ => by simp [World.cell?, hw], fun _ => Nat.le_refl _, fun _ _ _ h => h, fun b _ _ => ⟨by rw [hw], rfl, rfl⟩, hr, fun b z h => (bsz_of (w := w) (w' := w') (by rw [hw])).trans h⟩
theorem vw_inv {st st' : St} {t : Array Value} (hv : st.vw = st'.vw) (hI : Inv G w st t) : Inv G w st' t := by
  have h1 : slot st'.sl = slot st.sl := (congrArg Vw.sl hv).symm
  have h2 : getB st'.bx = getB st.bx := (congrArg Vw.bx hv).symm
  have h3 : st'.hp = st.hp := (congrArg Vw.hp hv).symm
  exact {
    slots := by rw [h1]; exact hI.slots
    boxes := by rw [h2]; exact hI.boxes
    heap := by rw [h3]; exact hI.heap
    next := by rw [h3]; exact hI.next
    hlt := by rw [h3]; exact hI.hlt
    new := hI.new
    vars := hI.vars
    lps := by rw [h1, h2]; exact hI.lps }
/-- A region. -/
theorem region_ok (hc : Ok c) (hR : Sound c R) (hS : Bodies c R) {f : FuncId} {r : Nat} {ops : Array Oper} {d : Bool} {st st' : St} {accs : List (Nat × Fp)} {a : Act} (hI : Inv G w st a.tmps)
    (hd : ∀ o ∈ ops, Dst o a) (hrun : vRun c R f r ops (List.range ops.size) st.vw = some (st'.vw, accs)) (hok : d = true → drawOk ops accs.reverse = true ∧ ∀ o ∈ pend ops accs.reverse, o = some ()) :
    (Code.region r ops d).wp c.P (fun e a' w' => e = .normal ∧ ∃ G', Inv G' w' st' a'.tmps ∧ Fr G w G' w' ∧ a'.tmps.size = a.tmps.size ∧ a'.defers = a.defers) a w := by
  have conv : ∀ {w0 : World} (_ : Fr G w G w0) (a' : Act) (w' : World), AftV G w0 a st'.vw a' w' → ∃ G', Inv G' w' st' a'.tmps ∧ Fr G w G' w' ∧ a'.tmps.size = a.tmps.size ∧ a'.defers = a.defers := by
    rintro w0 hf a' w' ⟨G', ⟨s, hs, hI'⟩, h2, h3, h4⟩
    exact ⟨G', vw_inv hs hI', hf.trans h2, h3, h4⟩
  cases d with
  | false =>
    exact wp_region (ops_ok hc hR hS _ G w a _ _ _ hrun ⟨st, rfl, hI⟩ hd fun a' w' h => ⟨rfl, conv (Fr.refl G w) a' w' h⟩)
  | true =>
    obtain ⟨hdr, hpe⟩ := hok rfl
    unfold drawOk at hdr
    have hdeps : depsB ops = true := by
      cases h : depsB ops with
      | true => rfl
      | false => rw [h] at hdr; cases hdr
    have hpairs : ∀ p ∈ accs.reverse, ∀ q ∈ accs.reverse, (!(decide (p.1 < q.1)) || ((ancTab ops.toList []).getD q.1 []).contains p.1 || !(clash p.2 q.2)) = true := by
      intro p hp q hq
      rw [hdeps, Bool.true_and] at hdr
      exact List.all_eq_true.mp (List.all_eq_true.mp hdr p hp) q hq
    have hw : ({ w with drawn := w.drawn + 1 } : World).heap = w.heap := rfl
    refine wp_region_any hc.mixed (any_ok hc hR hS hdeps ops.size (List.range ops.size) (Array.replicate ops.size false) G { w with drawn := w.drawn + 1 } a st.vw st'.vw accs (by simp) (fun i => ?_) (fun i hi => List.mem_range.mp hi) (by simp)
      List.pairwise_lt_range (fun j o d hj _ _ => ?_) hrun (fun x Fx y Fy hx hy hxy => ?_) ⟨st, rfl, hI.world hw⟩ hd fun a' w' h => ⟨rfl, conv (Fr.world hw ⟨rfl, rfl, rfl⟩) a' w' h⟩)
    · rw [List.mem_range]
      by_cases h : i < ops.size <;> simp [Array.getD, h]
    · exfalso
      by_cases h : j < ops.size <;> simp [Array.getD, h] at hj
    · have := hpairs (x, Fx) (by simpa using hx) (y, Fy) (by simpa using hy)
      simp only [hxy, decide_true, Bool.not_true, Bool.false_or, Bool.or_eq_true] at this
      rcases this with h | h
      · exact .inl (by simpa using h)
      · by_cases hanc : x ∈ (ancTab ops.toList []).getD y []
        · exact .inl hanc
        · have no : ∀ j, j ∈ (ancTab ops.toList []).getD x [] → j < x := fun j hj => anc_lt hdeps hj
          have hord : ordB (ancTab ops.toList []) x y = false := by
            unfold ordB
            have h2 : y ∉ (ancTab ops.toList []).getD x [] := fun hm => by have := no y hm; omega
            rw [Bool.or_eq_false_iff, List.contains_eq_mem, List.contains_eq_mem]
            exact ⟨decide_eq_false hanc, decide_eq_false h2⟩
          have hord' : ordB (ancTab ops.toList []) y x = false := by
            unfold ordB at hord ⊢
            rw [Bool.or_comm]; exact hord
          refine .inr (apart_of (by simpa using h) (fun q hq hw => ?_) (fun q hq hw => ?_))
          · have := pend_same hpe (p := (x, Fx)) (q := (y, Fy)) (by simpa using hx) (by simpa using hy) hq hw
            rw [hord] at this
            exact this.resolve_left (by simp)
          · have := pend_same hpe (p := (y, Fy)) (q := (x, Fx)) (by simpa using hy) (by simpa using hx) hq hw
            rw [hord'] at this
            exact this.resolve_left (by simp)
theorem dst_ok {N : Nat} {r : Nat} {ops : Array Oper} {d : Bool} (h : dstB N (.region r ops d) = true) {a : Act} (hN : N ≤ a.tmps.size) : ∀ o ∈ ops, Dst o a := by
  intro o ho k hk
  simp only [dstB] at h
  have := List.all_eq_true.mp h o (by simpa using ho)
  rw [hk] at this
  have hlt : k < N := by simpa [Nat.blt_eq] using this
  exact Nat.lt_of_lt_of_le hlt hN
/-- What is left, from a state on. -/
def Leaves (P : Program) (f : FuncId) (G : Gh) (w : World) (y : AV) (hp : Hp) (m : Machine) (cs : List Frame) : Prop :=
  ∃ v G' w' fr, Steps P m (lone fr cs w') ∧ fr.fn = f ∧ fr.leaving P w' (.returned v) ∧ Fr G w G' w' ∧ HpI G' w' hp ∧ ResR G' w' y v
theorem Leaves.of {P : Program} {f : FuncId} {G G1 : Gh} {w w1 : World} {y : AV} {hp : Hp} {m m1 : Machine} {cs : List Frame} (hs : Steps P m m1) (hf : Fr G w G1 w1) (h : Leaves P f G1 w1 y hp m1 cs) : Leaves P f G w y hp m cs := by
  obtain ⟨v, G', w', fr, h1, h2, h3, h4, h5, h6⟩ := h
  exact ⟨v, G', w', fr, hs.trans h1, h2, h3, hf.trans h4, h5, h6⟩
theorem go_ok (hc : Ok c) (hR : Sound c R) (hS : Bodies c R) {f : FuncId} {fn : Func} (hF : c.F f = some fn) {N : Nat} : ∀ (n : Nat) (its : List It) (st : St) (y : AV) (hp : Hp), goC c R f n its st = some (y, hp) → (∀ it ∈ its, ItOk N it) →
    ∀ (G : Gh) (w : World) (a : Act), Inv G w st a.tmps → N ≤ a.tmps.size → a.defers = [] → ∀ (b : Frame) (cs : List Frame), b.fn = f → b.kind = .normal → Leaves c.P f G w y hp (lone (b.at a (its.map toItem)) cs w) cs := by
  intro n
  induction n using Nat.strongRecOn with
  | _ n ih =>
  intro its st y hp hgo hits G w a hI hN hdef b cs hb hk
  cases n with
  | zero => simp [goC] at hgo
  | succ n =>
  have hP := hc.F f fn hF
  have ends : ∀ (todo : List Item), fin c f st = some (y, hp) → Steps c.P (lone (b.at a (its.map toItem)) cs w) (lone { b.at a todo with mode := .returning } cs w) → Leaves c.P f G w y hp (lone (b.at a (its.map toItem)) cs w) cs := by
    intro todo hfin hs
    obtain ⟨v, G', h1, h2, h3, h4⟩ := fin_ok hc hF hI hfin
    exact ⟨v, G', w, _, hs, hb, ⟨rfl, hdef, hk, fn, by rw [← hP]; exact congrArg _ hb, h1⟩, h2, h3, h4⟩
  have on : ∀ (its' : List It), goC c R f n its' st = some (y, hp) → (∀ it ∈ its', ItOk N it) → step c.P (lone (b.at a (its.map toItem)) cs w) = .next (lone (b.at a (its'.map toItem)) cs w) → Leaves c.P f G w y hp (lone (b.at a (its.map toItem)) cs w) cs := by
    intro its' hgo' hits' hs
    exact Leaves.of (.one hs) (Fr.refl G w) (ih n (Nat.lt_succ_self n) its' st y hp hgo' hits' G w a hI hN hdef b cs hb hk)
  simp only [goC] at hgo
  match its, hgo, hits, ends, on with
  | [], hgo, hits, ends, on => exact ends _ hgo (.one step_end)
  | .inBlock id :: k, hgo, hits, ends, on => exact on _ hgo (fun it hi => hits it (by simp [hi])) step_inBlock
  | .inScope body :: k, hgo, hits, ends, on => exact on _ hgo (fun it hi => hits it (by simp [hi])) step_inScope
  | .inLoop body :: k, hgo, hits, ends, on =>
    exact on (.code body :: .inLoop body :: k) hgo (fun it hi => by
      simp only [List.mem_cons] at hi
      rcases hi with rfl | rfl | hi
      · exact hits (.inLoop body) (by simp)
      · exact hits (.inLoop body) (by simp)
      · exact hits it (by simp [hi])) step_inLoop
  | .code .skip :: k, hgo, hits, ends, on => exact on _ hgo (fun it hi => hits it (by simp [hi])) step_skip
  | .code (.label l) :: k, hgo, hits, ends, on => exact on _ hgo (fun it hi => hits it (by simp [hi])) step_label
  | .code .ret :: k, hgo, hits, ends, on => exact ends _ hgo (.one step_ret)
  | .code (.seq x z) :: k, hgo, hits, ends, on =>
    have h := hits (.code (.seq x z)) (by simp)
    simp only [ItOk, dstB, Bool.and_eq_true] at h
    exact on (.code x :: .code z :: k) hgo (fun it hi => by
      simp only [List.mem_cons] at hi
      rcases hi with rfl | rfl | hi
      · exact h.1
      · exact h.2
      · exact hits it (by simp [hi])) step_seq
  | .code (.block id x) :: k, hgo, hits, ends, on =>
    exact on (.code x :: .inBlock id :: k) hgo (fun it hi => by
      simp only [List.mem_cons] at hi
      rcases hi with rfl | rfl | hi
      · exact hits (.code (.block id x)) (by simp)
      · trivial
      · exact hits it (by simp [hi])) step_block
  | .code (.loop x) :: k, hgo, hits, ends, on =>
    have hgo : goC c R f n (.inLoop x :: k) st = some (y, hp) := hgo
    cases n with
    | zero => simp [goC] at hgo
    | succ n =>
      simp only [goC, stepF] at hgo
      have hits' : ∀ it ∈ .code x :: .inLoop x :: k, ItOk N it := fun it hi => by
        simp only [List.mem_cons] at hi
        rcases hi with rfl | rfl | hi
        · exact hits (.code (.loop x)) (by simp)
        · exact hits (.code (.loop x)) (by simp)
        · exact hits it (by simp [hi])
      exact Leaves.of (.one step_loop) (Fr.refl G w) (ih n (by omega) _ st y hp hgo hits' G w a hI hN hdef b cs hb hk)
  | .code (.exit id) :: k, hgo, hits, ends, on =>
    simp only [stepF] at hgo
    obtain ⟨k', hk', hgo⟩ := Option.bind_eq_some_iff.mp hgo
    obtain ⟨h1, h2⟩ := popTo_exit (N := N) hk' (fun it hi => hits it (by simp [hi]))
    exact on _ hgo h2 (step_exit h1)
  | .code (.cond x p q) :: k, hgo, hits, ends, on =>
    simp only [stepF] at hgo
    obtain ⟨u, hu, hgo⟩ := Option.bind_eq_some_iff.mp hgo
    obtain ⟨t, ht, hgo⟩ := Option.bind_eq_some_iff.mp hgo
    have hx := (ev_sv hI (asSV_eq hu)).1
    rw [asB_some ht] at hx
    have h := hits (.code (.cond x p q)) (by simp)
    simp only [ItOk, dstB, Bool.and_eq_true] at h
    have hs := step_cond (P := c.P) (b := b) (k := k.map toItem) (cs := cs) (w := w) (x := p) (y := q) hx
    cases t with
    | true =>
      exact on (.code p :: k) hgo (fun it hi => by
        simp only [List.mem_cons] at hi
        rcases hi with rfl | hi
        · exact h.1
        · exact hits it (by simp [hi])) hs
    | false =>
      exact on (.code q :: k) hgo (fun it hi => by
        simp only [List.mem_cons] at hi
        rcases hi with rfl | hi
        · exact h.2
        · exact hits it (by simp [hi])) hs
  | .code (.region r ops d) :: k, hgo, hits, ends, on =>
    simp only [stepF] at hgo
    obtain ⟨n', st', accs, h1, h2, h3, h4⟩ := ops_v n _ d [] k _ _ hgo
    have hdst := dst_ok (hits (.code (.region r ops d)) (by simp)) hN
    have hwp := region_ok hc hR hS (d := d) (hI.mask (c.M f r)) hdst h2 (fun e => by simpa using h3 e)
    obtain ⟨e, a', w', ⟨he, G', i1, i2, i3, i4⟩, harr⟩ := hwp b (k.map toItem) cs
    subst he
    exact Leaves.of harr i2 (ih n' (by omega) k st' y hp h4 (fun it hi => hits it (by simp [hi])) G' w' a' i1 (by rw [i3]; exact hN) (by rw [i4]; exact hdef) b cs hb hk)
  | .ops r ops is d acc :: k, hgo, hits, ends, on => exact (show False from hits (.ops r ops is d acc) (by simp)).elim
  | .code (.rangeFunc _ _ _ _) :: k, hgo, hits, ends, on => simp [stepF] at hgo
  | .code (.scope x) :: k, hgo, hits, ends, on =>
    exact on (.code x :: .inScope x :: k) hgo (fun it hi => by
      simp only [List.mem_cons] at hi
      rcases hi with rfl | rfl | hi
      · exact hits (.code (.scope x)) (by simp)
      · trivial
      · exact hits it (by simp [hi])) step_scope
  | .code (.goto _) :: k, hgo, hits, ends, on => simp [stepF] at hgo
  | .code (.refuse _) :: k, hgo, hits, ends, on => simp [stepF] at hgo

/-! ### the start -/
theorem init_ok (hc : Ok c) : ∀ (i : Nat) (ts : List TypeId) (xs : List AV) (l : Slots), initK c i ts xs some = some l →
    ∀ k, slot l k = .un ∨ ∃ x, xs[k - i]? = some x ∧ i ≤ k ∧ (slot l k = .av x ∨ ∃ v, x = .sc v ∧ slot l k = .sv v)
  | i, [], [], l, h, k => by simp only [initK] at h; cases h; exact .inl rfl
  | i, [], x :: xs, l, h, k => by
    simp only [initK] at h
    rw [initK_nat] at h
    obtain ⟨l', h1, h2⟩ := Option.bind_eq_some_iff.mp h
    cases h2
    rw [slot_put]
    by_cases e : i = k
    · subst e; rw [if_pos rfl]; exact .inr ⟨x, by simp, Nat.le_refl _, .inl rfl⟩
    · rw [if_neg e]
      rcases init_ok hc (i + 1) [] xs l' h1 k with h | ⟨x', h, h', h''⟩
      · exact .inl h
      · refine .inr ⟨x', ?_, by omega, h''⟩
        rw [show k - i = (k - (i + 1)) + 1 by omega]; simpa using h
  | i, t :: ts, [], l, h, k => by simp [initK] at h
  | i, t :: ts, x :: xs, l, h, k => by
    simp only [initK] at h
    have rest : ∀ (l' : Slots) (s : SV), initK c (i + 1) ts xs some = some l' → (s = .av x ∨ ∃ v, x = .sc v ∧ s = .sv v) → l = (i, s) :: l' →
        slot l k = .un ∨ ∃ x', (x :: xs)[k - i]? = some x' ∧ i ≤ k ∧ (slot l k = .av x' ∨ ∃ v, x' = .sc v ∧ slot l k = .sv v) := by
      rintro l' s h1 hs rfl
      rw [slot_put]
      by_cases e : i = k
      · subst e; rw [if_pos rfl]; exact .inr ⟨x, by simp, Nat.le_refl _, hs⟩
      · rw [if_neg e]
        rcases init_ok hc (i + 1) ts xs l' h1 k with h | ⟨x', h, h', h''⟩
        · exact .inl h
        · refine .inr ⟨x', ?_, by omega, h''⟩
          rw [show k - i = (k - (i + 1)) + 1 by omega]; simpa using h
    split at h
    · split at h
      · obtain ⟨v, hv, h⟩ := Option.bind_eq_some_iff.mp h
        rw [initK_nat] at h
        obtain ⟨l', h1, h2⟩ := Option.bind_eq_some_iff.mp h
        cases h2
        exact rest l' _ h1 (.inr ⟨v, asSc_some hv, rfl⟩) rfl
      · rw [initK_nat] at h
        obtain ⟨l', h1, h2⟩ := Option.bind_eq_some_iff.mp h
        cases h2
        exact rest l' _ h1 (.inl rfl) rfl
    · cases h
/-- What a context's functions must be. -/
def DstOk (c : Cx) : Prop := ∀ f fn b, c.F f = some fn → fn.body = some b → dstB fn.ntmps b = true
theorem start_ok (hc : Ok c) (hD : DstOk c) (hR : Sound c R) (hS : Bodies c R) {f : FuncId} {xs : List AV} {hp hp' : Hp} {y : AV} {n : Nat} (hr : startK c f xs hp (goC c R f n) = some (y, hp')) (G : Gh) (w : World) (vs : List Value) (hH : HpI G w hp) (hlen : xs.length = vs.length)
    (hargs : ∀ (i : Nat) (x : AV) (v : Value), xs[i]? = some x → vs[i]? = some v → ArgR G w x v) : Calls c.P f vs.toArray w (Gives G w y hp') := by
  unfold startK at hr
  cases hF : c.F f with
  | none => rw [hF] at hr; cases hr
  | some fn =>
    rw [hF] at hr
    simp only at hr
    cases hb : fn.body with
    | none => rw [hb] at hr; cases hr
    | some body =>
      rw [hb] at hr
      simp only at hr
      rw [initK_nat] at hr
      obtain ⟨l, hl, hr⟩ := Option.bind_eq_some_iff.mp hr
      let a : Act := { tmps := vs.toArray ++ Array.replicate (fn.ntmps - vs.toArray.size) undef, defers := [] }
      have hget : ∀ k v, vs[k]? = some v → a.tmps.getD k undef = v := by
        intro k v hk
        have hlt : k < vs.length := (List.getElem?_eq_some_iff.mp hk).1
        simp only [a, Array.getD_eq_getD_getElem?]
        rw [Array.getElem?_append_left (by simpa using hlt), List.getElem?_toArray, hk]; rfl
      have hI : Inv G w ⟨l, [], hp⟩ a.tmps := {
        slots := fun k => by
          show RelS G w k (slot l k) _
          rcases init_ok hc 0 _ _ _ hl k with h | ⟨x, h1, h2, h3⟩
          · rw [h]; trivial
          · rw [Nat.sub_zero] at h1
            obtain ⟨v, hv⟩ := get_of_len hlen h1
            have hrel := hargs k x v h1 hv
            rw [hget k v hv]
            rcases h3 with h3 | ⟨u, rfl, h3⟩
            · rw [h3]; exact hrel _
            · rw [h3]
              have hr' : RelR G w (.sc u) v := hrel (fun _ => .fr)
              cases hr' with
              | sc _ h1 => exact ⟨rfl, h1⟩
        boxes := fun k g cs h => by simp [getB] at h
        heap := hH.heap
        next := hH.next
        hlt := hH.hlt
        new := hH.new
        vars := hH.vars
        lps := fun j k g off h => by
          have h' : slot l j = .lp k g off := h
          rcases init_ok hc 0 _ _ _ hl j with e | ⟨x, h1, h2, e | ⟨v, _, e⟩⟩ <;> rw [e] at h' <;> cases h' }
      intro cs
      let b : Frame := { (default : Frame) with fn := f, kind := .normal }
      have hP := hc.F f fn hF
      have henter : Frame.enter c.P f vs.toArray .normal = b.at a [.code body] := by
        simp [Frame.enter, Frame.at, hP, hb, b, a]
      have := go_ok hc hR hS hF (N := fn.ntmps) n [.code body] ⟨l, [], hp⟩ y hp' hr (fun it hi => by
        simp only [List.mem_singleton] at hi
        subst hi
        exact hD f fn body hF hb) G w a hI (by simp [a]; omega) rfl b cs rfl rfl
      obtain ⟨v, G', w', fr, h1, h2, h3, h4, h5, h6⟩ := this
      refine ⟨.returned v, w', fr, ⟨v, G', rfl, h4, h5, h6⟩, ?_, h2, h3⟩
      rw [henter]
      exact h1
theorem runN_body : ∀ n, Bodies c (runN c n)
  | 0, f, xs, hp, r, h => by simp [runN] at h
  | n + 1, f, xs, hp, r, h => by
    simp only [runN, startK] at h
    cases hF : c.F f with
    | none => rw [hF] at h; cases h
    | some fn =>
      rw [hF] at h
      simp only at h
      cases hb : fn.body with
      | none => rw [hb] at h; cases h
      | some b => exact ⟨fn, b, rfl, hb⟩
theorem runN_sound (hc : Ok c) (hD : DstOk c) : ∀ n, Sound c (runN c n)
  | 0 => fun f xs hp y hp' h => by simp [runN] at h
  | n + 1 => fun f xs hp y hp' h G w vs hH hl ha => start_ok hc hD (runN_sound hc hD n) (runN_body n) h G w vs hH hl ha
/-- WHAT THE ABSTRACT MACHINE ANSWERS, THE PROGRAM ANSWERS. -/
theorem run_sound (hc : Ok c) (hD : DstOk c) {f : FuncId} {xs : List AV} {hp hp' : Hp} {y : AV} (h : run c f xs hp = some (y, hp')) {G : Gh} {w : World} {vs : List Value} (hH : HpI G w hp) (hl : xs.length = vs.length)
    (ha : ∀ (i : Nat) (x : AV) (v : Value), xs[i]? = some x → vs[i]? = some v → ArgR G w x v) : Calls c.P f vs.toArray w (Gives G w y hp') := by
  obtain ⟨n, hn⟩ := run_some.mp h
  exact runN_sound hc hD n f xs hp y hp' hn G w vs hH hl ha
end
end Go.Proofs.YtchmioacjkbfcaaGreat.AI
