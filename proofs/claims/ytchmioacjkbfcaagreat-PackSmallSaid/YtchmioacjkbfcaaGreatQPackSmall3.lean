/- Texts that the proof of PackSmall rests on, part 3. -/
import Derived.Test.YtchmioacjkbfcaaGreatQPackSmall2
import Derived.Scope
import Derived.Test.YtchmioacjkbfcaaGreatProg
namespace Go.Proofs.YtchmioacjkbfcaaGreat.AI
open Go
set_option linter.unusedVariables false
set_option linter.unusedSimpArgs false
set_option maxRecDepth 100000
set_option maxHeartbeats 0
section
variable {c : Cx} {C : Orc} {h : Nat} {ev ev' : Operand → SV}
theorem fillK_ev {R : Type} (yD : Nat → Option (Nat × Nat)) (K : List AV → Option R) : ∀ (l : List (Nat × Operand)) (cs : List AV), (∀ p ∈ l, ev p.2 = ev' p.2) → jl yD ev K l cs = jl yD ev' K l cs
 | [], cs, _ => rfl
 | (i, x) :: r, cs, hl => by
  simp only [jl]
  rw [hl (i, x) (by simp)]
  split
  ·rfl
  ·congr 1; funext vs; congr 1; funext cs'
   exact fillK_ev yD K r cs' fun p hp => hl p (by simp [hp])
theorem opV_ev (x : Option Operand) (hx : ∀ y, x = some y → ev y = ev' y) : opV ev x = opV ev' x := by
 cases x with
 | none => rfl
 | some y => simp only [opV]; rw [hx y rfl]
theorem map_ev {l : List Operand} (hl : ∀ x ∈ l, ev x = ev' x) : l.map ev = l.map ev' := List.map_congr_left hl
theorem coreK_ev {R : Type} {o : Oper} {gb : Nat → Option (Nat × List AV)} {hp : Hp} {K : Kt R} (h1 : ∀ x ∈ o.op.operands.toList, ev x = ev' x) :
  qj c C h o ev gb hp K = qj c C h o ev' gb hp K := by
 obtain ⟨dst, op, type, pos, after, guard⟩ := o
 cases op <;> simp only [Op.operands] at h1
 case build t ps =>
  simp only [qj]
  have hps : ∀ p ∈ ps.toList, ev p.2 = ev' p.2 := fun p hp => h1 _ (List.mem_map.mpr ⟨p, hp, rfl⟩)
  simp only [fillK_ev _ _ ps.toList _ hps]
 case buildSlice t n ps =>
  simp only [qj]
  have hps : ∀ p ∈ ps.toList, ev p.2 = ev' p.2 := fun p hp => h1 _ (List.mem_map.mpr ⟨p, hp, rfl⟩)
  simp only [fillK_ev _ _ ps.toList _ hps]
 case makeFunc fn first captured =>
  cases fn <;> simp only [qj]
  rw [map_ev (l := captured.toList) fun x hx => h1 x (by simp at hx ⊢; exact .inr hx), map_ev (l := first.toList) fun x hx => h1 x (by simp at hx ⊢; exact .inl hx)]
 case makeMap t m => cases m <;> rfl
 case slice t x lo hi mx =>
  simp only [qj]
  rw [h1 x (by simp), opV_ev lo (fun y hy => h1 y (by subst hy; simp)), opV_ev hi (fun y hy => h1 y (by subst hy; simp)), opV_ev mx (fun y hy => h1 y (by subst hy; simp))]
 case call cl =>
  have ha : cl.args.toList.map ev = cl.args.toList.map ev' := map_ev fun x hx => h1 x (by simp [Call.operands]; exact .inr (by simpa using hx))
  cases hc : cl.callee with
  | builtin b => simp only [qj, hc, ha]
  | invoke r n => simp only [qj, hc]
  | value f =>
   cases f with
   | tmp t =>
    have := h1 (.tmp t) (by simp [Call.operands, hc])
    simp only [qj, hc, ha, this]
   | func f => simp only [qj, hc, ha]
   | const v => simp only [qj, hc]
   | global g => simp only [qj, hc]
 all_goals simp only [qj]
 all_goals (first | rfl | (simp only [List.mem_cons, List.not_mem_nil, or_false, forall_eq_or_imp, forall_eq] at h1; (try obtain ⟨h1, h2⟩ := h1); (try obtain ⟨h2, h3⟩ := h2); simp only [*]))
theorem acc_ev {o : Oper} (h1 : ∀ x ∈ o.op.operands.toList, ev x = ev' x) : accB h o ev = accB h o ev' ∧ accH h o ev = accH h o ev' := by
 obtain ⟨dst, op, type, pos, after, guard⟩ := o
 cases op <;> simp only [Op.operands] at h1 <;> simp only [accB, accH] <;> try exact ⟨trivial, trivial⟩
 case load t x => rw [h1 x (by simp)]; exact ⟨rfl, rfl⟩
 case store t x y => rw [h1 x (by simp)]; exact ⟨rfl, rfl⟩
def LocM (c : Cx) (C : Orc) (h : Nat) (o : Oper) (ev : Operand → SV) (gb gb' : Nat → Option (Nat × List AV)) (hp hp' : Hp) (r : SV × BE × Hp) : Prop :=
 qj c C h o ev gb' hp' k3 = some (r.1, r.2.1, ⟨if (accH h o ev).2.2 = true then r.2.2.next else hp'.next, if (accH h o ev).2.1 = true then r.2.2.get else hp'.get⟩) ∧
 ((accH h o ev).2.2 = false → r.2.2.next = hp.next) ∧ ((accH h o ev).2.1 = false → r.2.2.get = hp.get) ∧ ∀ k g cs, r.2.1 = some (k, g, cs) → (accB h o ev).2 = some k
theorem locM_pure {o : Oper} {gb gb' : Nat → Option (Nat × List AV)} {hp hp' : Hp} {r : SV × BE × Hp} {Z : Option SV} (hH : accH h o ev = (false, false, false))
  (hz : ∀ gb hp, qj c C h o ev gb hp k3 = Z.bind fun s => some (s, none, hp)) (hr : qj c C h o ev gb hp k3 = some r) : LocM c C h o ev gb gb' hp hp' r := by
 rw [hz] at hr
 obtain ⟨s, hs, hr⟩ := bsm hr
 cases hr
 unfold LocM
 rw [hz, hs, hH]
 exact ⟨rfl, fun _ => rfl, fun _ => rfl, fun _ _ _ e => by cases e⟩
theorem chk_neg {p : Prop} [Decidable p] (h : ¬ p) : chk p = none := if_neg h
theorem bltK_pure {R : Type} (h2 : h ≠ 2) {o : Oper} {b : Builtin} {ts : List TypeId} {as_ : List SV} {hp : Hp} {K : SV → Hp → Option R} :
  bltK c h o b ts as_ hp K = (bltK c h o b ts as_ hp0 fun s _ => some s).bind fun s => K s hp := by
 unfold bltK
 repeat' split
 all_goals first
  | (simp [Option.bind_assoc, h2, chk_neg]; done)
  | rfl
theorem coreK_pure {o : Oper} (hop : match o.op with | .load _ _ => False | .store _ _ _ => False | .alloc _ => False | .box _ _ => False | .makeSlice _ _ _ => False | .makeMap _ _ => False | .lookup _ _ _ _ => False | .mapUpdate _ _ _ _ => False | .move _ => h ≠ 3 | .assign _ => h ≠ 3 | .call cl => (match cl.callee with | .builtin _ => h ≠ 2 | _ => False) | _ => True) :
    ∃ Z : Option SV, ∀ gb hp, qj c C h o ev gb hp k3 = Z.bind fun s => some (s, none, hp) := by
  obtain ⟨dst, op, type, pos, after, guard⟩ := o
  cases op <;> simp only at hop <;> try exact hop.elim
  case move x =>
    cases hti : c.tt type with
    | none => exact ⟨none, fun gb hp => by simp only [qj, hti]; rfl⟩
    | some ti => exact ⟨some (if h = 1 then nrm ti.k (ev x) else nrm ti.k (ev x).ro), fun gb hp => by simp only [qj, hti, if_neg hop]; rfl⟩
  case assign x =>
    cases hti : c.tt type with
    | none => exact ⟨none, fun gb hp => by simp only [qj, hti]; rfl⟩
    | some ti => exact ⟨some (nrm ti.k (ev x)), fun gb hp => by simp only [qj, hti, if_neg hop]; rfl⟩
  case pick x y z => exact ⟨pickK (ev x) (ev y) (ev z) some, fun gb hp => by simp only [qj]; rw [pickK_nat]⟩
  case build t ps =>
    cases hti : c.tn t with
    | none => exact ⟨none, fun gb hp => by simp only [qj, hti]; rfl⟩
    | some ti =>
      cases hk : ti.k with
      | st fs =>
        by_cases hall : fs.all (fun p => (c.tn p.2).isSome) = true
        · exact ⟨(jl (placeS c fs) ev some ps.toList (qY ti.zero)).bind fun cs => some (.av (.agg (cs.map ro1))), fun gb hp => by
            simp only [qj, hti, hk, if_pos hall]; rw [zS]; simp [Option.bind_assoc]⟩
        · exact ⟨none, fun gb hp => by simp only [qj, hti, hk, if_neg hall]; rfl⟩
      | ar n e =>
        cases hei : c.tn e with
        | none => exact ⟨none, fun gb hp => by simp only [qj, hti, hk, hei]; rfl⟩
        | some ei => exact ⟨(jl (fun i => some (i * ei.size, ei.size)) ev some ps.toList (qY ti.zero)).bind fun cs => some (.av (.agg (cs.map ro1))), fun gb hp => by
            simp only [qj, hti, hk, hei]; rw [zS]; simp [Option.bind_assoc]⟩
      | _ => exact ⟨none, fun gb hp => by simp only [qj, hti, hk]; rfl⟩
  case buildSlice t n ps =>
    cases hti : c.tn t with
    | none => exact ⟨none, fun gb hp => by simp only [qj, hti]; rfl⟩
    | some ti =>
      cases hk : ti.k with
      | sl e =>
        cases hei : c.tn e with
        | none => exact ⟨none, fun gb hp => by simp only [qj, hti, hk, hei]; rfl⟩
        | some ei =>
          by_cases hn : n * ei.size ≤ 4096 ∧ 0 < ei.size
          · exact ⟨(jl (fun i => some (i * ei.size, ei.size)) ev some ps.toList (List.replicate n (qY ei.zero)).flatten).bind fun cs => (okV cs).bind fun _ => some (.av (.us ei.size (cs.map ro1))), fun gb hp => by
              simp only [qj, hti, hk, hei, if_pos hn]; rw [zS]; simp [Option.bind_assoc]⟩
          · exact ⟨none, fun gb hp => by simp only [qj, hti, hk, hei, if_neg hn]; rfl⟩
      | _ => exact ⟨none, fun gb hp => by simp only [qj, hti, hk]; rfl⟩
  case nilCheck x =>
    cases hx : ev x with
    | lp k g off => exact ⟨some (.lp k g off), fun gb hp => by simp only [qj, hx]; rfl⟩
    | av y => exact ⟨(nnA y).bind fun _ => some (.av y), fun gb hp => by simp only [qj, hx]; simp [Option.bind_assoc]⟩
    | _ => exact ⟨none, fun gb hp => by simp only [qj, hx]; rfl⟩
  case binOp op t x y yt => exact ⟨binK c op t x y (ev x) (ev y) some, fun gb hp => by simp only [qj]; rw [binK_nat]⟩
  case unOp op t x => exact ⟨(asSV (ev x)).bind fun v => (unV c.P op v).bind fun z => some (.sv z), fun gb hp => by simp only [qj]; simp [Option.bind_assoc]⟩
  case convert s d x =>
    cases hs : c.tn s with
    | none => exact ⟨none, fun gb hp => by simp only [qj, hs]; rfl⟩
    | some si =>
      cases hd : c.tn d with
      | none => exact ⟨none, fun gb hp => by simp only [qj, hs, hd]; rfl⟩
      | some di => exact ⟨convK c s d si di (ev x) some, fun gb hp => by simp only [qj, hs, hd]; rw [convK_nat]⟩
  case makeFunc fn fs cs =>
    cases fn with
    | func f =>
      by_cases hf : fs.toList.isEmpty = true
      · exact ⟨(toAs (cs.toList.map ev)).bind fun xs => if xs.all flatA = true then (chkB (Nat.blt f 4294967296)).bind fun _ => some (.av (.fn f (xs.map ro1))) else none, fun gb hp => by
          simp only [qj, if_pos hf, Option.bind_assoc]
          congr 1; funext xs
          split <;> simp [Option.bind_assoc]⟩
      · by_cases hc : cs.toList.isEmpty = true
        · exact ⟨(toAs (fs.toList.map ev)).bind fun xs => (flatL xs).bind fun _ => some (.av (.fn (4294967296 + f) (xs.map ro1))), fun gb hp => by
            simp only [qj, if_neg hf, if_pos hc, Option.bind_assoc]
            congr 1⟩
        · exact ⟨none, fun gb hp => by simp only [qj, if_neg hf, if_neg hc]; rfl⟩
    | _ => exact ⟨none, fun gb hp => rfl⟩
  case slice t x lo hi mx =>
    cases hti : c.tn t with
    | none => exact ⟨none, fun gb hp => by simp only [qj, hti]; rfl⟩
    | some ti =>
      by_cases hm : (mx.isSome && !hi.isSome) = true
      · exact ⟨none, fun gb hp => by simp only [qj, hti, if_pos hm]; rfl⟩
      · exact ⟨(opV ev lo).bind fun l => (opV ev hi).bind fun u => (opV ev mx).bind fun m => sliceK c h ti t (ev x) l u m some, fun gb hp => by
          simp only [qj, hti, if_neg hm, Option.bind_assoc]
          congr 1; funext l; congr 1; funext u; congr 1; funext m
          rw [sliceK_nat]⟩
  case fieldAddr t x f =>
    cases hti : c.tn t with
    | none => exact ⟨none, fun gb hp => by simp only [qj, hti]; rfl⟩
    | some ti => exact ⟨ja c ti (ev x) f some, fun gb hp => by simp only [qj, hti]; rw [yo]⟩
  case field t x f =>
    cases hti : c.tn t with
    | none => exact ⟨none, fun gb hp => by simp only [qj, hti]; rfl⟩
    | some ti =>
      cases hk : ti.k with
      | st fs =>
        cases hf : fs[f]? with
        | none => exact ⟨none, fun gb hp => by simp only [qj, hti, hk, hf]; rfl⟩
        | some q =>
          obtain ⟨fo, ft⟩ := q
          cases hfi : c.tn ft with
          | none => exact ⟨none, fun gb hp => by simp only [qj, hti, hk, hf, hfi]; rfl⟩
          | some fi => exact ⟨(aggC (ev x)).bind fun cs => (zM fi 0 cs fo fun s l => some (s, l)).bind fun p => some p.1, fun gb hp => by
              simp only [qj, hti, hk, hf, hfi, Option.bind_assoc]
              congr 1; funext cs; rw [qx]; rfl⟩
      | _ => exact ⟨none, fun gb hp => by simp only [qj, hti, hk]; rfl⟩
  case indexAddr t x i =>
    cases hti : c.tn t with
    | none => exact ⟨none, fun gb hp => by simp only [qj, hti]; rfl⟩
    | some ti => exact ⟨zZ c h ti (ev x) (ev i) some, fun gb hp => by simp only [qj, hti]; rw [yh]⟩
  case index t x i =>
    cases hti : c.tt type with
    | none => exact ⟨none, fun gb hp => by simp only [qj, hti]; rfl⟩
    | some ti =>
      by_cases hs : isSc ti.k = true
      · exact ⟨(concS (ev x)).bind fun a => (asSV (ev i)).bind fun iv => (ixV c.P t a iv).bind fun z => some (.sv z), fun gb hp => by simp only [qj, hti, if_pos hs]; simp [Option.bind_assoc]⟩
      · cases hxi : c.tn t with
        | none => exact ⟨none, fun gb hp => by simp only [qj, hti, if_neg hs, hxi]; rfl⟩
        | some xi =>
          cases hk : xi.k with
          | ar n e =>
            cases hei : c.tn e with
            | none => exact ⟨none, fun gb hp => by simp only [qj, hti, if_neg hs, hxi, hk, hei]; rfl⟩
            | some ei => exact ⟨(aggC (ev x)).bind fun cs => (asSV (ev i)).bind fun iv => (idx n iv).bind fun j => (zM ei 0 cs (j * ei.size) fun s l => some (s, l)).bind fun p => some p.1, fun gb hp => by
                simp only [qj, hti, if_neg hs, hxi, hk, hei, Option.bind_assoc]
                congr 1; funext cs; congr 1; funext iv; congr 1; funext j; rw [qx]; rfl⟩
          | _ => exact ⟨none, fun gb hp => by simp only [qj, hti, if_neg hs, hxi, hk]; rfl⟩
  case extract x i =>
    cases hx : ev x with
    | tp l =>
      cases hl : l[i]? with
      | none => exact ⟨none, fun gb hp => by simp only [qj, hx, hl]; rfl⟩
      | some y =>
        cases hti : c.tt type with
        | none => exact ⟨none, fun gb hp => by simp only [qj, hx, hl, hti]; rfl⟩
        | some ti =>
          by_cases hs : isSc ti.k = true
          · exact ⟨(asSc y).bind fun v => some (.sv v), fun gb hp => by simp only [qj, hx, hl, hti, if_pos hs]; simp [Option.bind_assoc]⟩
          · by_cases h1 : h = 1
            · exact ⟨some (.av (ro y)), fun gb hp => by simp only [qj, hx, hl, hti, if_neg hs, if_pos h1]; rfl⟩
            · exact ⟨some (.av y), fun gb hp => by simp only [qj, hx, hl, hti, if_neg hs, if_neg h1]; rfl⟩
    | _ => exact ⟨none, fun gb hp => by simp only [qj, hx]; rfl⟩
  case call cl =>
    cases hc : cl.callee with
    | builtin b =>
      simp only [hc] at hop
      exact ⟨bltK c h ⟨dst, .call cl, type, pos, after, guard⟩ b cl.argTypes.toList (cl.args.toList.map ev) hp0 fun s _ => some s, fun gb hp => by simp only [qj, hc]; rw [bltK_pure hop]⟩
    | invoke r n => simp only [hc] at hop
    | value f => simp only [hc] at hop
  all_goals exact ⟨none, fun gb hp => rfl⟩
end
section
variable {c : Cx} {C : Orc} {h : Nat} {ev : Operand → SV}
theorem hp_ext {a b : Hp} (h1 : a.next = b.next) (h2 : a.get = b.get) : a = b := by
 cases a; cases b; simp only at h1 h2; subst h1; subst h2; rfl
theorem rd_get {a b : Hp} (h : a.get = b.get) : a.rd = b.rd := by
 funext x y; simp only [Hp.rd, h]
theorem put_get' {a b : Hp} (h : a.get = b.get) (x g : Nat) (cs : List AV) : (a.put x g cs).get = (b.put x g cs).get := by
 simp only [Hp.put, h]
theorem rdM_get {a b : Hp} (h : a.get = b.get) : a.rdM = b.rdM := by
 funext x; simp only [Hp.rdM, h]
theorem loc_all {o : Oper} {gb gb' : Nat → Option (Nat × List AV)} {hp hp' : Hp} {r : SV × BE × Hp} (hH : accH h o ev = (true, true, true)) (hg : qj c C h o ev gb' hp k3 = qj c C h o ev gb hp k3)
  (hn : r.2.1 = none) (hr : qj c C h o ev gb hp k3 = some r) (hA : (accH h o ev).1 = true ∨ (accH h o ev).2.1 = true → hp'.get = hp.get)
  (hB : (accH h o ev).2.2 = true → hp'.next = hp.next) : LocM c C h o ev gb gb' hp hp' r := by
 unfold LocM
 rw [hH] at hA hB ⊢
 have e : hp' = hp := hp_ext (hB rfl) (hA (.inl rfl))
 subst e
 rw [hg, hr]
 exact ⟨rfl, fun e => (by cases e), fun e => (by cases e), fun k g cs e => by rw [hn] at e; cases e⟩
theorem loadOpK_none {ti : TI} {a : SV} {gb : Nat → Option (Nat × List AV)} {hp : Hp} {r : SV × BE × Hp} (hr : zo 0 ti a gb hp k3 = some r) : r.2.1 = none := by
 unfold zo at hr
 split at hr
 ·split at hr
  ·split at hr
   ·rw [qx] at hr
    obtain ⟨q, hq, hr⟩ := bsm hr
    cases hr; rfl
   ·cases hr
  ·cases hr
 ·rw [if_neg (by decide), qx] at hr
  obtain ⟨q, hq, hr⟩ := bsm hr
  cases hr; rfl
 ·obtain ⟨q, hq, hr⟩ := bsm hr
  obtain ⟨cs, hcs, hr⟩ := bsm hr
  rw [qx] at hr
  obtain ⟨q, hq, hr⟩ := bsm hr
  cases hr; rfl
 ·cases hr
theorem loc_load3 {o : Oper} {t : TypeId} {x : Operand} (hop : o.op = .load t x) (h3 : h = 3) {gb gb' : Nat → Option (Nat × List AV)} {hp hp' : Hp} {r : SV × BE × Hp} (hr : qj c C h o ev gb hp k3 = some r)
  (hb : ∀ k, (accB h o ev).1 = some k ∨ (accB h o ev).2 = some k → gb' k = gb k) (hA : (accH h o ev).1 = true ∨ (accH h o ev).2.1 = true → hp'.get = hp.get)
  (hB : (accH h o ev).2.2 = true → hp'.next = hp.next) : LocM c C h o ev gb gb' hp hp' r := by
 subst h3
 have e1 : ∀ gb hp, qj c C 3 o ev gb hp k3 = (match c.tn t with | some ti => zo 0 ti (ev x) gb hp fun s b q => frzK ti.k q s fun s' q' => k3 s' b q' | none => none) := fun gb hp => by simp only [qj, hop] <;> rfl
 have eH : accH 3 o ev = (true, true, true) := by
  simp only [accH, hop]
  cases ev x <;> rfl
 have eB : ∀ k g off, ev x = .lp k g off → gb' k = gb k := fun k g off e => hb k (by simp [accB, hop, e])
 cases hti : c.tn t with
 | none => rw [e1, hti] at hr; cases hr
 | some ti =>
  refine loc_all eH ?_ ?_ hr hA hB
  ·rw [e1, e1, hti]
   simp only
   unfold zo
   cases hx : ev x with
   | lp k g off => simp only [eB k g off hx]
   | _ => rfl
  ·rw [e1, hti] at hr
   simp only [yG] at hr
   rw [jF] at hr
   obtain ⟨q, hq, hr⟩ := bsm hr
   obtain ⟨q', hq', hr⟩ := bsm hr
   cases hr
   have := loadOpK_none hq
   exact this
theorem load_see {ti : TI} {hp hp' : Hp} {y : AV} {p : Nat × Nat × Nat} (hy : qk y = some p) {cs : List AV} (h1 : h ≠ 1) (hcs : hp.rd p.1 p.2.1 = some cs) {s : SV × List AV} (hs : zM ti h cs p.2.2 (fun s cs' => some (s, cs')) = some s)
  (hq : seeG (y, match isAg ti.k with | true => ti.size | false => 1) hp'.get = seeG (y, match isAg ti.k with | true => ti.size | false => 1) hp.get) :
  ∃ cs', hp'.rd p.1 p.2.1 = some cs' ∧ ∃ s', zM ti h cs' p.2.2 (fun s cs' => some (s, cs')) = some s' ∧ s'.1 = s.1 := by
 obtain ⟨hg, h0⟩ : hp.get p.1 = some (0, cs) ∧ p.2.1 = 0 := by
  unfold Hp.rd at hcs
  obtain ⟨z, hz, hcs⟩ := bsm hcs
  split at hcs
  ·rename_i e
   cases hcs
   refine ⟨?_, e.2⟩
   rw [hz]
   obtain ⟨z1, z2⟩ := z
   have : z1 = 0 := by have := e.1; have := e.2; omega
   subst this; rfl
  ·cases hcs
 have key : ∀ n, seeG (y, n) hp.get = (getN cs p.2.2 n).map (List.map ro1) := by
  intro n
  simp only [seeG, hy, hg, Option.bind_some, if_true]
 have key' : ∀ n l, seeG (y, n) hp'.get = some l → ∃ cs', hp'.rd p.1 p.2.1 = some cs' ∧ ∃ l', getN cs' p.2.2 n = some l' ∧ l'.map ro1 = l := by
  intro n l hl
  unfold seeG at hl
  simp only [hy, Option.bind_some] at hl
  obtain ⟨z, hz, hl⟩ := bsm hl
  split at hl
  ·rename_i e
   obtain ⟨l', hl', rfl⟩ := Option.map_eq_some_iff.mp hl
   refine ⟨z.2, ?_, l', hl', rfl⟩
   have hz : hp'.get p.1 = some z := hz
   have e : z.1 = 0 := e
   simp only [Hp.rd, hz, Option.bind_some, e, h0, and_self, if_true]
  ·cases hl
 unfold zM at hs ⊢
 split at hs
 ·rename_i hsc
  have hag : isAg ti.k = false := by cases hk : ti.k <;> rw [hk] at hsc <;> first | rfl | cases hsc
  rw [hag] at hq
  obtain ⟨v, hv, hs⟩ := bsm hs
  cases hs
  have hx := yj hv
  have hlt := (List.getElem?_eq_some_iff.mp hx).1
  have e1 : getN cs p.2.2 1 = some [.sc v] := by
   unfold getN
   rw [if_pos (by omega)]
   congr 1
   obtain ⟨_, h2⟩ := List.getElem?_eq_some_iff.mp hx
   rw [List.drop_eq_getElem_cons hlt, h2]; rfl
  rw [key, e1] at hq
  obtain ⟨cs', hr, l', hl', e⟩ := key' 1 _ hq
  refine ⟨cs', hr, (.sv v, cs'), ?_, rfl⟩
  have e2 : cs'[p.2.2]? = some (.sc v) := by
   obtain ⟨hle, rfl⟩ := zB hl'
   have hlt' : p.2.2 < cs'.length := by omega
   rw [List.drop_eq_getElem_cons hlt'] at e
   have e : ro1 cs'[p.2.2] = .sc v := (List.cons.inj e).1
   rw [List.getElem?_eq_getElem hlt']
   cases hy : cs'[p.2.2] <;> rw [hy] at e <;> first | exact congrArg some e | cases e
  have e3 : qc cs' p.2.2 = some v := by simp [qc, e2, asSc]
  rw [if_pos hsc, e3]; rfl
 ·rename_i hsc
  simp only [if_neg hsc]
  split at hs
  ·rename_i hag
   rw [hag] at hq
   obtain ⟨l, hl, hs⟩ := bsm hs
   cases hs
   rw [key, hl] at hq
   obtain ⟨cs', hr, l', hl', e⟩ := key' ti.size _ hq
   refine ⟨cs', hr, (.av (.agg (l'.map ro1)), cs'), ?_, by rw [e]⟩
   rw [if_pos hag, hl']
   simp only [Option.bind_some, if_neg h1]
  ·rename_i hag
   have hag' : isAg ti.k = false := by cases h : isAg ti.k <;> first | rfl | exact absurd h hag
   rw [hag'] at hq
   obtain ⟨x, hx, hs⟩ := bsm hs
   cases hs
   have hx : cs[p.2.2]? = some x := hx
   have hlt := (List.getElem?_eq_some_iff.mp hx).1
   have e1 : getN cs p.2.2 1 = some [x] := by
    unfold getN
    rw [if_pos (by omega)]
    congr 1
    obtain ⟨_, h2⟩ := List.getElem?_eq_some_iff.mp hx
    rw [List.drop_eq_getElem_cons hlt, h2]; rfl
   rw [key, e1] at hq
   obtain ⟨cs', hr, l', hl', e⟩ := key' 1 _ hq
   obtain ⟨hle, rfl⟩ := zB hl'
   have hlt' : p.2.2 < cs'.length := by omega
   rw [List.drop_eq_getElem_cons hlt'] at e
   have e : ro1 cs'[p.2.2] = ro1 x := (List.cons.inj e).1
   refine ⟨cs', hr, (.av (ro1 cs'[p.2.2]), cs'), ?_, by rw [e]⟩
   have e3 : getC cs' p.2.2 = some cs'[p.2.2] := List.getElem?_eq_getElem hlt'
   simp only [if_neg hag, e3, Option.bind_some, if_neg h1]
theorem loc_load {o : Oper} {t : TypeId} {x : Operand} (hop : o.op = .load t x) (h3 : h ≠ 3) {gb gb' : Nat → Option (Nat × List AV)} {hp hp' : Hp} {r : SV × BE × Hp} (hr : qj c C h o ev gb hp k3 = some r)
  (hb : ∀ k, (accB h o ev).1 = some k ∨ (accB h o ev).2 = some k → gb' k = gb k) (hA : (accH h o ev).1 = true ∨ (accH h o ev).2.1 = true → hp'.get = hp.get)
  (hL : ∀ q, lqOf h o c.tn ev = some q → seeG q hp'.get = seeG q hp.get) : LocM c C h o ev gb gb' hp hp' r := by
 have e1 : ∀ gb hp, qj c C h o ev gb hp k3 = (match c.tn t with | some ti => zo h ti (ev x) gb hp k3 | none => none) := fun gb hp => by
  simp only [qj, hop]
  cases c.tn t with
  | none => rfl
  | some ti => simp only [if_neg h3]
 have eB : accB h o ev = (match ev x with | .lp k _ _ => if h = 1 then (none, some k) else (some k, none) | _ => (none, none)) := by simp only [accB, hop] <;> rfl
 have h3b : (h == 3) = false := by simpa using h3
 have eH : accH h o ev = (match ev x with | .av _ => (h == 1, h == 1, false) | _ => (false, false, false)) := by
  simp only [accH, hop, h3b, Bool.or_false]
  cases ev x <;> rfl
 unfold LocM
 rw [e1] at hr ⊢
 rw [eH] at hA ⊢
 rw [eB] at hb ⊢
 cases hti : c.tn t with
 | none => rw [hti] at hr; cases hr
 | some ti =>
  rw [hti] at hr
  simp only at hr ⊢
  unfold zo at hr ⊢
  cases hx : ev x with
  | lp k g off =>
   rw [hx] at hr hb
   simp only at hr hb ⊢
   have hg : gb' k = gb k := by
    apply hb
    by_cases h1 : h = 1 <;> simp [h1]
   rw [hg]
   cases hgb : gb k with
   | none => rw [hgb] at hr; cases hr
   | some q =>
    obtain ⟨g', cs⟩ := q
    rw [hgb] at hr
    simp only at hr ⊢
    by_cases hgg : g = g'
    ·simp only [if_pos hgg] at hr ⊢
     rw [qx] at hr ⊢
     obtain ⟨q, hq, hr⟩ := bsm hr
     cases hr
     rw [hq]
     refine ⟨rfl, fun _ => rfl, fun _ => rfl, fun k' g' cs' e => ?_⟩
     by_cases h1 : h = 1
     ·simp only [h1, if_true] at e ⊢
      cases e; rfl
     ·simp only [h1, if_false] at e; cases e
    ·simp only [if_neg hgg] at hr; cases hr
  | rv cs =>
   rw [hx] at hr
   simp only at hr ⊢
   by_cases h1 : h = 1
   ·simp only [if_pos h1] at hr; cases hr
   ·simp only [if_neg h1] at hr ⊢
    rw [qx] at hr ⊢
    obtain ⟨q, hq, hr⟩ := bsm hr
    cases hr
    rw [hq]
    exact ⟨rfl, fun _ => rfl, fun _ => rfl, fun _ _ _ e => by cases e⟩
  | av y =>
   rw [hx] at hr hA
   simp only at hr hA ⊢
   obtain ⟨p, hp1, hr⟩ := bsm hr
   obtain ⟨cs, hcs, hr⟩ := bsm hr
   by_cases h1 : h = 1
   ·have hne : (h == 1) = true := by simp [h1]
    have hge : hp'.get = hp.get := hA (.inl hne)
    rw [hp1, rd_get hge]
    simp only [Option.bind_some, hcs]
    rw [qx] at hr ⊢
    obtain ⟨q, hq, hr⟩ := bsm hr
    cases hr
    rw [hq]
    refine ⟨?_, fun _ => ?_, fun e => ?_, fun _ _ _ e => by cases e⟩
    ·simp only [h1, if_true, Option.bind_some, beq_self_eq_true, Bool.false_eq_true, if_false]
     refine congrArg some (congrArg (Prod.mk _) (congrArg (Prod.mk _) (hp_ext rfl (put_get' hge _ _ _))))
    ·simp only [if_pos h1]; rfl
    ·have e' : (h == 1) = false := e
     rw [hne] at e'; cases e'
   ·have hne : (h == 1) = false := by simpa using h1
    have hq := hL _ (by simp only [lqOf, hop, hx, hne, h3b, Bool.or_false, hti]; rfl)
    rw [hp1]
    simp only [Option.bind_some]
    rw [qx] at hr
    obtain ⟨s, hs, hr⟩ := bsm hr
    obtain ⟨cs', hcs', hs'⟩ := load_see hp1 h1 hcs hs hq
    rw [hcs']
    simp only [Option.bind_some]
    rw [qx]
    obtain ⟨s', hs'', e⟩ := hs'
    rw [hs'']
    simp only [Option.bind_some, if_neg h1] at hr ⊢
    cases hr
    rw [e]
    refine ⟨?_, fun _ => rfl, fun _ => rfl, fun _ _ _ e => by cases e⟩
    simp only [hne, Bool.false_eq_true, if_false]
  | _ => rw [hx] at hr; cases hr
theorem loc_store {o : Oper} {t : TypeId} {x y : Operand} (hop : o.op = .store t x y) {gb gb' : Nat → Option (Nat × List AV)} {hp hp' : Hp} {r : SV × BE × Hp} (hr : qj c C h o ev gb hp k3 = some r)
  (hb : ∀ k, (accB h o ev).1 = some k ∨ (accB h o ev).2 = some k → gb' k = gb k) (hA : (accH h o ev).1 = true ∨ (accH h o ev).2.1 = true → hp'.get = hp.get) : LocM c C h o ev gb gb' hp hp' r := by
 have e1 : ∀ gb hp, qj c C h o ev gb hp k3 = (match c.tn t with | some ti => jB ti (ev x) (ev y) gb hp k3 | none => none) := fun gb hp => by simp only [qj, hop] <;> rfl
 have eB : accB h o ev = (match ev x with | .lp k _ _ => (none, some k) | _ => (none, none)) := by simp only [accB, hop] <;> rfl
 have eH : accH h o ev = (match ev x with | .av _ => (false, true, false) | _ => (false, false, false)) := by simp only [accH, hop] <;> rfl
 unfold LocM
 rw [e1] at hr ⊢
 rw [eH] at hA ⊢
 rw [eB] at hb ⊢
 cases hti : c.tn t with
 | none => rw [hti] at hr; cases hr
 | some ti =>
  rw [hti] at hr
  simp only at hr ⊢
  unfold jB at hr ⊢
  obtain ⟨vs, hvs, hr⟩ := bsm hr
  rw [hvs]
  simp only [Option.bind_some]
  cases hx : ev x with
  | lp k g off =>
   rw [hx] at hr hb
   simp only at hr hb ⊢
   have hg : gb' k = gb k := hb k (.inr rfl)
   rw [hg]
   cases hgb : gb k with
   | none => rw [hgb] at hr; cases hr
   | some q =>
    obtain ⟨g', cs⟩ := q
    rw [hgb] at hr
    simp only at hr ⊢
    by_cases hgg : g = g'
    ·simp only [if_pos hgg] at hr ⊢
     obtain ⟨q, hq, hr⟩ := bsm hr
     cases hr
     rw [hq]
     exact ⟨rfl, fun _ => rfl, fun _ => rfl, fun k' g' cs' e => by cases e; rfl⟩
    ·simp only [if_neg hgg] at hr; cases hr
  | av z =>
   rw [hx] at hr hA
   simp only at hr hA ⊢
   have hge : hp'.get = hp.get := hA (.inr trivial)
   obtain ⟨p, hp1, hr⟩ := bsm hr
   obtain ⟨cs, hcs, hr⟩ := bsm hr
   obtain ⟨q, hq, hr⟩ := bsm hr
   cases hr
   rw [hp1, rd_get hge]
   simp only [Option.bind_some, hcs, hq, if_true, Bool.false_eq_true, if_false]
   refine ⟨?_, fun _ => rfl, fun e => (by cases e), fun _ _ _ e => by cases e⟩
   exact congrArg some (congrArg (Prod.mk _) (congrArg (Prod.mk _) (hp_ext rfl (put_get' hge _ _ _))))
  | _ => rw [hx] at hr; cases hr
theorem loc_new {o : Oper} {cs : List AV} {gb gb' : Nat → Option (Nat × List AV)} {hp hp' : Hp} {r : SV × BE × Hp} {W : Option (List AV)}
  (he : ∀ gb hp, qj c C h o ev gb hp k3 = W.bind fun cs => if h = 2 then k3 (.av (.ptr hp.next 0 0)) none (hp.new cs) else
   match o.dst with
   | some d => let g := match gb d with | some (g, _) => g + 1 | none => 0
    k3 (.lp d g 0) (some (d, g, cs)) hp
   | none => none)
  (eB : accB h o ev = if h = 2 then (none, none) else (none, o.dst)) (eH : accH h o ev = (false, h == 2, h == 2))
  (hr : qj c C h o ev gb hp k3 = some r) (hb : ∀ k, (accB h o ev).1 = some k ∨ (accB h o ev).2 = some k → gb' k = gb k) (hA : (accH h o ev).1 = true ∨ (accH h o ev).2.1 = true → hp'.get = hp.get)
  (hB : (accH h o ev).2.2 = true → hp'.next = hp.next) : LocM c C h o ev gb gb' hp hp' r := by
 unfold LocM
 rw [he] at hr ⊢
 rw [eH] at hA hB ⊢
 rw [eB] at hb ⊢
 obtain ⟨cs, hcs, hr⟩ := bsm hr
 rw [hcs]
 simp only [Option.bind_some]
 by_cases h2 : h = 2
 ·simp only [h2, if_true, beq_self_eq_true] at hr hA hB ⊢
  cases hr
  have hg := hA (.inr trivial)
  have hn := hB trivial
  refine ⟨?_, fun e => (by cases e), fun e => (by cases e), fun _ _ _ e => by cases e⟩
  show some (SV.av (.ptr hp'.next 0 0), (none : BE), hp'.new cs) = some (SV.av (.ptr hp.next 0 0), none, ⟨(hp.new cs).next, (hp.new cs).get⟩)
  rw [hp_ext hn hg]
 ·have hne : (h == 2) = false := by simpa using h2
  simp only [if_neg h2, hne, Bool.false_eq_true, if_false] at hr hb ⊢
  cases hd : o.dst with
  | none => rw [hd] at hr; cases hr
  | some d =>
   rw [hd] at hr hb
   simp only at hr hb ⊢
   have hg := hb d (.inr rfl)
   rw [hg]
   cases hr
   exact ⟨rfl, fun _ => rfl, fun _ => rfl, fun k g cs e => by cases e; rfl⟩
theorem loc_callK {ti : TI} {f : FuncId} {caps : List AV} {as_ : List SV} {hp hp' : Hp} {r : SV × BE × Hp} (hr : zE c C h ti f caps as_ hp k3 = some r) (hA : h = 2 ∨ h = 4 → hp'.get = hp.get) (hB : h = 2 ∨ h = 4 → hp'.next = hp.next) :
  zE c C h ti f caps as_ hp' k3 = some (r.1, r.2.1, if h = 2 ∨ h = 4 then r.2.2 else hp') ∧ (¬(h = 2 ∨ h = 4) → r.2.2 = hp) ∧ r.2.1 = none := by
 by_cases h24 : h = 2 ∨ h = 4
 ·rw [hp_ext (hB h24) (hA h24), hr, if_pos h24]
  refine ⟨rfl, fun e => absurd h24 e, ?_⟩
  unfold zE at hr
  obtain ⟨xs, hxs, hr⟩ := bsm hr
  rcases h24 with h2 | h4
  ·rw [if_pos h2] at hr
   obtain ⟨p, hp1, hr⟩ := bsm hr
   rw [zI] at hr
   obtain ⟨s, hs, hr⟩ := bsm hr
   cases hr; rfl
  ·rw [if_neg (by omega), if_pos h4] at hr
   obtain ⟨p, hp1, hr⟩ := bsm hr
   rw [zI] at hr
   obtain ⟨s, hs, hr⟩ := bsm hr
   cases hr; rfl
 ·have h2 : h ≠ 2 := fun e => h24 (.inl e)
  have h4 : h ≠ 4 := fun e => h24 (.inr e)
  unfold zE at hr ⊢
  obtain ⟨xs, hxs, hr⟩ := bsm hr
  rw [hxs]
  simp only [Option.bind_some]
  simp only [if_neg h2, if_neg h4, if_neg h24] at hr ⊢
  obtain ⟨u, hu, hr⟩ := bsm hr
  rw [hu]
  simp only [Option.bind_some]
  obtain ⟨p, hp1, hr⟩ := bsm hr
  rw [hp1]
  simp only [Option.bind_some]
  obtain ⟨u', hu', hr⟩ := bsm hr
  rw [hu']
  simp only [Option.bind_some]
  rw [zI] at hr ⊢
  obtain ⟨s, hs, hr⟩ := bsm hr
  cases hr
  rw [hs]
  exact ⟨rfl, fun _ => rfl, rfl⟩
theorem coreK_loc {o : Oper} {gb gb' : Nat → Option (Nat × List AV)} {hp hp' : Hp} {r : SV × BE × Hp} (hr : qj c C h o ev gb hp k3 = some r)
    (hb : ∀ k, (accB h o ev).1 = some k ∨ (accB h o ev).2 = some k → gb' k = gb k) (hA : (accH h o ev).1 = true ∨ (accH h o ev).2.1 = true → hp'.get = hp.get)
    (hB : (accH h o ev).2.2 = true → hp'.next = hp.next) (hL : ∀ q, lqOf h o c.tn ev = some q → seeG q hp'.get = seeG q hp.get) : LocM c C h o ev gb gb' hp hp' r := by
  have pure : accH h o ev = (false, false, false) → (match o.op with | .load _ _ => False | .store _ _ _ => False | .alloc _ => False | .box _ _ => False | .makeSlice _ _ _ => False | .makeMap _ _ => False | .lookup _ _ _ _ => False | .mapUpdate _ _ _ _ => False | .move _ => h ≠ 3 | .assign _ => h ≠ 3 | .call cl => (match cl.callee with | .builtin _ => h ≠ 2 | _ => False) | _ => True) → LocM c C h o ev gb gb' hp hp' r := by
    intro hH hop
    obtain ⟨Z, hz⟩ := coreK_pure (c := c) (C := C) (h := h) (ev := ev) hop
    exact locM_pure hH hz hr
  cases hop : o.op
  case load t x =>
    by_cases h3 : h = 3
    · exact loc_load3 hop h3 hr hb hA hB
    · exact loc_load hop h3 hr hb hA hL
  case move x =>
    by_cases h3 : h = 3
    · subst h3
      refine loc_all (by simp only [accH, hop]; rfl) (by simp only [qj, hop]) ?_ hr hA hB
      simp only [qj, hop] at hr
      split at hr
      · rw [if_pos trivial, yG] at hr
        obtain ⟨q, hq, hr⟩ := bsm hr
        cases hr; rfl
      · cases hr
    · have h3b : (h == 3) = false := by simpa using h3
      exact pure (by simp only [accH, hop, h3b]) (by simp only [hop]; exact h3)
  case assign x =>
    by_cases h3 : h = 3
    · subst h3
      refine loc_all (by simp only [accH, hop]; rfl) (by simp only [qj, hop]) ?_ hr hA hB
      simp only [qj, hop] at hr
      split at hr
      · rw [if_pos trivial, yG] at hr
        obtain ⟨q, hq, hr⟩ := bsm hr
        cases hr; rfl
      · cases hr
    · have h3b : (h == 3) = false := by simpa using h3
      exact pure (by simp only [accH, hop, h3b]) (by simp only [hop]; exact h3)
  case makeMap t m =>
    have hm : m = none ∧ h = 2 := by
      cases m with
      | some m => simp only [qj, hop] at hr; cases hr
      | none =>
        simp only [qj, hop] at hr
        split at hr
        · exact ⟨rfl, by assumption⟩
        · cases hr
    obtain ⟨rfl, h2⟩ := hm
    refine loc_all (by simp only [accH, hop]) (by simp only [qj, hop]) ?_ hr hA hB
    simp only [qj, hop, if_pos h2] at hr
    cases hr; rfl
  case mapUpdate t m k x =>
    refine loc_all (by simp only [accH, hop]) (by simp only [qj, hop]) ?_ hr hA hB
    simp only [qj, hop] at hr
    split at hr
    · rw [mapPutK_nat] at hr
      obtain ⟨q, hq, hr⟩ := bsm hr
      cases hr; rfl
    · cases hr
  case lookup t x i ok =>
    have eH : accH h o ev = (true, false, false) := by simp only [accH, hop]
    have eB : accB h o ev = (none, none) := by simp only [accB, hop]
    unfold LocM
    rw [eH] at hA ⊢
    rw [eB]
    have hge : hp'.get = hp.get := hA (.inl rfl)
    simp only [qj, hop] at hr ⊢
    split at hr
    · rw [yE] at hr
      obtain ⟨s, hs, hr⟩ := bsm hr
      cases hr
      have e : jS c t (ev x) (ev i) ok hp' some = jS c t (ev x) (ev i) ok hp some := by
        unfold jS
        rw [rdM_get hge]
      rename_i h2
      rw [if_pos h2, yE, e, hs]
      exact ⟨rfl, fun _ => rfl, fun _ => rfl, fun _ _ _ e => by cases e⟩
    · cases hr
  case store t x y => exact loc_store hop hr hb hA
  case alloc t =>
    refine loc_new (cs := []) (W := (c.tn t).map fun ti => qY ti.zero) (fun gb hp => ?_) (by simp only [accB, hop]) (by simp only [accH, hop]) hr hb hA hB
    simp only [qj, hop]
    cases c.tn t <;> rfl
  case box t x =>
    refine loc_new (cs := []) (W := (c.tn t).bind fun ti => (valC ti.size (ev x)).map fun vs => vs.map ro1) (fun gb hp => ?_) (by simp only [accB, hop]) (by simp only [accH, hop]) hr hb hA hB
    simp only [qj, hop]
    cases c.tn t with
    | none => rfl
    | some ti =>
      simp only [Option.bind_some]
      cases valC ti.size (ev x) <;> rfl
  case makeSlice t l m =>
    have eH : accH h o ev = (false, h == 2, h == 2) := by simp only [accH, hop]
    have eB : accB h o ev = (none, none) := by simp only [accB, hop]
    have key : ∃ W : Option (Nat × List AV × Nat), ∀ gb hp, qj c C h o ev gb hp k3 = W.bind fun q => if h = 2 then k3 (.av (.ms hp.next 0 0 q.1 q.2.2)) none (hp.new q.2.1) else k3 (.av (.us q.2.2 q.2.1)) none hp := by
      cases hti : c.tn t with
      | none => exact ⟨none, fun gb hp => by simp only [qj, hop, hti]; rfl⟩
      | some ti =>
        cases hk : ti.k with
        | sl e =>
          cases hei : c.tn e with
          | none => exact ⟨none, fun gb hp => by simp only [qj, hop, hti, hk, hei]; rfl⟩
          | some ei =>
            refine ⟨(asSV (ev l)).bind fun lv => (asSV (ev m)).bind fun mv => (asI lv).bind fun n => (asI mv).bind fun n' =>
              (okMake ei.bytes ei.size n n').bind fun _ => some (tN n, zerosA n ei.zero, ei.size), fun gb hp => ?_⟩
            simp only [qj, hop, hti, hk, hei, Option.bind_assoc]
            congr 1
        | _ => exact ⟨none, fun gb hp => by simp only [qj, hop, hti, hk]; rfl⟩
    obtain ⟨W, he⟩ := key
    unfold LocM
    rw [he] at hr ⊢
    rw [eH] at hA hB ⊢
    rw [eB] at hb ⊢
    obtain ⟨q, hq, hr⟩ := bsm hr
    rw [hq]
    simp only [Option.bind_some]
    by_cases h2 : h = 2
    · simp only [h2, if_true, beq_self_eq_true] at hr hA hB ⊢
      cases hr
      rw [hp_ext (hB trivial) (hA (.inr trivial))]
      exact ⟨rfl, fun e => (by cases e), fun e => (by cases e), fun _ _ _ e => by cases e⟩
    · have hne : (h == 2) = false := by simpa using h2
      simp only [if_neg h2, hne, Bool.false_eq_true, if_false] at hr ⊢
      cases hr
      exact ⟨rfl, fun _ => rfl, fun _ => rfl, fun _ _ _ e => by cases e⟩
  case call cl =>
    cases hcl : cl.callee with
    | builtin b =>
      by_cases h2 : h = 2
      · subst h2
        refine loc_all (by simp only [accH, hop, hcl]; rfl) (by simp only [qj, hop, hcl]) ?_ hr hA hB
        simp only [qj, hop, hcl] at hr
        rw [bltK_nat] at hr
        obtain ⟨q, hq, hr⟩ := bsm hr
        cases hr; rfl
      · have h2b : (h == 2) = false := by simpa using h2
        exact pure (by simp only [accH, hop, hcl, h2b]) (by simp only [hop, hcl]; exact h2)
    | invoke x n => simp only [qj, hop, hcl] at hr; cases hr
    | value f =>
      have eH : accH h o ev = (h == 2 || h == 4, h == 2 || h == 4, h == 2 || h == 4) := by simp only [accH, hop, hcl]
      have e24 : (h == 2 || h == 4) = true ↔ h = 2 ∨ h = 4 := by simp
      have eB : accB h o ev = (none, none) := by simp only [accB, hop]
      have key : (∃ ti g caps, ∀ hp gb, qj c C h o ev gb hp k3 = zE c C h ti g caps (cl.args.toList.map ev) hp k3) ∨ ∃ Z : Option SV, ∀ gb hp, qj c C h o ev gb hp k3 = Z.bind fun s => some (s, none, hp) := by
        cases f with
        | tmp t =>
          cases hti : c.tt o.type with
          | none => exact .inr ⟨none, fun gb hp => by simp only [qj, hop, hcl, hti]; rfl⟩
          | some ti =>
            cases hx : ev (.tmp t) with
            | av x =>
              by_cases h4 : h = 4
              · cases hf : getBd x with
                | none => exact .inr ⟨none, fun gb hp => by simp only [qj, hop, hcl, hti, hx, if_pos h4, hf]; rfl⟩
                | some p => exact .inl ⟨ti, p.1, p.2, fun hp gb => by simp only [qj, hop, hcl, hti, hx, if_pos h4, hf]; rfl⟩
              · cases hf : getFn x with
                | none => exact .inr ⟨none, fun gb hp => by simp only [qj, hop, hcl, hti, hx, if_neg h4, hf]; rfl⟩
                | some p => exact .inl ⟨ti, p.1, p.2, fun hp gb => by simp only [qj, hop, hcl, hti, hx, if_neg h4, hf]; rfl⟩
            | _ => exact .inr ⟨none, fun gb hp => by simp only [qj, hop, hcl, hti, hx]; rfl⟩
        | func g =>
          cases hF : c.F g with
          | none => exact .inr ⟨none, fun gb hp => by simp only [qj, hop, hcl, hF]; rfl⟩
          | some fn =>
            cases hti : c.tt o.type with
            | none => exact .inr ⟨none, fun gb hp => by simp only [qj, hop, hcl, hF, hti]; rfl⟩
            | some ti =>
              cases hb' : fn.body with
              | some b => exact .inl ⟨ti, g, [], fun hp gb => by simp only [qj, hop, hcl, hF, hti, hb']⟩
              | none => exact .inr ⟨(toVs (cl.args.toList.map ev)).bind fun vs => (one (c.X g vs)).bind fun z => some (.sv z), fun gb hp => by
                  simp only [qj, hop, hcl, hF, hti, hb', Option.bind_assoc]; rfl⟩
        | const v => exact .inr ⟨none, fun gb hp => by simp only [qj, hop, hcl]; rfl⟩
        | global g => exact .inr ⟨none, fun gb hp => by simp only [qj, hop, hcl]; rfl⟩
      unfold LocM
      rw [eH] at hA hB ⊢
      rw [eB]
      rcases key with ⟨ti, g, caps, he⟩ | ⟨Z, hz⟩
      · rw [he] at hr ⊢
        obtain ⟨a1, a2, a3⟩ := loc_callK hr (fun h2 => hA (.inl (e24.mpr h2))) (fun h2 => hB (e24.mpr h2))
        rw [a1]
        by_cases h2 : h = 2 ∨ h = 4
        · simp only [if_pos h2, e24.mpr h2, if_true]
          exact ⟨by trivial, fun e => (by cases e), fun e => (by cases e), fun k g cs e => by rw [a3] at e; cases e⟩
        · have hne : (h == 2 || h == 4) = false := by
            cases e : (h == 2 || h == 4) with
            | false => rfl
            | true => exact absurd (e24.mp e) h2
          simp only [if_neg h2, hne, Bool.false_eq_true, if_false]
          exact ⟨trivial, fun _ => by rw [a2 h2], fun _ => by rw [a2 h2], fun k g cs e => by rw [a3] at e; cases e⟩
      · rw [hz] at hr ⊢
        obtain ⟨s, hs, hr⟩ := bsm hr
        cases hr
        rw [hs]
        simp only [Option.bind_some]
        by_cases h2 : h = 2 ∨ h = 4
        · have hb2 : (h == 2 || h == 4) = true := e24.mpr h2
          rw [hp_ext (hB hb2) (hA (.inl hb2))]
          simp only [hb2, if_true]
          exact ⟨trivial, fun e => (by cases e), fun e => (by cases e), fun k g cs e => by cases e⟩
        · have hne : (h == 2 || h == 4) = false := by
            cases e : (h == 2 || h == 4) with
            | false => rfl
            | true => exact absurd (e24.mp e) h2
          simp only [hne, Bool.false_eq_true, if_false]
          exact ⟨trivial, fun _ => trivial, fun _ => trivial, fun k g cs e => by cases e⟩
  all_goals exact pure (by simp only [accH, hop]) (by simp only [hop])
end
structure Vw where
 sl : Nat → SV
 bx : Nat → Option (Nat × List AV)
 hp : Hp
def St.vw (st : St) : Vw := ⟨slot st.sl, getB st.bx, st.hp⟩
def evV (σ : Nat → SV) : Operand → SV
 | .tmp t => σ t
 | x => evS [] x
theorem evV_slot (l : Slots) : evV (slot l) = evS l := by
 funext x; cases x <;> rfl
def dnV (h : Nat) (o : Oper) (σ : Nat → SV) (k : Nat) : SV :=
 match o.op with
 | .extract (.tmp t) i => if h = 1 then σ k else if k = t then (match σ t with | .tp xs => .tp (match xs[i]? with | some y => xs.set i (ro y) | none => xs) | s => s) else σ k
 | _ => if k ∈ qC h o then (σ k).ro else σ k
def putV (σ : Nat → SV) (d : Option Tmp) (s : SV) (k : Nat) : SV := if d = some k then s else σ k
def setV (β : Nat → Option (Nat × List AV)) (b : BE) (k : Nat) : Option (Nat × List AV) :=
 match b with
 | some (j, g, cs) => if j = k then some (g, cs) else β k
 | none => β k
def fpV (tn : TypeId → Option TI) (h : Nat) (ops : Array Oper) (o : Oper) (ev : Operand → SV) (hp hp' : Hp) : Fp :=
 { rs := o.looksAt ops, ws := o.dst.toList ++ qC h o, br := (accB h o ev).1, bw := (accB h o ev).2, hr := (accH h o ev).1, hw := (accH h o ev).2.1, nw := (accH h o ev).2.2, lq := lqOf h o tn ev, gb := gsel (accH h o ev).2.1 hp, ga := gsel (accH h o ev).2.1 hp' }
theorem fpOf_eq (tn : TypeId → Option TI) (h : Nat) (ops : Array Oper) (o : Oper) (l : Slots) (hp hp' : Hp) : fpOf tn h ops o l hp hp' = fpV tn h ops o (evV (slot l)) hp hp' := by
 rw [evV_slot]; rfl
theorem dnOp_no {h : Nat} {o : Oper} (hno : ∀ t i, o.op ≠ .extract (.tmp t) i) (l : Slots) : dnOp h o l = qz (qC h o) l := by
 unfold dnOp
 split
 ·rename_i t i hop; exact absurd hop (hno t i)
 ·rfl
theorem dnV_no {h : Nat} {o : Oper} (hno : ∀ t i, o.op ≠ .extract (.tmp t) i) (σ : Nat → SV) (k : Nat) : dnV h o σ k = if k ∈ qC h o then (σ k).ro else σ k := by
 unfold dnV
 split
 ·rename_i t i hop; exact absurd hop (hno t i)
 ·rfl
theorem dn_slot (h : Nat) (o : Oper) (l : Slots) (k : Nat) : slot (dnOp h o l) k = dnV h o (slot l) k := by
 by_cases hop : ∃ t i, o.op = .extract (.tmp t) i
 ·obtain ⟨t, i, hop⟩ := hop
  by_cases h1 : h = 1
  ·have e1 : dnOp h o l = l := by simp only [dnOp, hop, if_pos h1]
   have e2 : dnV h o (slot l) k = slot l k := by simp only [dnV, hop, if_pos h1]
   rw [e1, e2]
  have e1 : dnOp h o l = dnX t i l := by simp only [dnOp, hop, if_neg h1]
  have e2 : dnV h o (slot l) k = if k = t then (match slot l t with | .tp xs => .tp (match xs[i]? with | some y => xs.set i (ro y) | none => xs) | s => s) else slot l k := by simp only [dnV, hop, if_neg h1] <;> rfl
  rw [e1, e2]
  simp only [dnX]
  cases hx : slot l t with
  | tp xs =>
   simp only
   rw [qK]
   by_cases e : t = k
   ·subst e; rw [if_pos rfl, if_pos rfl]; rfl
   ·have e' : ¬ k = t := fun h => e h.symm
    simp [e, e']
  | _ =>
   simp only
   by_cases e : k = t
   ·subst e; simp [hx]
   ·simp [e]
 ·have hno : ∀ t i, o.op ≠ .extract (.tmp t) i := fun t i e => hop ⟨t, i, e⟩
  rw [dnOp_no hno, dnV_no hno, zd]
theorem put_slot (l : Slots) (d : Option Tmp) (s : SV) (k : Nat) : slot (putS l d s) k = putV (slot l) d s k := by
 cases d with
 | none => simp [putS, putV]
 | some d =>
  simp only [putS, putV]
  rw [qK]
  by_cases e : d = k
  ·subst e; simp
  ·have : ¬ some d = some k := fun h => e (Option.some.inj h)
   simp [e]
theorem after_vw (h : Nat) (o : Oper) (st : St) (s : SV) (b : BE) (hp : Hp) : (after h o st s b hp).vw = ⟨putV (dnV h o (slot st.sl)) o.dst s, setV (getB st.bx) b, hp⟩ := by
 unfold St.vw after
 congr 1
 ·funext k
  rw [put_slot]
  unfold putV
  rw [dn_slot]
 ·funext k
  cases b with
  | none => rfl
  | some q => obtain ⟨j, g, cs⟩ := q; simp only [setV]; rw [yn]
section
variable (c : Cx) (C : Orc) (f : FuncId) (r : Nat) (ops : Array Oper)
def vExec (h : Nat) (o : Oper) (v : Vw) : Option (Vw × Fp) :=
 (qj c C h o (evV v.sl) v.bx v.hp k3).bind fun q => some (⟨putV (dnV h o v.sl) o.dst q.1, setV v.bx q.2.1, q.2.2⟩, fpV c.tn h ops o (evV v.sl) v.hp q.2.2)
def vSkip (o : Oper) (v : Vw) : Vw × Fp := (⟨putV v.sl o.dst .ud, v.bx, v.hp⟩, fpSkip ops o)
def vOp (i : Nat) (v : Vw) : Option (Vw × Fp) :=
 match ops[i]? with
 | none => none
 | some o => match jA o ops with
  | none => none
  | some none => vExec c C ops (c.H f r i) o v
  | some (some (g, want)) => match v.sl g with
   | .ud => some (vSkip ops o v)
   | .sv u => (asB u).bind fun t => if t = want then vExec c C ops (c.H f r i) o v else some (vSkip ops o v)
   | _ => none
def vRun : List Nat → Vw → Option (Vw × List (Nat × Fp))
 | [], v => some (v, [])
 | i :: is, v => (vOp c C f r ops i v).bind fun p => (vRun is p.1).bind fun q => some (q.1, (i, p.2) :: q.2)
end
section
variable {c : Cx} {C : Orc} {f : FuncId} {r : Nat} {ops : Array Oper}
theorem setT_vw (st : St) (g : Nat) (b : Bool) (h : slot st.sl g = .sv (.bool b)) : (setT st g b).vw = st.vw := by
 unfold setT St.vw
 congr 1
 funext k
 show slot ((g, .sv (.bool b)) :: st.sl) k = slot st.sl k
 rw [qK]
 split
 ·rename_i e; subst e; exact h.symm
 ·rfl
theorem execF_v {G : GoT} {is : List Nat} {d : Bool} {acc : List (Nat × Fp)} {k : List It} {h i : Nat} {o : Oper} {st : St} {q : AV × Hp} (hr : execF c C G r ops is d acc k h i o st = some q) :
  ∃ st1 F, vExec c C ops h o st.vw = some (st1.vw, F) ∧ G (.ops r ops is d (accP d i F acc) :: k) st1 = some q := by
 unfold execF at hr
 rw [yR] at hr
 obtain ⟨p, hp, hr⟩ := bsm hr
 refine ⟨_, _, ?_, hr⟩
 unfold vExec
 show (qj c C h o (evV (slot st.sl)) (getB st.bx) st.hp k3).bind _ = _
 rw [evV_slot, hp]
 simp only [Option.bind_some]
 rw [after_vw, fpOf_eq]
 rfl
theorem skipF_v {G : GoT} {is : List Nat} {d : Bool} {acc : List (Nat × Fp)} {k : List It} {i : Nat} {o : Oper} {st : St} {q : AV × Hp} (hr : skipF G r ops is d acc k i o st = some q) :
  ∃ st1, vSkip ops o st.vw = (st1.vw, fpSkip ops o) ∧ G (.ops r ops is d (accP d i (fpSkip ops o) acc) :: k) st1 = some q := by
 unfold skipF at hr
 refine ⟨_, ?_, hr⟩
 unfold vSkip St.vw
 congr 2
 funext k
 exact (put_slot _ _ _ k).symm
theorem opF_v {G : GoT} {is : List Nat} {d : Bool} {acc : List (Nat × Fp)} {k : List It} {i : Nat} {o : Oper} {st : St} {q : AV × Hp} (ho : ops[i]? = some o) (hr : opF c C G r ops is d acc k (c.H f r i) i o st = some q) :
  ∃ st1 F, vOp c C f r ops i st.vw = some (st1.vw, F) ∧ G (.ops r ops is d (accP d i F acc) :: k) st1 = some q := by
 unfold opF at hr
 unfold vOp
 rw [ho]
 simp only
 split at hr
 ·cases hr
 ·rename_i hg
  rw [hg]
  exact execF_v hr
 ·rename_i g want hg
  rw [hg]
  simp only
  have hs : st.vw.sl g = slot st.sl g := rfl
  rw [hs]
  split at hr
  ·rename_i hud
   rw [hud]
   obtain ⟨st1, h1, h2⟩ := skipF_v hr
   exact ⟨st1, _, by simp only; rw [h1], h2⟩
  ·rename_i u hsv
   rw [hsv]
   simp only
   obtain ⟨t, ht, hr⟩ := bsm hr
   rw [ht]
   simp only [Option.bind_some]
   have hu := asB_some ht
   subst hu
   cases want <;> cases t
   ·simp only [cond_false, if_true] at hr ⊢
    obtain ⟨st1, F, h1, h2⟩ := execF_v hr
    rw [setT_vw _ _ _ hsv] at h1
    exact ⟨st1, F, h1, h2⟩
   ·simp only [cond_true] at hr ⊢
    obtain ⟨st1, h1, h2⟩ := skipF_v hr
    rw [setT_vw _ _ _ hsv] at h1
    exact ⟨st1, _, by simp [h1], h2⟩
   ·simp only [cond_false] at hr ⊢
    obtain ⟨st1, h1, h2⟩ := skipF_v hr
    rw [setT_vw _ _ _ hsv] at h1
    exact ⟨st1, _, by simp [h1], h2⟩
   ·simp only [cond_true, if_true] at hr ⊢
    obtain ⟨st1, F, h1, h2⟩ := execF_v hr
    rw [setT_vw _ _ _ hsv] at h1
    exact ⟨st1, F, h1, h2⟩
  ·cases hr
theorem ops_v : ∀ (n : Nat) (is : List Nat) (d : Bool) (acc : List (Nat × Fp)) (k : List It) (st : St) (q : AV × Hp), goC c C f n (.ops r ops is d acc :: k) st = some q →
  ∃ n' st' accs, n' < n ∧ vRun c C f r ops is st.vw = some (st'.vw, accs) ∧ (d = true → drawOk ops (accs.reverse ++ acc) = true ∧ ∀ o ∈ pend ops (accs.reverse ++ acc), o = some ()) ∧ goC c C f n' k st' = some q
 | 0, _, _, _, _, _, _, h => by simp [goC] at h
 | n + 1, [], d, acc, k, st, q, h => by
  simp only [goC, jc] at h
  cases ht : (!d || drawOk ops acc) with
  | false => rw [ht] at h; cases h
  | true =>
   rw [ht] at h
   obtain ⟨h1, h2⟩ := yu h
   exact ⟨n, st, [], Nat.lt_succ_self n, rfl, fun hd => by subst hd; exact ⟨by simpa using ht, h1⟩, h2⟩
 | n + 1, i :: is, d, acc, k, st, q, h => by
  simp only [goC, jc] at h
  obtain ⟨o, ho, h⟩ := bsm h
  obtain ⟨st1, F, h1, h2⟩ := opF_v ho h
  obtain ⟨n', st', accs, h3, h4, h5, h6⟩ := ops_v n is d _ k st1 q h2
  refine ⟨n', st', (i, F) :: accs, by omega, ?_, fun hd => ?_, h6⟩
  ·simp only [vRun, h1, Option.bind_some, h4]
  ·have := h5 hd
   subst hd
   simpa [accP] using this
end
def mix (F : Fp) (v1 v : Vw) : Vw :=
 ⟨fun k => if k ∈ F.ws then v1.sl k else v.sl k, fun k => if F.bw = some k then v1.bx k else v.bx k, ⟨if F.nw = true then v1.hp.next else v.hp.next, if F.hw = true then v1.hp.get else v.hp.get⟩⟩
structure Like (F : Fp) (v' v : Vw) : Prop where
 s : ∀ k, k ∈ F.rs ∨ k ∈ F.ws → v'.sl k = v.sl k
 b : ∀ k, F.br = some k ∨ F.bw = some k → v'.bx k = v.bx k
 A : F.hr = true ∨ F.hw = true → v'.hp.get = v.hp.get
 B : F.nw = true → v'.hp.next = v.hp.next
 L : ∀ q, F.lq = some q → seeG q v'.hp.get = seeG q v.hp.get
theorem gsel_get {b : Bool} {hp hp' : Hp} (h : b = true → hp'.get = hp.get) : gsel b hp' = gsel b hp := by
 cases b with
 | false => rfl
 | true => exact h rfl
theorem lq_ev {h : Nat} {o : Oper} {tn : TypeId → Option TI} {ev ev' : Operand → SV} (h1 : ∀ x ∈ o.op.operands.toList, ev x = ev' x) : lqOf h o tn ev = lqOf h o tn ev' := by
 obtain ⟨dst, op, type, pos, after, guard⟩ := o
 cases op <;> simp only [Op.operands] at h1 <;> simp only [lqOf]
 case load t x => rw [h1 x (by simp)]
theorem vw_ext {a b : Vw} (h1 : ∀ k, a.sl k = b.sl k) (h2 : ∀ k, a.bx k = b.bx k) (h3 : a.hp.next = b.hp.next) (h4 : a.hp.get = b.hp.get) : a = b := by
 obtain ⟨s, x, p⟩ := a
 obtain ⟨s', x', p'⟩ := b
 have e1 : s = s' := funext h1
 have e2 : x = x' := funext h2
 have e3 : p = p' := hp_ext h3 h4
 subst e1; subst e2; subst e3; rfl
section
variable {c : Cx} {C : Orc} {f : FuncId} {r : Nat} {ops : Array Oper}
theorem dnV_congr {h : Nat} {o : Oper} {σ σ' : Nat → SV} {k : Nat} (hk : σ' k = σ k) : dnV h o σ' k = dnV h o σ k := by
 unfold dnV
 split
 ·rename_i t i hop
  by_cases h1 : h = 1
  ·rw [if_pos h1, if_pos h1, hk]
  rw [if_neg h1, if_neg h1]
  by_cases e : k = t
  ·subst e; rw [if_pos rfl, if_pos rfl, hk]
  ·rw [if_neg e, if_neg e, hk]
 ·rw [hk]
theorem dnV_out {h : Nat} {o : Oper} {σ : Nat → SV} {k : Nat} (hk : k ∉ qC h o) : dnV h o σ k = σ k := by
 unfold dnV
 split
 ·rename_i t i hop
  by_cases h1 : h = 1
  ·rw [if_pos h1]
  rw [if_neg h1]
  have : k ≠ t := by
   rintro rfl
   apply hk
   simp only [qC, hop, if_neg h1, zj, List.mem_singleton]
  rw [if_neg this]
 ·rw [if_neg hk]
theorem looks_tmp {o : Oper} {t : Nat} (h : Operand.tmp t ∈ o.op.operands.toList) : t ∈ o.looksAt ops :=
 List.mem_append_left _ (List.mem_filterMap.2 ⟨.tmp t, h, rfl⟩)
theorem vExec_loc {h : Nat} {o : Oper} {v v' v1 : Vw} {F : Fp} (hr : vExec c C ops h o v = some (v1, F)) (hl : Like F v' v) : vExec c C ops h o v' = some (mix F v1 v', F) := by
 unfold vExec at hr ⊢
 obtain ⟨q, hq, hr⟩ := bsm hr
 have hF : fpV c.tn h ops o (evV v.sl) v.hp q.2.2 = F := (Prod.mk.inj (Option.some.inj hr)).2
 have hv1 : (⟨putV (dnV h o v.sl) o.dst q.1, setV v.bx q.2.1, q.2.2⟩ : Vw) = v1 := (Prod.mk.inj (Option.some.inj hr)).1
 subst hv1
 subst hF
 have hev : ∀ x ∈ o.op.operands.toList, evV v'.sl x = evV v.sl x := by
  intro x hx
  cases x with
  | tmp t => exact hl.s t (.inl (looks_tmp hx))
  | _ => rfl
 have ha := acc_ev (h := h) hev
 obtain ⟨l1, l2, l3, l4⟩ := coreK_loc (gb' := v'.bx) (hp' := v'.hp) hq (fun k hk => hl.b k hk) (fun hk => hl.A hk) (fun hk => hl.B hk) (fun q hk => hl.L q hk)
 rw [coreK_ev hev, l1]
 simp only [Option.bind_some]
 have hfp : ∀ g : Hp, ((accH h o (evV v.sl)).2.1 = true → g.get = q.2.2.get) → fpV c.tn h ops o (evV v'.sl) v'.hp g = fpV c.tn h ops o (evV v.sl) v.hp q.2.2 := by
  intro g hg
  unfold fpV
  rw [ha.1, ha.2, lq_ev (h := h) (tn := c.tn) hev, gsel_get (b := (accH h o (evV v.sl)).2.1) (hp' := v'.hp) (hp := v.hp) (fun hw => hl.A (.inr hw)), gsel_get (b := (accH h o (evV v.sl)).2.1) hg]
 rw [hfp _ (fun hw => by simp only [hw, if_true])]
 congr 2
 refine vw_ext (fun k => ?_) (fun k => ?_) rfl rfl
 ·show putV (dnV h o v'.sl) o.dst q.1 k = if k ∈ o.dst.toList ++ qC h o then putV (dnV h o v.sl) o.dst q.1 k else v'.sl k
  by_cases hk : k ∈ o.dst.toList ++ qC h o
  ·rw [if_pos hk]
   unfold putV
   rw [dnV_congr (hl.s k (.inr hk))]
  ·rw [if_neg hk]
   unfold putV
   have h1 : ¬ o.dst = some k := fun e => hk (by simp [e])
   have h2 : k ∉ qC h o := fun e => hk (by simp [e])
   rw [if_neg h1, dnV_out h2]
 ·show setV v'.bx q.2.1 k = if (accB h o (evV v.sl)).2 = some k then setV v.bx q.2.1 k else v'.bx k
  by_cases hk : (accB h o (evV v.sl)).2 = some k
  ·rw [if_pos hk]
   have := hl.b k (.inr hk)
   unfold setV
   rw [this]
  ·rw [if_neg hk]
   unfold setV
   split
   ·rename_i j g cs e
    have : j ≠ k := by
     rintro rfl
     exact hk (l4 _ _ _ e)
    rw [if_neg this]
   ·rfl
theorem vSkip_loc {o : Oper} {v v' v1 : Vw} {F : Fp} (hr : vSkip ops o v = (v1, F)) (hl : Like F v' v) : vSkip ops o v' = (mix F v1 v', F) := by
 unfold vSkip at hr ⊢
 cases hr
 congr 1
 refine vw_ext (fun k => ?_) (fun k => ?_) (by simp [mix, fpSkip]) (by simp [mix, fpSkip])
 ·show putV v'.sl o.dst .ud k = if k ∈ o.dst.toList then putV v.sl o.dst .ud k else v'.sl k
  unfold putV
  by_cases hk : o.dst = some k
  ·have : k ∈ o.dst.toList := by simp [hk]
   rw [if_pos hk, if_pos this, if_pos hk]
  ·have : ¬ k ∈ o.dst.toList := by simpa using hk
   rw [if_neg hk, if_neg this]
 ·show v'.bx k = if (none : Option Nat) = some k then v.bx k else v'.bx k
  rw [if_neg (by simp)]
theorem guarded_looks {o : Oper} {g : Nat} {want : Bool} (h : jA o ops = some (some (g, want))) : g ∈ o.looksAt ops := by
 unfold jA at h
 split at h
 ·cases h
 ·rename_i j want' hg
  split at h
  ·rename_i oj hj
   split at h
   ·rename_i d hd
    cases h
    refine List.mem_append_right _ ?_
    rw [hg]
    simp [hj, hd]
   ·cases h
  ·cases h
theorem vOp_loc {i : Nat} {v v' v1 : Vw} {F : Fp} (hr : vOp c C f r ops i v = some (v1, F)) (hl : Like F v' v) : vOp c C f r ops i v' = some (mix F v1 v', F) := by
 unfold vOp at hr ⊢
 cases ho : ops[i]? with
 | none => rw [ho] at hr; cases hr
 | some o =>
  rw [ho] at hr
  simp only at hr ⊢
  cases hg : jA o ops with
  | none => rw [hg] at hr; cases hr
  | some gw =>
   rw [hg] at hr
   cases gw with
   | none => exact vExec_loc hr hl
   | some q =>
    obtain ⟨g, want⟩ := q
    simp only at hr ⊢
    have hlook := guarded_looks hg
    have hsl : v'.sl g = v.sl g := by
     refine hl.s g (.inl ?_)
     cases hvg : v.sl g with
     | ud => rw [hvg] at hr; simp only at hr; cases hr; exact hlook
     | sv u =>
      rw [hvg] at hr
      simp only at hr
      obtain ⟨t, ht, hr⟩ := bsm hr
      split at hr
      ·unfold vExec at hr
       obtain ⟨q, hq, hr⟩ := bsm hr
       cases hr; exact hlook
      ·cases hr; exact hlook
     | _ => rw [hvg] at hr; cases hr
    rw [hsl]
    cases hvg : v.sl g with
    | ud =>
     rw [hvg] at hr
     simp only at hr ⊢
     exact congrArg some (vSkip_loc (Option.some.inj hr) hl)
    | sv u =>
     rw [hvg] at hr
     simp only at hr ⊢
     obtain ⟨t, ht, hr⟩ := bsm hr
     rw [ht]
     simp only [Option.bind_some]
     split at hr
     ·rename_i e; rw [if_pos e]; exact vExec_loc hr hl
     ·rename_i e; rw [if_neg e]; exact congrArg some (vSkip_loc (Option.some.inj hr) hl)
    | _ => rw [hvg] at hr; cases hr
theorem Like.refl (F : Fp) (v : Vw) : Like F v v := ⟨fun _ _ => rfl, fun _ _ => rfl, fun _ => rfl, fun _ => rfl, fun _ _ => rfl⟩
theorem vOp_g {i : Nat} {v v1 : Vw} {F : Fp} (hr : vOp c C f r ops i v = some (v1, F)) (hw : F.hw = true) : F.gb = v.hp.get ∧ F.ga = v1.hp.get := by
 have ex : ∀ {h : Nat} {o : Oper}, vExec c C ops h o v = some (v1, F) → F.gb = v.hp.get ∧ F.ga = v1.hp.get := by
  intro h o hr
  unfold vExec at hr
  obtain ⟨q, hq, hr⟩ := bsm hr
  cases hr
  have hw : (accH h o (evV v.sl)).2.1 = true := hw
  simp only [fpV, hw, gsel, and_self]
 have sk : ∀ {o : Oper}, some (vSkip ops o v) = some (v1, F) → F.gb = v.hp.get ∧ F.ga = v1.hp.get := by
  intro o hr
  cases hr
  cases hw
 unfold vOp at hr
 split at hr
 ·cases hr
 ·split at hr
  ·cases hr
  ·exact ex hr
  ·split at hr
   ·exact sk hr
   ·obtain ⟨t, ht, hr⟩ := bsm hr
    split at hr
    ·exact ex hr
    ·exact sk hr
   ·cases hr
theorem vOp_keep {i : Nat} {v v1 : Vw} {F : Fp} (hr : vOp c C f r ops i v = some (v1, F)) : v1 = mix F v1 v := by
 have := vOp_loc hr (Like.refl F v)
 rw [hr] at this
 exact (Prod.mk.inj (Option.some.inj this)).1
theorem meets_false {a b : List Nat} (h : meets a b = false) {k : Nat} (ha : k ∈ a) : k ∉ b := by
 intro hb
 have : meets a b = true := by
  unfold meets
  rw [List.any_eq_true]
  exact ⟨k, ha, by simpa using hb⟩
 rw [this] at h; cases h
structure Apart (a b : Fp) : Prop where
 wr : ∀ k, k ∈ a.ws → k ∉ b.rs
 ww : ∀ k, k ∈ a.ws → k ∉ b.ws
 rw_ : ∀ k, k ∈ a.rs → k ∉ b.ws
 bww : ∀ k, a.bw = some k → b.bw ≠ some k
 bwr : ∀ k, a.bw = some k → b.br ≠ some k
 brw : ∀ k, a.br = some k → b.bw ≠ some k
 hwx : a.hw = true → b.hr = false ∧ b.hw = false
 hrw : a.hr = true → b.hw = false
 nn : a.nw = true → b.nw = false
 qa : ∀ q, a.lq = some q → b.hw = true → seeG q b.gb = seeG q b.ga
 qb : ∀ q, b.lq = some q → a.hw = true → seeG q a.gb = seeG q a.ga
theorem apart_of {a b : Fp} (h : clash a b = false) (qa : ∀ q, a.lq = some q → b.hw = true → seeG q b.gb = seeG q b.ga) (qb : ∀ q, b.lq = some q → a.hw = true → seeG q a.gb = seeG q a.ga) : Apart a b := by
 unfold clash at h
 simp only [Bool.or_eq_false_iff] at h
 obtain ⟨⟨⟨⟨⟨⟨⟨⟨h1, h2⟩, h3⟩, h4⟩, h5⟩, h6⟩, h7⟩, h8⟩, h9⟩ := h
 refine ⟨fun k hk => meets_false h1 hk, fun k hk => meets_false h2 hk, fun k hk => meets_false h3 hk, fun k e e' => ?_, fun k e e' => ?_, fun k e e' => ?_, fun e => ?_, fun e => ?_, fun e => ?_, qa, qb⟩
 ·rw [e, e'] at h4; simp at h4
 ·rw [e, e'] at h5; simp at h5
 ·rw [e, e'] at h6; simp at h6
 ·rw [e] at h7; simpa using h7
 ·rw [e] at h8; simpa using h8
 ·rw [e] at h9; simpa using h9
theorem vOp_swap {x y : Nat} {v v1 v2 : Vw} {Fx Fy : Fp} (hx : vOp c C f r ops x v = some (v1, Fx)) (hy : vOp c C f r ops y v1 = some (v2, Fy)) (ha : Apart Fx Fy) :
    ∃ v1', vOp c C f r ops y v = some (v1', Fy) ∧ vOp c C f r ops x v1' = some (v2, Fx) := by
  have kx := vOp_keep hx
  have ky := vOp_keep hy
  have xs : ∀ k, k ∉ Fx.ws → v1.sl k = v.sl k := fun k hk => by rw [kx]; simp [mix, hk]
  have xb : ∀ k, Fx.bw ≠ some k → v1.bx k = v.bx k := fun k hk => by rw [kx]; simp [mix, hk]
  have xA : Fx.hw = false → v1.hp.get = v.hp.get := fun h => by rw [kx]; simp [mix, h]
  have xB : Fx.nw = false → v1.hp.next = v.hp.next := fun h => by rw [kx]; simp [mix, h]
  have hy' := vOp_loc hy (v' := v) {
    s := fun k hk => (xs k (hk.elim (fun h e => ha.wr k e h) (fun h e => ha.ww k e h))).symm
    b := fun k hk => (xb k (hk.elim (fun h e => ha.bwr k e h) (fun h e => ha.bww k e h))).symm
    A := fun hk => (xA (by
      cases hw : Fx.hw with
      | false => rfl
      | true => have := ha.hwx hw; rcases hk with h | h <;> simp [this] at h)).symm
    B := fun hk => (xB (by
      cases hw : Fx.nw with
      | false => rfl
      | true => have := ha.nn hw; rw [this] at hk; cases hk)).symm
    L := fun q hq => by
      cases hw : Fx.hw with
      | false => rw [xA hw]
      | true =>
        obtain ⟨g1, g2⟩ := vOp_g hx hw
        rw [← g1, ← g2]
        exact ha.qb q hq hw }
  refine ⟨_, hy', ?_⟩
  have hx' := vOp_loc hx (v' := mix Fy v2 v) {
    s := fun k hk => by
      have : k ∉ Fy.ws := hk.elim (fun h => ha.rw_ k h) (fun h => ha.ww k h)
      simp [mix, this]
    b := fun k hk => by
      have : Fy.bw ≠ some k := hk.elim (fun h => ha.brw k h) (fun h => ha.bww k h)
      simp [mix, this]
    A := fun hk => by
      have : Fy.hw = false := hk.elim (fun h => ha.hrw h) (fun h => (ha.hwx h).2)
      simp [mix, this]
    B := fun hk => by
      have : Fy.nw = false := ha.nn hk
      simp [mix, this]
    L := fun q hq => by
      cases hw : Fy.hw with
      | false => simp [mix, hw]
      | true =>
        obtain ⟨g1, g2⟩ := vOp_g hy hw
        have hxw : Fx.hw = false := by
          cases h : Fx.hw with
          | false => rfl
          | true => have := (ha.hwx h).2; rw [hw] at this; cases this
        have e : (mix Fy v2 v).hp.get = v2.hp.get := by simp [mix, hw]
        rw [e, ← g2, ← xA hxw, ← g1]
        exact (ha.qa q hq hw).symm }
  rw [hx']
  congr 2
  refine vw_ext (fun k => ?_) (fun k => ?_) ?_ ?_
  · show (if k ∈ Fx.ws then v1.sl k else if k ∈ Fy.ws then v2.sl k else v.sl k) = v2.sl k
    by_cases h1 : k ∈ Fx.ws
    · rw [if_pos h1, ky]
      simp [mix, ha.ww k h1]
    · rw [if_neg h1]
      by_cases h2 : k ∈ Fy.ws
      · rw [if_pos h2]
      · rw [if_neg h2, ky]
        simp [mix, h2, xs k h1]
  · show (if Fx.bw = some k then v1.bx k else if Fy.bw = some k then v2.bx k else v.bx k) = v2.bx k
    by_cases h1 : Fx.bw = some k
    · rw [if_pos h1, ky]
      simp [mix, ha.bww k h1]
    · rw [if_neg h1]
      by_cases h2 : Fy.bw = some k
      · rw [if_pos h2]
      · rw [if_neg h2, ky]
        simp [mix, h2, xb k h1]
  · show (if Fx.nw = true then v1.hp.next else if Fy.nw = true then v2.hp.next else v.hp.next) = v2.hp.next
    by_cases h1 : Fx.nw = true
    · rw [if_pos h1, ky]
      simp [mix, ha.nn h1]
    · rw [if_neg h1]
      by_cases h2 : Fy.nw = true
      · rw [if_pos h2]
      · rw [if_neg h2, ky]
        simp [mix, h2, xB (by simpa using h1)]
  · show (if Fx.hw = true then v1.hp.get else if Fy.hw = true then v2.hp.get else v.hp.get) = v2.hp.get
    by_cases h1 : Fx.hw = true
    · rw [if_pos h1, ky]
      simp [mix, (ha.hwx h1).2]
    · rw [if_neg h1]
      by_cases h2 : Fy.hw = true
      · rw [if_pos h2]
      · rw [if_neg h2, ky]
        simp [mix, h2, xA (by simpa using h1)]
theorem vRun_front {y : Nat} : ∀ (L1 L2 : List Nat) (v v2 : Vw) (accs : List (Nat × Fp)), vRun c C f r ops (L1 ++ y :: L2) v = some (v2, accs) →
  (∀ x Fx Fy, (x, Fx) ∈ accs.take L1.length → (y, Fy) ∈ accs → Apart Fx Fy) →
  ∃ v1 F acc1 acc2, vOp c C f r ops y v = some (v1, F) ∧ vRun c C f r ops (L1 ++ L2) v1 = some (v2, acc1 ++ acc2) ∧ accs = acc1 ++ (y, F) :: acc2 ∧ acc1.length = L1.length
 | [], L2, v, v2, accs, h, _ => by
  simp only [List.nil_append, vRun] at h
  obtain ⟨p, hp, h⟩ := bsm h
  obtain ⟨q, hq, h⟩ := bsm h
  cases h
  exact ⟨p.1, p.2, [], q.2, hp, hq, rfl, rfl⟩
 | x :: L1, L2, v, v2, accs, h, ha => by
  simp only [List.cons_append, vRun] at h
  obtain ⟨⟨v1, Fx⟩, hx, h⟩ := bsm h
  obtain ⟨⟨v2', acc'⟩, hrest, h⟩ := bsm h
  cases h
  obtain ⟨w1, F, acc1, acc2, h1, h2, h3, h4⟩ := vRun_front L1 L2 v1 v2' acc' hrest (fun x' Fx' Fy' hx' hy' => ha x' Fx' Fy' (by simp; exact .inr hx') (by simp [hy']))
  obtain ⟨u, hu1, hu2⟩ := vOp_swap hx h1 (ha x Fx F (by simp) (by rw [h3]; simp))
  refine ⟨u, F, (x, Fx) :: acc1, acc2, hu1, ?_, by rw [h3]; rfl, by simp [h4]⟩
  simp only [List.cons_append, vRun, hu2, Option.bind_some, h2]
end
def dsOf (o : Oper) : List Nat := (o.after.toList.filter fun e => Region.binds .any e).map (·.on)
def AncOk (all : List Oper) (t : List (List Nat)) : Prop :=
 ∀ j x, x ∈ t.getD j [] → ∃ o, all[j]? = some o ∧ (x ∈ dsOf o ∨ ∃ d ∈ dsOf o, x ∈ t.getD d [])
theorem ym {α : Type} (t : List α) (e d : α) (j : Nat) (h : j < t.length) : (t ++ [e]).getD j d = t.getD j d := by
 simp [List.getD, List.getElem?_append_left h]
theorem getD_len {α : Type} (t : List (List α)) (j : Nat) (x : α) (h : x ∈ t.getD j []) : j < t.length := by
 rcases Nat.lt_or_ge j t.length with h' | h'
 ·exact h'
 ·simp [List.getD, List.getElem?_eq_none h'] at h
theorem anc_spec (all : List Oper) : ∀ (L done : List Oper) (t : List (List Nat)), all = done ++ L → t.length = done.length → AncOk all t → AncOk all (zH L t)
 | [], done, t, _, _, h => h
 | o :: L, done, t, he, hl, h => by
  simp only [zH]
  refine anc_spec all L (done ++ [o]) _ (by rw [he]; simp) (by simp [hl]) ?_
  intro j x hx
  by_cases hj : j < t.length
  ·rw [ym _ _ _ _ hj] at hx
   obtain ⟨o', h1, h2⟩ := h j x hx
   refine ⟨o', h1, h2.imp id ?_⟩
   rintro ⟨d, hd, hxd⟩
   exact ⟨d, hd, by rw [ym _ _ _ _ (getD_len _ _ _ hxd)]; exact hxd⟩
  ·have hj' : j = t.length := by
    have := getD_len _ _ _ hx
    simp at this
    omega
   subst hj'
   have hx' : x ∈ ((dsOf o) ++ (dsOf o).flatMap fun j => t.getD j []) := by
    have e : ∀ E : List Nat, (t ++ [E]).getD t.length [] = E := fun E => by simp [List.getD]
    rw [e] at hx
    exact List.mem_eraseDups.mp hx
   refine ⟨o, by rw [he, hl]; simp, ?_⟩
   rw [List.mem_append, List.mem_flatMap] at hx'
   refine hx'.imp id ?_
   rintro ⟨d, hd, hxd⟩
   exact ⟨d, hd, by rw [ym _ _ _ _ (getD_len _ _ _ hxd)]; exact hxd⟩
theorem mem_dsOf {o : Oper} {d : Nat} : d ∈ dsOf o ↔ ∃ e ∈ o.after, Region.binds .any e = true ∧ e.on = d := by
 unfold dsOf
 rw [List.mem_map]
 constructor
 ·rintro ⟨e, he, rfl⟩
  obtain ⟨h1, h2⟩ := List.mem_filter.mp he
  exact ⟨e, by simpa using h1, h2, rfl⟩
 ·rintro ⟨e, h1, h2, rfl⟩
  exact ⟨e, List.mem_filter.mpr ⟨by simpa using h1, h2⟩, rfl⟩
theorem yp {ops : Array Oper} (h : depsB ops = true) {i d : Nat} {o : Oper} (ho : ops[i]? = some o) (hd : d ∈ dsOf o) : d < i := by
 have hi : i < ops.size := (Array.getElem?_eq_some_iff.mp ho).1
 have := List.all_eq_true.mp h i (List.mem_range.mpr hi)
 rw [ho] at this
 obtain ⟨e, h1, h2, rfl⟩ := mem_dsOf.mp hd
 have := List.all_eq_true.mp this e (by simpa using h1)
 simpa [h2] using this
theorem anc_listed {ops : Array Oper} (hdeps : depsB ops = true) (S : Nat → Prop) (hcl : ∀ j o d, S j → ops[j]? = some o → d ∈ dsOf o → S d) :
  ∀ (n j : Nat), j ≤ n → (∀ o d, ops[j]? = some o → d ∈ dsOf o → S d) → ∀ x, x ∈ (zH ops.toList []).getD j [] → S x := by
 have hA : AncOk ops.toList (zH ops.toList []) := anc_spec ops.toList ops.toList [] [] rfl rfl (by intro j x hx; simp [List.getD] at hx)
 intro n
 induction n with
 | zero =>
  intro j hj hdir x hx
  obtain ⟨o, ho, hx⟩ := hA j x hx
  have ho' : ops[j]? = some o := by simpa using ho
  rcases hx with hx | ⟨d, hd, hx⟩
  ·exact hdir o x ho' hx
  ·have := yp hdeps ho' hd; omega
 | succ n ih =>
  intro j hj hdir x hx
  obtain ⟨o, ho, hx⟩ := hA j x hx
  have ho' : ops[j]? = some o := by simpa using ho
  rcases hx with hx | ⟨d, hd, hx⟩
  ·exact hdir o x ho' hx
  ·have hlt := yp hdeps ho' hd
   exact ih d (by omega) (fun o' d' h1 h2 => hcl d o' d' (hdir o d ho' hd) h1 h2) x hx
theorem anc_lt {ops : Array Oper} (hdeps : depsB ops = true) : ∀ {j x : Nat}, x ∈ (zH ops.toList []).getD j [] → x < j := by
 have hA : AncOk ops.toList (zH ops.toList []) := anc_spec ops.toList ops.toList [] [] rfl rfl (by intro j x hx; simp [List.getD] at hx)
 have key : ∀ n j, j ≤ n → ∀ x, x ∈ (zH ops.toList []).getD j [] → x < j := by
  intro n
  induction n with
  | zero =>
   intro j hj x hx
   obtain ⟨o, ho, hx⟩ := hA j x hx
   have ho' : ops[j]? = some o := by simpa using ho
   rcases hx with hx | ⟨d, hd, hx⟩
   ·exact yp hdeps ho' hx
   ·have := yp hdeps ho' hd; omega
  | succ n ih =>
   intro j hj x hx
   obtain ⟨o, ho, hx⟩ := hA j x hx
   have ho' : ops[j]? = some o := by simpa using ho
   rcases hx with hx | ⟨d, hd, hx⟩
   ·exact yp hdeps ho' hx
   ·have h1 := yp hdeps ho' hd
    have h2 := ih d (by omega) x hx
    omega
 intro j x hx
 exact key j j (Nat.le_refl j) x hx
def InvV (G : Gh) (w : World) (v : Vw) (tmps : Array Value) : Prop := ∃ st : St, st.vw = v ∧ Inv G w st tmps
def AftV (G : Gh) (w : World) (a : Act) (v : Vw) (a' : Act) (w' : World) : Prop :=
 ∃ G', InvV G' w' v a'.tmps ∧ Fr G w G' w' ∧ a'.tmps.size = a.tmps.size ∧ a'.defers = a.defers
section
variable {c : Cx} {R : Orc} {f : FuncId} {r : Nat} {ops : Array Oper} {G : Gh} {w : World} {a : Act} {Q : Exit → Act → World → Prop}
abbrev Bodies (c : Cx) (R : Orc) : Prop := ∀ f xs hp r, R f xs hp = some r → ∃ fn b, c.F f = some fn ∧ fn.body = some b
theorem vExec_ok (hc : Ok c) (hR : yL c R) (hS : Bodies c R) {h : Nat} {o : Oper} {v v1 : Vw} {F : Fp} (hr : vExec c R ops h o v = some (v1, F)) (hI : InvV G w v a.tmps) (hd : Dst o a) {K : Act → World → Prop}
  (hK : ∀ a' w', AftV G w a v1 a' w' → K a' w') : o.wp c.P a w K Q := by
 obtain ⟨st, rfl, hI⟩ := hI
 unfold vExec at hr
 obtain ⟨q, hq, hr⟩ := bsm hr
 have hv1 : (⟨putV (dnV h o st.vw.sl) o.dst q.1, setV st.vw.bx q.2.1, q.2.2⟩ : Vw) = v1 := (Prod.mk.inj (Option.some.inj hr)).1
 have hq' : qj c R h o (evS st.sl) (getB st.bx) st.hp k3 = some q := by rw [← evV_slot]; exact hq
 refine Oper.wp_mono (fun a' w' ha => ?_) (core_ok (Q := Q) hc hR hS hI hd h hq')
 obtain ⟨G', h1, h2, h3, h4⟩ := ha
 exact hK a' w' ⟨G', ⟨_, by rw [after_vw]; exact hv1, h1⟩, h2, h3, h4⟩
theorem vSkip_ok {o : Oper} {v : Vw} (hI : InvV G w v a.tmps) (hd : Dst o a) : AftV G w a (vSkip ops o v).1 (a.put o.dst undef) w := by
 obtain ⟨st, rfl, hI⟩ := hI
 refine ⟨G, ⟨⟨putS st.sl o.dst .ud, st.bx, st.hp⟩, ?_, ?_⟩, Fr.refl G w, qN _ _ _, qA _ _ _⟩
 ·unfold St.vw vSkip
  congr 1
  funext k
  exact put_slot _ _ _ k
 ·exact hI.put o.dst hd (fun k _ => rfl) (fun k g off e => by cases e)
theorem wanted_guard {o : Oper} {g : Nat} {want : Bool} (hg : jA o ops = some (some (g, want))) (tmps : Array Value) :
  Region.wanted o (yielded ops tmps) = ((match tmps[g]? with | some (.bool b) => some b | _ => none) == some want) := by
 unfold jA at hg
 split at hg
 ·cases hg
 ·rename_i j want' hgo
  split at hg
  ·rename_i oj hj
   split at hg
   ·rename_i d hd
    cases hg
    simp only [Region.wanted, hgo, yielded, hj, hd, Option.bind_some] <;> rfl
   ·cases hg
  ·cases hg
theorem wanted_none {o : Oper} (hg : jA o ops = some none) (y : Nat → Option Bool) : Region.wanted o y = true := by
 unfold jA at hg
 split at hg
 ·rename_i h; simp only [Region.wanted, h]
 ·split at hg
  ·split at hg <;> cases hg
  ·cases hg
theorem vOp_ok (hc : Ok c) (hR : yL c R) (hS : Bodies c R) {i : Nat} {v v1 : Vw} {F : Fp} (hr : vOp c R f r ops i v = some (v1, F)) (hI : InvV G w v a.tmps) (hd : ∀ o ∈ ops, Dst o a) {K : Act → World → Prop}
  (hK : ∀ a' w', AftV G w a v1 a' w' → K a' w') : wpOp c.P ops Q i K a w := by
 unfold vOp at hr
 unfold wpOp
 cases ho : ops[i]? with
 | none => rw [ho] at hr; cases hr
 | some o =>
  rw [ho] at hr
  simp only at hr ⊢
  have hdo : Dst o a := hd o (Array.mem_of_getElem? ho)
  cases hg : jA o ops with
  | none => rw [hg] at hr; cases hr
  | some gw =>
   rw [hg] at hr
   cases gw with
   | none =>
    rw [wanted_none hg]
    simp only [if_true]
    exact .inl (vExec_ok hc hR hS hr hI hdo hK)
   | some q =>
    obtain ⟨g, want⟩ := q
    rw [wanted_guard hg]
    simp only at hr
    have hslot : RelS G w g (v.sl g) (a.tmps.getD g undef) := by
     obtain ⟨st, rfl, hI⟩ := hI
     exact hI.slots g
    cases hvg : v.sl g with
    | ud =>
     rw [hvg] at hr hslot
     simp only at hr
     have hv1 : (vSkip ops o v).1 = v1 := by rw [Option.some.inj hr]
     have hund : a.tmps.getD g undef = undef := hslot
     have hy : (match a.tmps[g]? with | some (.bool b) => some b | _ => none : Option Bool) = none := by
      cases ht : a.tmps[g]? with
      | none => rfl
      | some z =>
       have : z = undef := by simpa [ht] using hund
       subst this; rfl
     rw [hy]
     simp only [show ((none : Option Bool) == some want) = false by rfl, Bool.false_eq_true, if_false]
     exact hK _ _ (hv1 ▸ vSkip_ok hI hdo)
    | sv u =>
     rw [hvg] at hr hslot
     simp only at hr
     obtain ⟨t, ht, hr'⟩ := bsm hr
     have hu := asB_some ht
     subst hu
     have hval : a.tmps.getD g undef = .bool t := hslot.1
     have hy : (match a.tmps[g]? with | some (.bool b) => some b | _ => none : Option Bool) = some t := by
      cases hz : a.tmps[g]? with
      | none => simp [hz, undef] at hval
      | some z =>
       have : z = .bool t := by simpa [hz] using hval
       subst this; rfl
     rw [hy]
     by_cases e : t = want
     ·subst e
      rw [if_pos rfl] at hr'
      simp only [beq_self_eq_true, if_true]
      exact .inl (vExec_ok hc hR hS hr' hI hdo hK)
     ·rw [if_neg e] at hr'
      have hv1 : (vSkip ops o v).1 = v1 := by rw [Option.some.inj hr']
      have hne : ((some t : Option Bool) == some want) = false := by simpa using e
      rw [hne]
      simp only [Bool.false_eq_true, if_false]
      exact hK _ _ (hv1 ▸ vSkip_ok hI hdo)
    | _ => rw [hvg] at hr; cases hr
theorem AftV.trans {v' : Vw} {a' a'' : Act} {w' w'' : World} {G' : Gh} (hf : Fr G w G' w') (hs : a'.tmps.size = a.tmps.size) (hdf : a'.defers = a.defers) (h : AftV G' w' a' v' a'' w'') : AftV G w a v' a'' w'' := by
 obtain ⟨G'', h1, h2, h3, h4⟩ := h
 exact ⟨G'', h1, hf.trans h2, h3.trans hs, h4.trans hdf⟩
theorem ops_ok (hc : Ok c) (hR : yL c R) (hS : Bodies c R) : ∀ (is : List Nat) (G : Gh) (w : World) (a : Act) (v v2 : Vw) (accs : List (Nat × Fp)), vRun c R f r ops is v = some (v2, accs) → InvV G w v a.tmps → (∀ o ∈ ops, Dst o a) →
  (∀ a' w', AftV G w a v2 a' w' → Q .normal a' w') → wpOps c.P ops Q is a w
 | [], G, w, a, v, v2, accs, h, hI, hd, hK => by
  simp only [vRun] at h
  cases h
  exact hK a w ⟨G, hI, Fr.refl G w, rfl, rfl⟩
 | i :: is, G, w, a, v, v2, accs, h, hI, hd, hK => by
  simp only [vRun] at h
  obtain ⟨p, hp, h⟩ := bsm h
  obtain ⟨q, hq, h⟩ := bsm h
  cases h
  rw [wpOps_cons]
  refine vOp_ok hc hR hS hp hI hd fun a' w' ha => ?_
  obtain ⟨G', h1, h2, h3, h4⟩ := ha
  exact ops_ok hc hR hS is G' w' a' p.1 q.1 q.2 hq h1 (fun o ho k hk => by rw [h3]; exact hd o ho k hk) fun a'' w'' h => hK a'' w'' (AftV.trans h2 h3 h4 h)
theorem vRun_fst : ∀ (is : List Nat) (v v2 : Vw) (accs : List (Nat × Fp)), vRun c R f r ops is v = some (v2, accs) → accs.map (·.1) = is
 | [], v, v2, accs, h => by simp only [vRun] at h; cases h; rfl
 | i :: is, v, v2, accs, h => by
  simp only [vRun] at h
  obtain ⟨p, hp, h⟩ := bsm h
  obtain ⟨q, hq, h⟩ := bsm h
  cases h
  simp [vRun_fst is p.1 q.1 q.2 hq]
theorem any_ok (hc : Ok c) (hR : yL c R) (hS : Bodies c R) (hdeps : depsB ops = true) : ∀ (fuel : Nat) (L : List Nat) (listed : Array Bool) (G : Gh) (w : World) (a : Act) (v v2 : Vw) (accs : List (Nat × Fp)), L.length = fuel →
    (∀ i, i ∈ L ↔ listed.getD i true = false) → (∀ i ∈ L, i < ops.size) → listed.size = ops.size → L.Pairwise (· < ·) →
    (∀ j o d, listed.getD j false = true → ops[j]? = some o → d ∈ dsOf o → listed.getD d false = true) →
    vRun c R f r ops L v = some (v2, accs) → (∀ x Fx y Fy, (x, Fx) ∈ accs → (y, Fy) ∈ accs → x < y → x ∈ (zH ops.toList []).getD y [] ∨ Apart Fx Fy) →
    InvV G w v a.tmps → (∀ o ∈ ops, Dst o a) → (∀ a' w', AftV G w a v2 a' w' → Q .normal a' w') → wpAny c.P .any ops Q fuel listed a w
  | 0, L, listed, G, w, a, v, v2, accs, hlen, hL, hlt, hsz, hsort, hcl, hrun, hap, hI, hd, hK => by
    have hnil : L = [] := List.length_eq_zero_iff.mp hlen
    subst hnil
    simp only [vRun] at hrun
    cases hrun
    refine ⟨?_, hK a w ⟨G, hI, Fr.refl G w, rfl, rfl⟩⟩
    apply List.eq_nil_iff_forall_not_mem.mpr
    intro j hj
    have := (mem_ready.mp hj).1
    rw [← hL] at this
    simp at this
  | fuel + 1, L, listed, G, w, a, v, v2, accs, hlen, hL, hlt, hsz, hsort, hcl, hrun, hap, hI, hd, hK => by
    have hlist : ∀ i, i < ops.size → i ∉ L → listed.getD i false = true := by
      intro i hi hn
      rw [hL] at hn
      have hi' : i < listed.size := by rw [hsz]; exact hi
      simp [Array.getD, hi'] at hn ⊢
      exact hn
    have hunl : ∀ i, i ∈ L → ¬ listed.getD i false = true := by
      intro i hi hn
      rw [hL] at hi
      have hi' : i < listed.size := by
        rcases Nat.lt_or_ge i listed.size with h | h
        · exact h
        · have : ¬ i < listed.size := by omega
          simp [Array.getD, this] at hi
      simp [Array.getD, hi'] at hi hn
      rw [hi] at hn; cases hn
    refine ⟨fun hnone => ?_, fun i hi => ?_⟩
    · exfalso
      match L, hlen, hL, hlt, hsort, hlist with
      | i0 :: rest, hlen, hL, hlt, hsort, hlist =>
        have hi0 := hlt i0 (by simp)
        have : i0 ∈ Region.ready .any ops listed := by
          rw [mem_ready]
          refine ⟨(hL i0).mp (by simp), ops[i0], Array.getElem?_eq_getElem hi0, fun e he hb => ?_⟩
          have hlt' := yp hdeps (Array.getElem?_eq_getElem hi0) (mem_dsOf.mpr ⟨e, he, hb, rfl⟩)
          refine hlist e.on (by omega) fun hm => ?_
          rcases List.mem_cons.mp hm with h | h
          · omega
          · have := (List.pairwise_cons.mp hsort).1 _ h; omega
        rw [hnone] at this
        simp at this
    · obtain ⟨hi1, o, ho, hi2⟩ := mem_ready.mp hi
      have hiL : i ∈ L := (hL i).mpr hi1
      obtain ⟨L1, L2, rfl⟩ := List.append_of_mem hiL
      have hfst := vRun_fst _ _ _ _ hrun
      have hx1 : ∀ x Fx, (x, Fx) ∈ accs.take L1.length → x ∈ L1 ∧ (x, Fx) ∈ accs := by
        intro x Fx hx
        have hm : x ∈ (accs.take L1.length).map (·.1) := List.mem_map.mpr ⟨_, hx, rfl⟩
        rw [List.map_take, hfst, List.take_left'] at hm
        · exact ⟨hm, List.mem_of_mem_take hx⟩
        · rfl
      have hpw := List.pairwise_append.mp hsort
      obtain ⟨v1, F, acc1, acc2, r1, r2, r3, r4⟩ := vRun_front L1 L2 v v2 accs hrun (fun x Fx Fy hx hy => by
        obtain ⟨hxL, hxa⟩ := hx1 x Fx hx
        have hlt' : x < i := hpw.2.2 x hxL i (by simp)
        refine (hap x Fx i Fy hxa hy hlt').resolve_left fun hanc => ?_
        have := anc_listed hdeps (fun j => listed.getD j false = true) hcl i i (Nat.le_refl i) (fun o' d ho' hdd => by
          rw [ho] at ho'; cases ho'
          obtain ⟨e, he, hb, rfl⟩ := mem_dsOf.mp hdd
          exact hi2 e he hb) x hanc
        exact hunl x (by simp [hxL]) this)
      have hiLt : i < listed.size := by rw [hsz]; exact hlt i (by simp)
      refine vOp_ok hc hR hS r1 hI hd fun a' w' ha => ?_
      obtain ⟨G', h1, h2, h3, h4⟩ := ha
      have hsort' : (L1 ++ L2).Pairwise (· < ·) := by
        refine List.pairwise_append.mpr ⟨hpw.1, (List.pairwise_cons.mp hpw.2.1).2, fun x hx y hy => hpw.2.2 x hx y (by simp [hy])⟩
      have hni : i ∉ L1 ++ L2 := by
        intro hm
        rcases List.mem_append.mp hm with h | h
        · have := hpw.2.2 i h i (by simp); omega
        · have := (List.pairwise_cons.mp hpw.2.1).1 i h; omega
      refine any_ok hc hR hS hdeps fuel (L1 ++ L2) (listed.setIfInBounds i true) G' w' a' v1 v2 (acc1 ++ acc2) (by simp at hlen ⊢; omega) (fun j => ?_) (fun j hj => hlt j ?_) (by simp [hsz]) hsort' ?_ r2 ?_ h1
        (fun o ho k hk => by rw [h3]; exact hd o ho k hk) (fun a'' w'' h => hK a'' w'' (AftV.trans h2 h3 h4 h))
      · by_cases e : i = j
        · subst e
          constructor
          · intro h; exact absurd h hni
          · intro h; simp [Array.getD, hiLt] at h
        · rw [getD_set_ne true e, ← hL j]
          simp only [List.mem_append, List.mem_cons]
          have : ¬ j = i := fun h => e h.symm
          simp [this]
      · simp only [List.mem_append, List.mem_cons] at hj ⊢
        rcases hj with h | h
        · exact .inl h
        · exact .inr (.inr h)
      · intro j o' d hj ho' hdd
        by_cases e : i = j
        · subst e
          rw [ho] at ho'; cases ho'
          obtain ⟨e, he, hb, rfl⟩ := mem_dsOf.mp hdd
          exact getD_set_true (hi2 e he hb)
        · rw [getD_set_ne false e] at hj
          exact getD_set_true (hcl j o' d hj ho' hdd)
      · intro x Fx y Fy hx hy hxy
        refine hap x Fx y Fy ?_ ?_ hxy
        · rw [r3]
          rcases List.mem_append.mp hx with h | h <;> simp [h]
        · rw [r3]
          rcases List.mem_append.mp hy with h | h <;> simp [h]
end
def xo (key : Nat × Nat) (own : Nat → Ow) : Prop := (key.1 = 0 ∧ own = fun i => .sl key.2 0 i) ∨ (key.1 = 1 ∧ ∃ g off, own = fun i => .bc key.2 g (off + i))
theorem xo.inj {k k' : Nat × Nat} {own own' : Nat → Ow} (h : xo k own) (h' : xo k' own') {i i' : Nat} (e : own i = own' i') : k = k' := by
 obtain ⟨a, b⟩ := k
 obtain ⟨a', b'⟩ := k'
 rcases h with ⟨h1, rfl⟩ | ⟨h1, g, off, rfl⟩ <;> rcases h' with ⟨h1', rfl⟩ | ⟨h1', g', off', rfl⟩ <;> simp only at h1 h1' e
 ·injection e with e1 e2 e3; subst h1; subst h1'; subst e1; rfl
 ·cases e
 ·cases e
 ·injection e with e1 e2 e3; subst h1; subst h1'; subst e1; rfl
theorem xo.inj1 {k : Nat × Nat} {own : Nat → Ow} (h : xo k own) {i i' : Nat} (e : own i = own i') : i = i' := by
 rcases h with ⟨h1, rfl⟩ | ⟨h1, g, off, rfl⟩
 ·injection e
 ·injection e with e1 e2 e3; omega
theorem xo.form {k : Nat × Nat} {own : Nat → Ow} (h : xo k own) (i : Nat) : (∃ a b c, own i = .sl a b c) ∨ ∃ a b c, own i = .bc a b c := by
 rcases h with ⟨h1, rfl⟩ | ⟨h1, g, off, rfl⟩
 ·exact .inl ⟨_, _, _, rfl⟩
 ·exact .inr ⟨_, _, _, rfl⟩
open Classical in
noncomputable def relx (owns : List (Nat → Ow)) (p : Ow) : Ow :=
 if h : ∃ ji : Nat × Nat, ∃ own, owns[ji.1]? = some own ∧ own ji.2 = p then .sl 0 h.choose.1 h.choose.2 else .oth
noncomputable def yC (owns : List (Nat → Ow)) (p : Ow) : Ow :=
 match p with
 | .fr => .fr
 | .obj b g => .obj b g
 | .oc b g i => .oc b g i
 | p => relx owns p
theorem relx_or {owns : List (Nat → Ow)} (p : Ow) : (∃ j i, relx owns p = .sl 0 j i) ∨ relx owns p = .oth := by
 unfold relx
 split
 ·exact .inl ⟨_, _, rfl⟩
 ·exact .inr rfl
theorem relab_sl {owns : List (Nat → Ow)} (a b c : Nat) : (∃ j i, yC owns (.sl a b c) = .sl 0 j i) ∨ yC owns (.sl a b c) = .oth := relx_or _
theorem relab_bc {owns : List (Nat → Ow)} (a b c : Nat) : (∃ j i, yC owns (.bc a b c) = .sl 0 j i) ∨ yC owns (.bc a b c) = .oth := relx_or _
theorem relab_box {owns : List (Nat → Ow)} (a b : Nat) : (∃ j i, yC owns (.box a b) = .sl 0 j i) ∨ yC owns (.box a b) = .oth := relx_or _
theorem relx_own {owns : List (Nat → Ow)} (hinj : ∀ (j j' : Nat) (own own' : Nat → Ow) (i i' : Nat), owns[j]? = some own → owns[j']? = some own' → own i = own' i' → j = j' ∧ i = i')
  {j : Nat} {own : Nat → Ow} (hj : owns[j]? = some own) (i : Nat) : relx owns (own i) = .sl 0 j i := by
 have hex : ∃ ji : Nat × Nat, ∃ own', owns[ji.1]? = some own' ∧ own' ji.2 = own i := ⟨(j, i), own, hj, rfl⟩
 have key : relx owns (own i) = .sl 0 hex.choose.1 hex.choose.2 := by
  unfold relx
  rw [dif_pos hex]
 rw [key]
 obtain ⟨own', h1, h2⟩ := hex.choose_spec
 obtain ⟨e1, e2⟩ := hinj _ _ _ _ _ _ h1 hj h2
 rw [e1, e2]
theorem relab_own {owns : List (Nat → Ow)} (hinj : ∀ (j j' : Nat) (own own' : Nat → Ow) (i i' : Nat), owns[j]? = some own → owns[j']? = some own' → own i = own' i' → j = j' ∧ i = i')
  (hform : ∀ (j : Nat) (own : Nat → Ow), owns[j]? = some own → ∀ i, (∃ a b c, own i = .sl a b c) ∨ ∃ a b c, own i = .bc a b c) {j : Nat} {own : Nat → Ow} (hj : owns[j]? = some own) (i : Nat) :
  yC owns (own i) = .sl 0 j i := by
 have e : yC owns (own i) = relx owns (own i) := by
  rcases hform j own hj i with ⟨a, b, c, e⟩ | ⟨a, b, c, e⟩ <;> rw [e] <;> rfl
 rw [e, relx_own hinj hj]
theorem relx_oth {owns : List (Nat → Ow)} (hoth : ∀ (j : Nat) (own : Nat → Ow), owns[j]? = some own → ∀ i, (∃ a b c, own i = .sl a b c) ∨ ∃ a b c, own i = .bc a b c) : relx owns .oth = .oth := by
 unfold relx
 rw [dif_neg]
 rintro ⟨ji, own, h1, h2⟩
 rcases hoth _ own h1 ji.2 with ⟨a, b, c, e⟩ | ⟨a, b, c, e⟩ <;> rw [e] at h2 <;> cases h2
theorem relab_rho (owns : List (Nat → Ow)) (hoth : ∀ (j : Nat) (own : Nat → Ow), owns[j]? = some own → ∀ i, (∃ a b c, own i = .sl a b c) ∨ ∃ a b c, own i = .bc a b c) : Rho (yC owns) where
 fr := rfl
 oth := relx_oth hoth
 box p k g h := by
  cases p with
  | fr => cases h
  | oth => rw [show yC owns .oth = .oth from relx_oth hoth] at h; cases h
  | box a b => rcases relab_box (owns := owns) a b with ⟨j, i, e⟩ | e <;> rw [e] at h <;> cases h
  | obj a b => cases h
  | sl a b d => rcases relab_sl (owns := owns) a b d with ⟨j, i, e⟩ | e <;> rw [e] at h <;> cases h
  | bc a b d => rcases relab_bc (owns := owns) a b d with ⟨j, i, e⟩ | e <;> rw [e] at h <;> cases h
  | oc a b d => cases h
 obj p k g h := by
  cases p with
  | fr => cases h
  | oth => rw [show yC owns .oth = .oth from relx_oth hoth] at h; cases h
  | box a b => rcases relab_box (owns := owns) a b with ⟨j, i, e⟩ | e <;> rw [e] at h <;> cases h
  | obj a b => exact h
  | sl a b d => rcases relab_sl (owns := owns) a b d with ⟨j, i, e⟩ | e <;> rw [e] at h <;> cases h
  | bc a b d => rcases relab_bc (owns := owns) a b d with ⟨j, i, e⟩ | e <;> rw [e] at h <;> cases h
  | oc a b d => cases h
theorem noKey_spec {k : Nat × Nat} : ∀ {l : List (Nat × Nat)}, noKey k l = true → ∀ j, j ∈ l → j ≠ k
 | [], _, j, hj => by simp at hj
 | x :: l, h, j, hj => by
  simp only [noKey] at h
  split at h
  ·cases h
  ·rename_i hb
   rcases List.mem_cons.mp hj with rfl | hj
   ·rintro rfl
    simp [beq_self] at hb
   ·exact noKey_spec h j hj
theorem distinct_spec : ∀ {l : List (Nat × Nat)}, yQ l = true → ∀ (i j : Nat) (k : Nat × Nat), l[i]? = some k → l[j]? = some k → i = j
 | [], _, i, j, k, hi, _ => by simp at hi
 | x :: l, h, i, j, k, hi, hj => by
  simp only [yQ] at h
  split at h
  ·rename_i hn
   cases i with
   | zero =>
    cases j with
    | zero => rfl
    | succ j =>
     simp at hi hj
     subst hi
     exact absurd rfl (noKey_spec hn _ (List.mem_of_getElem? hj))
   | succ i =>
    cases j with
    | zero =>
     simp at hi hj
     subst hj
     exact absurd rfl (noKey_spec hn _ (List.mem_of_getElem? hi))
    | succ j =>
     simp at hi hj
     rw [distinct_spec h i j k hi hj]
  ·cases h
section
variable {c : Cx} {G : Gh} {w : World} {st : St} {tmps : Array Value}
theorem resVK_nat {R : Type} (st : St) (tt : TypeId → Option TI) (r : ResultVar) (K : AV → Option R) : resVK st tt r K = (resVK st tt r some).bind K := by
 unfold resVK
 repeat' split
 all_goals simp [Option.bind_assoc]
theorem xd {R : Type} (st : St) (tt : TypeId → Option TI) : ∀ (l : List ResultVar) (K : List AV → Option R), xe st tt K l = (xe st tt some l).bind K
 | [], K => rfl
 | r :: l, K => by
  simp only [xe]
  rw [resVK_nat, resVK_nat (K := fun x => xe st tt (fun xs => some (x :: xs)) l)]
  simp only [Option.bind_assoc]
  congr 1; funext x
  rw [xd st tt l, xd st tt l (fun xs => some (x :: xs))]
  simp [Option.bind_assoc]
def xf (tmps : Array Value) : ResultVar → Sem Value
 | .tmp t => pure (tmps.getD t undef)
 | .cell a t => do loadVar t (← asAddr (tmps.getD a undef))
theorem res1 (hc : Ok c) (hI : Inv G w st tmps) {r : ResultVar} {x : AV} (hr : resVK st c.tn r some = some x) :
    ∃ own v, xo (keyOf st r) own ∧ RelV G w own x v ∧ (xf tmps r).run c.P w = .ok v w := by
  cases r with
  | tmp t => exact ⟨fun i => .sl t 0 i, _, .inl ⟨rfl, rfl⟩, jO (hI.slots t) (by simpa [resVK] using hr), rfl⟩
  | cell a ty =>
    simp only [resVK] at hr
    split at hr
    · rename_i ti hti
      split at hr
      · rename_i k g off hs
        split at hr
        · rename_i g' cs hb
          split at hr
          · rename_i hg
            subst hg
            have hsl := hI.slots a
            rw [hs] at hsl
            obtain ⟨blk, hla, hv⟩ := hsl
            obtain ⟨blk', b1, b2, b3⟩ := hI.boxes k g cs hb
            rw [hla] at b1; cases b1
            obtain ⟨arr, e, c1, c2, c3⟩ := b3
            have ht := hc.tt ty ti (ql hti).1
            have hz := ht.sizeOf (ql hti).2 w
            have ha := ht.isAgg (ql hti).2 w
            obtain ⟨arrL, harr⟩ : ∃ l, l = arr.toList.take cs.length := ⟨_, rfl⟩
            have hlen : cs.length = arrL.length := by rw [harr]; simp; omega
            have hin : ∀ (k : Nat) (u : Value), arrL[k]? = some u → arr[k]? = some u := by
              intro k u hu
              rw [harr, List.getElem?_take] at hu
              split at hu
              · simpa using hu
              · cases hu
            have hkey : keyOf st (.cell a ty) = (1, k) := by simp [keyOf, hs]
            split at hr
            · rename_i hag
              obtain ⟨l, hl, hr⟩ := bsm hr
              cases hr
              obtain ⟨hle, rfl⟩ := zB hl
              refine ⟨fun i => .bc k g (off + i), .agg ((arrL.drop off).take ti.size).toArray, .inr ⟨by rw [hkey], g, off, by rw [hkey]⟩, ⟨(arrL.drop off).take ti.size, rfl, by simp [hlen], fun i y u hy hu => ?_⟩, ?_⟩
              · rw [List.getElem?_take] at hy hu
                split at hy
                · rename_i hq
                  simp only [hq, if_true] at hu
                  rw [List.getElem?_drop] at hy hu
                  exact c3 (off + i) y u hy (hin _ _ hu)
                · cases hy
              · have hload := run_loadCells_list (P := c.P) (w := w) (⟨blk, off, none⟩ : Addr) ((arrL.drop off).take ti.size) (fun j v hj => by
                  rw [qF, qO c1]
                  rw [List.getElem?_take] at hj
                  split at hj
                  · rw [List.getElem?_drop] at hj; exact hin _ _ hj
                  · cases hj)
                have hll : ((arrL.drop off).take ti.size).length = ti.size := by simp; omega
                rw [hll] at hload
                simp [xf, hv, asAddr, loadVar, ha, hag, hz, hload]
            · rename_i hag
              have hx : cs[off]? = some x := by
                obtain ⟨y, hy, hr⟩ := bsm hr
                cases hr; exact hy
              obtain ⟨u, hu⟩ := qE hlen hx
              have hu' : arr[off]? = some u := hin _ _ hu
              have hrel := c3 off x u hx hu'
              have hag' : isAg ti.k = false := by simpa using hag
              refine ⟨fun i => .bc k g (off + i), u, .inr ⟨by rw [hkey], g, off, by rw [hkey]⟩, RelC.v hrel, ?_⟩
              have hcell : w.cell? (⟨blk, off, none⟩ : Addr) = some u := by rw [qO c1]; exact hu'
              simp [xf, hv, asAddr, loadVar, ha, hag', hcell]
          · cases hr
        · cases hr
      · cases hr
    · cases hr
theorem ress (hc : Ok c) (hI : Inv G w st tmps) : ∀ {rs : List ResultVar} {xs : List AV}, xe st c.tn some rs = some xs →
  ∃ (owns : List (Nat → Ow)) (vs : List Value), owns.length = rs.length ∧ vs.length = rs.length ∧ xs.length = rs.length ∧ (rs.mapM (xf tmps)).run c.P w = .ok vs w ∧
   (∀ (j : Nat) (own : Nat → Ow), owns[j]? = some own → ∃ r, rs[j]? = some r ∧ xo (keyOf st r) own) ∧
   ∀ (j : Nat) (x : AV) (v : Value), xs[j]? = some x → vs[j]? = some v → ∃ own, owns[j]? = some own ∧ RelV G w own x v
 | [], xs, h => by simp only [xe] at h; cases h; exact ⟨[], [], rfl, rfl, rfl, rfl, by simp, by simp⟩
 | r :: rs, xs, h => by
  simp only [xe] at h
  rw [resVK_nat] at h
  obtain ⟨x, hx, h⟩ := bsm h
  rw [xd] at h
  obtain ⟨xs', hxs, h⟩ := bsm h
  cases h
  obtain ⟨own, v, h1, h2, h3⟩ := res1 hc hI hx
  obtain ⟨owns, vs, g1, g2, g3, g4, g5, g6⟩ := ress hc hI hxs
  refine ⟨own :: owns, v :: vs, by simp [g1], by simp [g2], by simp [g3], ?_, ?_, ?_⟩
  ·rw [List.mapM_cons]
   simp only [Sem.run_bind, h3, Result.andThen_ok, g4, Sem.run_pure]
  ·intro j own' hj
   cases j with
   | zero => simp at hj; subst hj; exact ⟨r, rfl, h1⟩
   | succ j => simp at hj; obtain ⟨r', a1, a2⟩ := g5 j own' hj; exact ⟨r', by simpa using a1, a2⟩
  ·intro j x' v' hx' hv'
   cases j with
   | zero => simp at hx' hv'; subst hx'; subst hv'; exact ⟨own, rfl, h2⟩
   | succ j => simp at hx' hv'; obtain ⟨own', a1, a2⟩ := g6 j x' v' hx' hv'; exact ⟨own', by simpa using a1, a2⟩
theorem run_results {P : Program} {fn : Func} {vs : List Value} (h : (fn.results.toList.mapM (xf tmps)).run P w = .ok vs w) :
  (results fn tmps).run P w = .ok (match vs with | [v] => v | vs => .tuple vs.toArray) w := by
 have hm : (fn.results.mapM (xf tmps)).run P w = .ok vs.toArray w := by
  rw [Array.mapM_eq_mapM_toList, Sem.run_map, h]; rfl
 have e : results fn tmps = (do let vs ← fn.results.mapM (xf tmps); pure (if h : vs.size = 1 then vs[0] else .tuple vs)) := by
  unfold results
  congr 1
 rw [e, Sem.run_bind, hm]
 simp only [Result.andThen_ok, Sem.run_pure]
 match vs with
 | [] => rfl
 | [v] => rfl
 | v :: v' :: vs => simp
theorem fin_ok (hc : Ok c) {f : FuncId} {fn : Func} (hF : c.F f = some fn) (hI : Inv G w st tmps) {y : AV} {hp : Hp} (hr : fin c f st = some (y, hp)) :
  ∃ v G', (results fn tmps).run c.P w = .ok v w ∧ Fr G w G' w ∧ HpI G' w hp ∧ ResR G' w y v := by
 unfold fin at hr
 rw [hF] at hr
 simp only at hr
 cases hd : yQ (fn.results.toList.map (keyOf st)) with
 | false => rw [hd] at hr; cases hr
 | true =>
  rw [hd] at hr
  simp only [cond_true] at hr
  rw [xd] at hr
  obtain ⟨xs, hxs, hr⟩ := bsm hr
  obtain ⟨owns, vs, g1, g2, g3, g4, g5, g6⟩ := ress hc hI hxs
  have hform : ∀ (j : Nat) (own : Nat → Ow), owns[j]? = some own → ∀ i, (∃ a b c, own i = .sl a b c) ∨ ∃ a b c, own i = .bc a b c := by
   intro j own hj i
   obtain ⟨r, _, h⟩ := g5 j own hj
   exact h.form i
  have hinj : ∀ (j j' : Nat) (own own' : Nat → Ow) (i i' : Nat), owns[j]? = some own → owns[j']? = some own' → own i = own' i' → j = j' ∧ i = i' := by
   intro j j' own own' i i' hj hj' e
   obtain ⟨r, hr1, h⟩ := g5 j own hj
   obtain ⟨r', hr1', h'⟩ := g5 j' own' hj'
   have hk := h.inj h' e
   have e1 : (fn.results.toList.map (keyOf st))[j]? = some (keyOf st r) := by rw [List.getElem?_map, hr1]; rfl
   have e2 : (fn.results.toList.map (keyOf st))[j']? = some (keyOf st r) := by rw [List.getElem?_map, hr1', hk]; rfl
   have ej := distinct_spec hd j j' _ e1 e2
   subst ej
   rw [hj] at hj'; cases hj'
   exact ⟨rfl, h.inj1 e⟩
  have hrho := relab_rho owns hform
  have hfr : Fr G w (G.rel (yC owns)) w := Fr.rel hrho
  have hrel : ∀ (j : Nat) (x : AV) (v : Value), xs[j]? = some x → vs[j]? = some v → RelV (G.rel (yC owns)) w (.sl 0 j ·) x v := by
   intro j x v hx hv
   obtain ⟨own, ho, hr⟩ := g6 j x v hx hv
   refine RelV.ev hfr.ev (p := own) (fun i b hb => ⟨rfl, rfl, ?_⟩) hr
   simp only [Gh.rel, hb]
   exact relab_own hinj hform ho i
  refine ⟨_, G.rel (yC owns), run_results g4, hfr, ?_, ?_⟩
  ·have : hp = st.hp := by
    split at hr <;> cases hr <;> rfl
   subst this
   exact hI.hpI.rel hrho (fun _ _ => rfl) (fun _ _ _ => rfl)
  ·match xs, vs, hr, g2, g3, hrel with
   | [x], [v], hr, _, _, hrel =>
    cases hr
    have := hrel 0 _ _ rfl rfl
    unfold ResR
    split
    ·exact this.elim
    ·exact this
   | [], [], hr, _, _, hrel => cases hr; exact ⟨[], rfl, rfl, by simp⟩
   | x :: x' :: xs, v :: v' :: vs, hr, g2, g3, hrel => cases hr; exact ⟨_, rfl, by simp at g2 g3 ⊢; omega, hrel⟩
   | [], v :: vs, hr, g2, g3, _ => simp at g2 g3; omega
   | [x], [], hr, g2, g3, _ => simp at g2 g3; omega
   | [x], v :: v' :: vs, hr, g2, g3, _ => simp at g2 g3; omega
   | x :: x' :: xs, [], hr, g2, g3, _ => simp at g2 g3; omega
   | x :: x' :: xs, [v], hr, g2, g3, _ => simp at g2 g3; omega
end
def dstB (N : Nat) : Code → Bool
 | .region _ ops _ => ops.toList.all fun o => match o.dst with | some d => Nat.blt d N | none => true
 | .seq a b => dstB N a && dstB N b
 | .cond _ a b => dstB N a && dstB N b
 | .block _ b => dstB N b
 | .loop b => dstB N b
 | .scope b => dstB N b
 | _ => true
def ItOk (N : Nat) : It → Prop
 | .code c => dstB N c = true
 | .inBlock _ => True
 | .inLoop b => dstB N b = true
 | .inScope _ => True
 | .ops _ _ _ _ _ => False
def jJ : It → Item
 | .code c => .code c
 | .inBlock i => .inBlock i
 | .inLoop b => .inLoop b
 | .inScope b => .inScope b
 | .ops _ ops is _ _ => .inRegion ops is
theorem yd {N : Nat} {id : Nat} : ∀ {k k' : List It}, popTo id k = some k' → (∀ it ∈ k, ItOk N it) → exitTo id (k.map jJ) = some (k'.map jJ) ∧ ∀ it ∈ k', ItOk N it
 | [], k', h, _ => by simp [popTo] at h
 | .inBlock j :: k, k', h, hk => by
  simp only [popTo] at h
  by_cases e : j = id
  ·rw [if_pos e] at h; cases h
   subst e
   exact ⟨by simp [exitTo, jJ], fun it hi => hk it (by simp [hi])⟩
  ·rw [if_neg e] at h
   obtain ⟨h1, h2⟩ := yd h fun it hi => hk it (by simp [hi])
   have hne : (j == id) = false := by simpa using e
   exact ⟨by simp only [List.map_cons, jJ, exitTo, hne]; exact h1, h2⟩
 | .code c :: k, k', h, hk => by
  obtain ⟨h1, h2⟩ := yd (k := k) h fun it hi => hk it (by simp [hi])
  exact ⟨h1, h2⟩
 | .inLoop b :: k, k', h, hk => by
  obtain ⟨h1, h2⟩ := yd (k := k) h fun it hi => hk it (by simp [hi])
  exact ⟨h1, h2⟩
 | .inScope b :: k, k', h, hk => by
  obtain ⟨h1, h2⟩ := yd (k := k) h fun it hi => hk it (by simp [hi])
  exact ⟨h1, h2⟩
 | .ops r ops is d acc :: k, k', h, hk => (show False from hk (.ops r ops is d acc) (by simp)).elim
section
variable {c : Cx} {R : Orc} {G : Gh} {w : World}
theorem Inv.mask {st : St} {t : Array Value} (hI : Inv G w st t) (m : Option (List Nat)) : Inv G w (AI.mask m st) t := by
 cases m with
 | none => exact hI
 | some live =>
  have hb : ∀ k g cs, getB (jD st.bx live) k = some (g, cs) → getB st.bx k = some (g, cs) := by
   intro k g cs h
   rw [getB_maskB] at h
   split at h
   ·exact h
   ·cases h
  exact {
   slots := fun k => by
    show RelS G w k (slot (maskS (jD st.bx live) st.sl live) k) _
    rw [yY]
    split
    ·have h := hI.slots k
     cases hs : slot st.sl k with
     | lp j g off =>
      simp only [okLp]
      split
      ·rw [hs] at h; exact h
      ·trivial
     | _ => rw [hs] at h; exact h
    ·trivial
   boxes := fun k g cs h => hI.boxes k g cs (hb k g cs h)
   heap := hI.heap
   next := hI.next
   hlt := hI.hlt
   new := hI.new
   vars := hI.vars
   lps := fun j k g off h => by
    have h' : slot (maskS (jD st.bx live) st.sl live) j = .lp k g off := h
    show ∃ g' cs, getB (jD st.bx live) k = some (g', cs) ∧ g ≤ g'
    rw [yY] at h'
    split at h'
    ·cases hs : slot st.sl j with
     | lp j' g' off' =>
      rw [hs] at h'
      simp only [okLp] at h'
      split at h'
      ·rename_i q hq
       cases h'
       obtain ⟨g', cs, h1, h2⟩ := hI.lps j k g off hs
       rw [hq]
       have := hb k q.1 q.2 hq
       rw [h1] at this
       cases this
       exact ⟨_, _, rfl, h2⟩
      ·cases h'
     | _ => rw [hs] at h'; cases h'
    ·cases h' }
theorem Inv.world {w' : World} {st : St} {t : Array Value} (hI : Inv G w st t) (hw : w'.heap = w.heap) : Inv G w' st t := by
 have he : Ev G w G w' := ⟨fun b i _ => by simp [World.cell?, hw], fun _ => Nat.le_refl _, fun _ _ _ h => h, fun b z h => (bsz_of (w := w) (w' := w') (by rw [hw])).trans h⟩
 have hk : ∀ p, qX G w G w' p p := fun p b hb => ⟨by rw [hw], rfl, hb⟩
 exact {
  slots := fun k => RelS.ev he (fun j i => hk _) (fun _ _ _ _ _ h => h) (hI.slots k)
  boxes := fun k g cs h => by
   obtain ⟨blk, h1, h2, h3⟩ := hI.boxes k g cs h
   exact ⟨blk, h1, h2, h3.ev he (by rw [hw]) fun i => hk _⟩
  heap := fun k g cs h => by
   obtain ⟨blk, h1, h2, h3⟩ := hI.heap k g cs h
   exact ⟨blk, h1, h2, h3.ev he (by rw [hw]) fun i => hk _⟩
  next := hI.next
  hlt := hI.hlt
  new := fun b hb => hI.new b (by rw [hw] at hb; exact hb)
  vars := hI.vars
  lps := hI.lps }
theorem Fr.world {w' : World} (hw : w'.heap = w.heap) (hr : Rest w w') : Fr G w G w' :=
 ⟨by rw [hw]; exact Nat.le_refl _, fun b i _ => by simp [World.cell?, hw], fun _ => Nat.le_refl _, fun _ _ _ h => h, fun b _ _ => ⟨by rw [hw], rfl, rfl⟩, hr, fun b z h => (bsz_of (w := w) (w' := w') (by rw [hw])).trans h⟩
theorem vw_inv {st st' : St} {t : Array Value} (hv : st.vw = st'.vw) (hI : Inv G w st t) : Inv G w st' t := by
 have h1 : slot st'.sl = slot st.sl := (congrArg Vw.sl hv).symm
 have h2 : getB st'.bx = getB st.bx := (congrArg Vw.bx hv).symm
 have h3 : st'.hp = st.hp := (congrArg Vw.hp hv).symm
 exact {
  slots := by rw [h1]; exact hI.slots
  boxes := by rw [h2]; exact hI.boxes
  heap := by rw [h3]; exact hI.heap
  next := by rw [h3]; exact hI.next
  hlt := by rw [h3]; exact hI.hlt
  new := hI.new
  vars := hI.vars
  lps := by rw [h1, h2]; exact hI.lps }
theorem region_ok (hc : Ok c) (hR : yL c R) (hS : Bodies c R) {f : FuncId} {r : Nat} {ops : Array Oper} {d : Bool} {st st' : St} {accs : List (Nat × Fp)} {a : Act} (hI : Inv G w st a.tmps)
    (hd : ∀ o ∈ ops, Dst o a) (hrun : vRun c R f r ops (List.range ops.size) st.vw = some (st'.vw, accs)) (hok : d = true → drawOk ops accs.reverse = true ∧ ∀ o ∈ pend ops accs.reverse, o = some ()) :
    (Code.region r ops d).wp c.P (fun e a' w' => e = .normal ∧ ∃ G', Inv G' w' st' a'.tmps ∧ Fr G w G' w' ∧ a'.tmps.size = a.tmps.size ∧ a'.defers = a.defers) a w := by
  have conv : ∀ {w0 : World} (_ : Fr G w G w0) (a' : Act) (w' : World), AftV G w0 a st'.vw a' w' → ∃ G', Inv G' w' st' a'.tmps ∧ Fr G w G' w' ∧ a'.tmps.size = a.tmps.size ∧ a'.defers = a.defers := by
    rintro w0 hf a' w' ⟨G', ⟨s, hs, hI'⟩, h2, h3, h4⟩
    exact ⟨G', vw_inv hs hI', hf.trans h2, h3, h4⟩
  cases d with
  | false =>
    exact wp_region (ops_ok hc hR hS _ G w a _ _ _ hrun ⟨st, rfl, hI⟩ hd fun a' w' h => ⟨rfl, conv (Fr.refl G w) a' w' h⟩)
  | true =>
    obtain ⟨hdr, hpe⟩ := hok rfl
    unfold drawOk at hdr
    have hdeps : depsB ops = true := by
      cases h : depsB ops with
      | true => rfl
      | false => rw [h] at hdr; cases hdr
    have hpairs : ∀ p ∈ accs.reverse, ∀ q ∈ accs.reverse, (!(decide (p.1 < q.1)) || ((zH ops.toList []).getD q.1 []).contains p.1 || !(clash p.2 q.2)) = true := by
      intro p hp q hq
      rw [hdeps, Bool.true_and] at hdr
      exact List.all_eq_true.mp (List.all_eq_true.mp hdr p hp) q hq
    have hw : ({ w with drawn := w.drawn + 1 } : World).heap = w.heap := rfl
    refine wp_region_any hc.mixed (any_ok hc hR hS hdeps ops.size (List.range ops.size) (Array.replicate ops.size false) G { w with drawn := w.drawn + 1 } a st.vw st'.vw accs (by simp) (fun i => ?_) (fun i hi => List.mem_range.mp hi) (by simp)
      List.pairwise_lt_range (fun j o d hj _ _ => ?_) hrun (fun x Fx y Fy hx hy hxy => ?_) ⟨st, rfl, hI.world hw⟩ hd fun a' w' h => ⟨rfl, conv (Fr.world hw ⟨rfl, rfl, rfl⟩) a' w' h⟩)
    · rw [List.mem_range]
      by_cases h : i < ops.size <;> simp [Array.getD, h]
    · exfalso
      by_cases h : j < ops.size <;> simp [Array.getD, h] at hj
    · have := hpairs (x, Fx) (by simpa using hx) (y, Fy) (by simpa using hy)
      simp only [hxy, decide_true, Bool.not_true, Bool.false_or, Bool.or_eq_true] at this
      rcases this with h | h
      · exact .inl (by simpa using h)
      · by_cases hanc : x ∈ (zH ops.toList []).getD y []
        · exact .inl hanc
        · have no : ∀ j, j ∈ (zH ops.toList []).getD x [] → j < x := fun j hj => anc_lt hdeps hj
          have hord : ordB (zH ops.toList []) x y = false := by
            unfold ordB
            have h2 : y ∉ (zH ops.toList []).getD x [] := fun hm => by have := no y hm; omega
            rw [Bool.or_eq_false_iff, List.contains_eq_mem, List.contains_eq_mem]
            exact ⟨decide_eq_false hanc, decide_eq_false h2⟩
          have hord' : ordB (zH ops.toList []) y x = false := by
            unfold ordB at hord ⊢
            rw [Bool.or_comm]; exact hord
          refine .inr (apart_of (by simpa using h) (fun q hq hw => ?_) (fun q hq hw => ?_))
          · have := pend_same hpe (p := (x, Fx)) (q := (y, Fy)) (by simpa using hx) (by simpa using hy) hq hw
            rw [hord] at this
            exact this.resolve_left (by simp)
          · have := pend_same hpe (p := (y, Fy)) (q := (x, Fx)) (by simpa using hy) (by simpa using hx) hq hw
            rw [hord'] at this
            exact this.resolve_left (by simp)
theorem dst_ok {N : Nat} {r : Nat} {ops : Array Oper} {d : Bool} (h : dstB N (.region r ops d) = true) {a : Act} (hN : N ≤ a.tmps.size) : ∀ o ∈ ops, Dst o a := by
 intro o ho k hk
 simp only [dstB] at h
 have := List.all_eq_true.mp h o (by simpa using ho)
 rw [hk] at this
 have hlt : k < N := by simpa [Nat.blt_eq] using this
 exact Nat.lt_of_lt_of_le hlt hN
def xp (P : Program) (f : FuncId) (G : Gh) (w : World) (y : AV) (hp : Hp) (m : Machine) (cs : List Frame) : Prop :=
 ∃ v G' w' fr, Steps P m (lone fr cs w') ∧ fr.fn = f ∧ fr.leaving P w' (.returned v) ∧ Fr G w G' w' ∧ HpI G' w' hp ∧ ResR G' w' y v
theorem xp.of {P : Program} {f : FuncId} {G G1 : Gh} {w w1 : World} {y : AV} {hp : Hp} {m m1 : Machine} {cs : List Frame} (hs : Steps P m m1) (hf : Fr G w G1 w1) (h : xp P f G1 w1 y hp m1 cs) : xp P f G w y hp m cs := by
 obtain ⟨v, G', w', fr, h1, h2, h3, h4, h5, h6⟩ := h
 exact ⟨v, G', w', fr, hs.trans h1, h2, h3, hf.trans h4, h5, h6⟩
theorem go_ok (hc : Ok c) (hR : yL c R) (hS : Bodies c R) {f : FuncId} {fn : Func} (hF : c.F f = some fn) {N : Nat} : ∀ (n : Nat) (its : List It) (st : St) (y : AV) (hp : Hp), goC c R f n its st = some (y, hp) → (∀ it ∈ its, ItOk N it) →
    ∀ (G : Gh) (w : World) (a : Act), Inv G w st a.tmps → N ≤ a.tmps.size → a.defers = [] → ∀ (b : Frame) (cs : List Frame), b.fn = f → b.kind = .normal → xp c.P f G w y hp (lone (b.at a (its.map jJ)) cs w) cs := by
  intro n
  induction n using Nat.strongRecOn with
  | _ n ih =>
  intro its st y hp hgo hits G w a hI hN hdef b cs hb hk
  cases n with
  | zero => simp [goC] at hgo
  | succ n =>
  have hP := hc.F f fn hF
  have ends : ∀ (todo : List Item), fin c f st = some (y, hp) → Steps c.P (lone (b.at a (its.map jJ)) cs w) (lone { b.at a todo with mode := .returning } cs w) → xp c.P f G w y hp (lone (b.at a (its.map jJ)) cs w) cs := by
    intro todo hfin hs
    obtain ⟨v, G', h1, h2, h3, h4⟩ := fin_ok hc hF hI hfin
    exact ⟨v, G', w, _, hs, hb, ⟨rfl, hdef, hk, fn, by rw [← hP]; exact congrArg _ hb, h1⟩, h2, h3, h4⟩
  have on : ∀ (its' : List It), goC c R f n its' st = some (y, hp) → (∀ it ∈ its', ItOk N it) → step c.P (lone (b.at a (its.map jJ)) cs w) = .next (lone (b.at a (its'.map jJ)) cs w) → xp c.P f G w y hp (lone (b.at a (its.map jJ)) cs w) cs := by
    intro its' hgo' hits' hs
    exact xp.of (.one hs) (Fr.refl G w) (ih n (Nat.lt_succ_self n) its' st y hp hgo' hits' G w a hI hN hdef b cs hb hk)
  simp only [goC] at hgo
  match its, hgo, hits, ends, on with
  | [], hgo, hits, ends, on => exact ends _ hgo (.one step_end)
  | .inBlock id :: k, hgo, hits, ends, on => exact on _ hgo (fun it hi => hits it (by simp [hi])) step_inBlock
  | .inScope body :: k, hgo, hits, ends, on => exact on _ hgo (fun it hi => hits it (by simp [hi])) step_inScope
  | .inLoop body :: k, hgo, hits, ends, on =>
    exact on (.code body :: .inLoop body :: k) hgo (fun it hi => by
      simp only [List.mem_cons] at hi
      rcases hi with rfl | rfl | hi
      · exact hits (.inLoop body) (by simp)
      · exact hits (.inLoop body) (by simp)
      · exact hits it (by simp [hi])) step_inLoop
  | .code .skip :: k, hgo, hits, ends, on => exact on _ hgo (fun it hi => hits it (by simp [hi])) step_skip
  | .code (.label l) :: k, hgo, hits, ends, on => exact on _ hgo (fun it hi => hits it (by simp [hi])) step_label
  | .code .ret :: k, hgo, hits, ends, on => exact ends _ hgo (.one step_ret)
  | .code (.seq x z) :: k, hgo, hits, ends, on =>
    have h := hits (.code (.seq x z)) (by simp)
    simp only [ItOk, dstB, Bool.and_eq_true] at h
    exact on (.code x :: .code z :: k) hgo (fun it hi => by
      simp only [List.mem_cons] at hi
      rcases hi with rfl | rfl | hi
      · exact h.1
      · exact h.2
      · exact hits it (by simp [hi])) step_seq
  | .code (.block id x) :: k, hgo, hits, ends, on =>
    exact on (.code x :: .inBlock id :: k) hgo (fun it hi => by
      simp only [List.mem_cons] at hi
      rcases hi with rfl | rfl | hi
      · exact hits (.code (.block id x)) (by simp)
      · trivial
      · exact hits it (by simp [hi])) step_block
  | .code (.loop x) :: k, hgo, hits, ends, on =>
    have hgo : goC c R f n (.inLoop x :: k) st = some (y, hp) := hgo
    cases n with
    | zero => simp [goC] at hgo
    | succ n =>
      simp only [goC, jc] at hgo
      have hits' : ∀ it ∈ .code x :: .inLoop x :: k, ItOk N it := fun it hi => by
        simp only [List.mem_cons] at hi
        rcases hi with rfl | rfl | hi
        · exact hits (.code (.loop x)) (by simp)
        · exact hits (.code (.loop x)) (by simp)
        · exact hits it (by simp [hi])
      exact xp.of (.one step_loop) (Fr.refl G w) (ih n (by omega) _ st y hp hgo hits' G w a hI hN hdef b cs hb hk)
  | .code (.exit id) :: k, hgo, hits, ends, on =>
    simp only [jc] at hgo
    obtain ⟨k', hk', hgo⟩ := bsm hgo
    obtain ⟨h1, h2⟩ := yd (N := N) hk' (fun it hi => hits it (by simp [hi]))
    exact on _ hgo h2 (step_exit h1)
  | .code (.cond x p q) :: k, hgo, hits, ends, on =>
    simp only [jc] at hgo
    obtain ⟨u, hu, hgo⟩ := bsm hgo
    obtain ⟨t, ht, hgo⟩ := bsm hgo
    have hx := (jf hI (zU hu)).1
    rw [asB_some ht] at hx
    have h := hits (.code (.cond x p q)) (by simp)
    simp only [ItOk, dstB, Bool.and_eq_true] at h
    have hs := step_cond (P := c.P) (b := b) (k := k.map jJ) (cs := cs) (w := w) (x := p) (y := q) hx
    cases t with
    | true =>
      exact on (.code p :: k) hgo (fun it hi => by
        simp only [List.mem_cons] at hi
        rcases hi with rfl | hi
        · exact h.1
        · exact hits it (by simp [hi])) hs
    | false =>
      exact on (.code q :: k) hgo (fun it hi => by
        simp only [List.mem_cons] at hi
        rcases hi with rfl | hi
        · exact h.2
        · exact hits it (by simp [hi])) hs
  | .code (.region r ops d) :: k, hgo, hits, ends, on =>
    simp only [jc] at hgo
    obtain ⟨n', st', accs, h1, h2, h3, h4⟩ := ops_v n _ d [] k _ _ hgo
    have hdst := dst_ok (hits (.code (.region r ops d)) (by simp)) hN
    have hwp := region_ok hc hR hS (d := d) (hI.mask (c.M f r)) hdst h2 (fun e => by simpa using h3 e)
    obtain ⟨e, a', w', ⟨he, G', i1, i2, i3, i4⟩, harr⟩ := hwp b (k.map jJ) cs
    subst he
    exact xp.of harr i2 (ih n' (by omega) k st' y hp h4 (fun it hi => hits it (by simp [hi])) G' w' a' i1 (by rw [i3]; exact hN) (by rw [i4]; exact hdef) b cs hb hk)
  | .ops r ops is d acc :: k, hgo, hits, ends, on => exact (show False from hits (.ops r ops is d acc) (by simp)).elim
  | .code (.rangeFunc _ _ _ _) :: k, hgo, hits, ends, on => simp [jc] at hgo
  | .code (.scope x) :: k, hgo, hits, ends, on =>
    exact on (.code x :: .inScope x :: k) hgo (fun it hi => by
      simp only [List.mem_cons] at hi
      rcases hi with rfl | rfl | hi
      · exact hits (.code (.scope x)) (by simp)
      · trivial
      · exact hits it (by simp [hi])) step_scope
  | .code (.goto _) :: k, hgo, hits, ends, on => simp [jc] at hgo
  | .code (.refuse _) :: k, hgo, hits, ends, on => simp [jc] at hgo
theorem init_ok (hc : Ok c) : ∀ (i : Nat) (ts : List TypeId) (xs : List AV) (l : Slots), jG c i ts xs some = some l →
  ∀ k, slot l k = .un ∨ ∃ x, xs[k - i]? = some x ∧ i ≤ k ∧ (slot l k = .av x ∨ ∃ v, x = .sc v ∧ slot l k = .sv v)
 | i, [], [], l, h, k => by simp only [jG] at h; cases h; exact .inl rfl
 | i, [], x :: xs, l, h, k => by
  simp only [jG] at h
  rw [zk] at h
  obtain ⟨l', h1, h2⟩ := bsm h
  cases h2
  rw [qK]
  by_cases e : i = k
  ·subst e; rw [if_pos rfl]; exact .inr ⟨x, by simp, Nat.le_refl _, .inl rfl⟩
  ·rw [if_neg e]
   rcases init_ok hc (i + 1) [] xs l' h1 k with h | ⟨x', h, h', h''⟩
   ·exact .inl h
   ·refine .inr ⟨x', ?_, by omega, h''⟩
    rw [show k - i = (k - (i + 1)) + 1 by omega]; simpa using h
 | i, t :: ts, [], l, h, k => by simp [jG] at h
 | i, t :: ts, x :: xs, l, h, k => by
  simp only [jG] at h
  have rest : ∀ (l' : Slots) (s : SV), jG c (i + 1) ts xs some = some l' → (s = .av x ∨ ∃ v, x = .sc v ∧ s = .sv v) → l = (i, s) :: l' →
    slot l k = .un ∨ ∃ x', (x :: xs)[k - i]? = some x' ∧ i ≤ k ∧ (slot l k = .av x' ∨ ∃ v, x' = .sc v ∧ slot l k = .sv v) := by
   rintro l' s h1 hs rfl
   rw [qK]
   by_cases e : i = k
   ·subst e; rw [if_pos rfl]; exact .inr ⟨x, by simp, Nat.le_refl _, hs⟩
   ·rw [if_neg e]
    rcases init_ok hc (i + 1) ts xs l' h1 k with h | ⟨x', h, h', h''⟩
    ·exact .inl h
    ·refine .inr ⟨x', ?_, by omega, h''⟩
     rw [show k - i = (k - (i + 1)) + 1 by omega]; simpa using h
  split at h
  ·split at h
   ·obtain ⟨v, hv, h⟩ := bsm h
    rw [zk] at h
    obtain ⟨l', h1, h2⟩ := bsm h
    cases h2
    exact rest l' _ h1 (.inr ⟨v, jv hv, rfl⟩) rfl
   ·rw [zk] at h
    obtain ⟨l', h1, h2⟩ := bsm h
    cases h2
    exact rest l' _ h1 (.inl rfl) rfl
  ·cases h
def DstOk (c : Cx) : Prop := ∀ f fn b, c.F f = some fn → fn.body = some b → dstB fn.ntmps b = true
theorem start_ok (hc : Ok c) (hD : DstOk c) (hR : yL c R) (hS : Bodies c R) {f : FuncId} {xs : List AV} {hp hp' : Hp} {y : AV} {n : Nat} (hr : jp c f xs hp (goC c R f n) = some (y, hp')) (G : Gh) (w : World) (vs : List Value) (hH : HpI G w hp) (hlen : xs.length = vs.length)
    (hargs : ∀ (i : Nat) (x : AV) (v : Value), xs[i]? = some x → vs[i]? = some v → ArgR G w x v) : Calls c.P f vs.toArray w (Gives G w y hp') := by
  unfold jp at hr
  cases hF : c.F f with
  | none => rw [hF] at hr; cases hr
  | some fn =>
    rw [hF] at hr
    simp only at hr
    cases hb : fn.body with
    | none => rw [hb] at hr; cases hr
    | some body =>
      rw [hb] at hr
      simp only at hr
      rw [zk] at hr
      obtain ⟨l, hl, hr⟩ := bsm hr
      let a : Act := { tmps := vs.toArray ++ Array.replicate (fn.ntmps - vs.toArray.size) undef, defers := [] }
      have hget : ∀ k v, vs[k]? = some v → a.tmps.getD k undef = v := by
        intro k v hk
        have hlt : k < vs.length := (List.getElem?_eq_some_iff.mp hk).1
        simp only [a, Array.getD_eq_getD_getElem?]
        rw [Array.getElem?_append_left (by simpa using hlt), List.getElem?_toArray, hk]; rfl
      have hI : Inv G w ⟨l, [], hp⟩ a.tmps := {
        slots := fun k => by
          show RelS G w k (slot l k) _
          rcases init_ok hc 0 _ _ _ hl k with h | ⟨x, h1, h2, h3⟩
          · rw [h]; trivial
          · rw [Nat.sub_zero] at h1
            obtain ⟨v, hv⟩ := qE hlen h1
            have hrel := hargs k x v h1 hv
            rw [hget k v hv]
            rcases h3 with h3 | ⟨u, rfl, h3⟩
            · rw [h3]; exact hrel _
            · rw [h3]
              have hr' : RelR G w (.sc u) v := hrel (fun _ => .fr)
              cases hr' with
              | sc _ h1 => exact ⟨rfl, h1⟩
        boxes := fun k g cs h => by simp [getB] at h
        heap := hH.heap
        next := hH.next
        hlt := hH.hlt
        new := hH.new
        vars := hH.vars
        lps := fun j k g off h => by
          have h' : slot l j = .lp k g off := h
          rcases init_ok hc 0 _ _ _ hl j with e | ⟨x, h1, h2, e | ⟨v, _, e⟩⟩ <;> rw [e] at h' <;> cases h' }
      intro cs
      let b : Frame := { (default : Frame) with fn := f, kind := .normal }
      have hP := hc.F f fn hF
      have henter : Frame.enter c.P f vs.toArray .normal = b.at a [.code body] := by
        simp [Frame.enter, Frame.at, hP, hb, b, a]
      have := go_ok hc hR hS hF (N := fn.ntmps) n [.code body] ⟨l, [], hp⟩ y hp' hr (fun it hi => by
        simp only [List.mem_singleton] at hi
        subst hi
        exact hD f fn body hF hb) G w a hI (by simp [a]; omega) rfl b cs rfl rfl
      obtain ⟨v, G', w', fr, h1, h2, h3, h4, h5, h6⟩ := this
      refine ⟨.returned v, w', fr, ⟨v, G', rfl, h4, h5, h6⟩, ?_, h2, h3⟩
      rw [henter]
      exact h1
theorem runN_body : ∀ n, Bodies c (runN c n)
 | 0, f, xs, hp, r, h => by simp [runN] at h
 | n + 1, f, xs, hp, r, h => by
  simp only [runN, jp] at h
  cases hF : c.F f with
  | none => rw [hF] at h; cases h
  | some fn =>
   rw [hF] at h
   simp only at h
   cases hb : fn.body with
   | none => rw [hb] at h; cases h
   | some b => exact ⟨fn, b, rfl, hb⟩
theorem runN_sound (hc : Ok c) (hD : DstOk c) : ∀ n, yL c (runN c n)
 | 0 => fun f xs hp y hp' h => by simp [runN] at h
 | n + 1 => fun f xs hp y hp' h G w vs hH hl ha => start_ok hc hD (runN_sound hc hD n) (runN_body n) h G w vs hH hl ha
theorem run_sound (hc : Ok c) (hD : DstOk c) {f : FuncId} {xs : List AV} {hp hp' : Hp} {y : AV} (h : run c f xs hp = some (y, hp')) {G : Gh} {w : World} {vs : List Value} (hH : HpI G w hp) (hl : xs.length = vs.length)
  (ha : ∀ (i : Nat) (x : AV) (v : Value), xs[i]? = some x → vs[i]? = some v → ArgR G w x v) : Calls c.P f vs.toArray w (Gives G w y hp') := by
 obtain ⟨n, hn⟩ := yb.mp h
 exact runN_sound hc hD n f xs hp y hp' hn G w vs hH hl ha
end
inductive Tr (α : Type) where
 | leaf
 | node (k : Nat) (v : α) (l r : Tr α)
def Tr.get {α : Type} : Tr α → Nat → Option α
 | .leaf, _ => none
 | .node k v l r, x => match Nat.beq x k with
  | true => some v
  | false => match Nat.blt x k with
   | true => l.get x
   | false => r.get x
def Tr.all {α : Type} (p : Nat → α → Bool) : Tr α → Bool
 | .leaf => true
 | .node k v l r => p k v && l.all p && r.all p
def Tr.AllP {α : Type} (p : Nat → α → Prop) : Tr α → Prop
 | .leaf => True
 | .node k v l r => p k v ∧ l.AllP p ∧ r.AllP p
theorem Tr.get_all {α : Type} {p : Nat → α → Bool} : ∀ {t : Tr α} {x : Nat} {v : α}, t.all p = true → t.get x = some v → p x v = true
 | .leaf, _, _, _, h => by cases h
 | .node k v l r, x, u, h, hg => by
  simp only [Tr.all, Bool.and_eq_true] at h
  simp only [Tr.get] at hg
  split at hg
  ·rename_i e
   cases hg
   rw [Nat.eq_of_beq_eq_true e]; exact h.1.1
  ·split at hg
   ·exact Tr.get_all h.1.2 hg
   ·exact Tr.get_all h.2 hg
theorem Tr.get_allP {α : Type} {p : Nat → α → Prop} : ∀ {t : Tr α} {x : Nat} {v : α}, t.AllP p → t.get x = some v → p x v
 | .leaf, _, _, _, h => by cases h
 | .node k v l r, x, u, h, hg => by
  simp only [Tr.AllP] at h
  simp only [Tr.get] at hg
  split at hg
  ·rename_i e
   cases hg
   rw [Nat.eq_of_beq_eq_true e]; exact h.1
  ·split at hg
   ·exact Tr.get_allP h.2.1 hg
   ·exact Tr.get_allP h.2.2 hg
def zeqB : Value → Value → Bool
 | .bool a, .bool b => a == b
 | .int k a, .int k' b => decide (k = k') && decide (a = b)
 | .float k a, .float k' b => decide (k = k') && Nat.beq a b
 | .string a, .string b => decide (a.data.toList = b.data.toList)
 | .pointer none, .pointer none => true
 | .slice none a b, .slice none a' b' => Nat.beq a a' && Nat.beq b b'
 | .map none, .map none => true
 | .nilFunc, .nilFunc => true
 | .nilIface, .nilIface => true
 | _, _ => false
theorem zeqB_eq {a b : Value} (h : zeqB a b = true) : a = b := by
 unfold zeqB at h
 split at h
 ·rw [eq_of_beq h]
 ·simp only [Bool.and_eq_true, decide_eq_true_eq] at h; rw [h.1, h.2]
 ·simp only [Bool.and_eq_true, decide_eq_true_eq] at h; rw [h.1, Nat.eq_of_beq_eq_true h.2]
 ·rename_i a b
  obtain ⟨⟨x⟩⟩ := a
  obtain ⟨⟨y⟩⟩ := b
  have h : x = y := of_decide_eq_true h
  rw [h]
 ·rfl
 ·simp only [Bool.and_eq_true] at h; rw [Nat.eq_of_beq_eq_true h.1, Nat.eq_of_beq_eq_true h.2]
 ·rfl
 ·rfl
 ·rfl
 ·cases h
def zsB : List Value → List Value → Bool
 | [], [] => true
 | a :: l, b :: m => zeqB a b && zsB l m
 | _, _ => false
theorem zsB_eq : ∀ {l m : List Value}, zsB l m = true → l = m
 | [], [], _ => rfl
 | a :: l, b :: m, h => by
  simp only [zsB, Bool.and_eq_true] at h
  rw [zeqB_eq h.1, zsB_eq h.2]
 | [], b :: m, h => by cases h
 | a :: l, [], h => by cases h
def dB (d : TypeDesc) (k : TK) : Bool :=
 match k with
 | .sc => !(d matches .struct _ | .array _ _ | .slice _)
 | .ot => !(d matches .struct _ | .array _ _ | .slice _)
 | .tu => true
 | .sl e => match d with | .slice e' => Nat.beq e' e | _ => false
 | .mp q e => match d with | .map q' e' => Nat.beq q' q && Nat.beq e' e | _ => false
 | .ar n e => match d with | .array n' e' => Nat.beq n' n && Nat.beq e' e | _ => false
 | .st fs => match d with | .struct fields => decide (fields.toList.map (fun f => (f.offset, f.type)) = fs) | _ => false
theorem dB_ok {d : TypeDesc} {k : TK} (h : dB d k = true) : DOk d k := by
 cases k with
 | sc => intro x hx; subst hx; cases d <;> first | rfl | cases h
 | ot => intro x hx; subst hx; cases d <;> first | rfl | cases h
 | tu => trivial
 | sl e =>
  simp only [dB] at h
  split at h
  ·show _ = _; rw [Nat.eq_of_beq_eq_true h]
  ·cases h
 | mp q e =>
  simp only [dB] at h
  split at h
  ·simp only [Bool.and_eq_true] at h; show _ = _; rw [Nat.eq_of_beq_eq_true h.1, Nat.eq_of_beq_eq_true h.2]
  ·cases h
 | ar n e =>
  simp only [dB] at h
  split at h
  ·simp only [Bool.and_eq_true] at h; show _ = _; rw [Nat.eq_of_beq_eq_true h.1, Nat.eq_of_beq_eq_true h.2]
  ·cases h
 | st fs =>
  simp only [dB] at h
  split at h
  ·exact ⟨_, rfl, of_decide_eq_true h⟩
  ·cases h
def isU8D : TypeDesc → Bool
 | .int .u8 => true
 | _ => false
def isStrD : TypeDesc → Bool
 | .string => true
 | _ => false
def tokB (P : Program) (t : TypeId) (ti : TI) : Bool :=
 match P.info? t, P.underlying t with
 | some info, some d => (!isU8 ti || isU8D d) && (!isStr ti || isStrD d) && dB d ti.k && Nat.beq info.bytes ti.bytes &&
  (isTu ti.k || (Nat.beq info.size ti.size && Nat.beq ti.zero.length ti.size && ti.zero.all (·.oneCell') && match info.zero with | some z => zsB z.cells.toList ti.zero | none => false))
 | _, _ => false
theorem isU8D_eq {d : TypeDesc} (h : isU8D d = true) : d = .int .u8 := by
 unfold isU8D at h; split at h
 ·rfl
 ·cases h
theorem isStrD_eq {d : TypeDesc} (h : isStrD d = true) : d = .string := by
 unfold isStrD at h; split at h
 ·rfl
 ·cases h
theorem tokB_ok {P : Program} {t : TypeId} {ti : TI} (h : tokB P t ti = true) : TOk P t ti := by
 unfold tokB at h
 split at h
 ·rename_i info d h1 h2
  simp only [Bool.and_eq_true, Bool.or_eq_true] at h
  obtain ⟨⟨⟨⟨a1, a2⟩, a3⟩, a4⟩, a5⟩ := h
  refine ⟨fun e => ?_, fun e => ?_, info, d, h1, h2, dB_ok a3, Nat.eq_of_beq_eq_true a4, fun e => ?_⟩
  ·rcases a1 with h | h
   ·rw [e] at h; cases h
   ·rw [h2, isU8D_eq h]
  ·rcases a2 with h | h
   ·rw [e] at h; cases h
   ·rw [h2, isStrD_eq h]
  ·rcases a5 with h | ⟨⟨⟨b1, b2⟩, b3⟩, b4⟩
   ·rw [e] at h; cases h
   ·refine ⟨Nat.eq_of_beq_eq_true b1, ?_⟩
    split at b4
    ·rename_i z hz
     exact ⟨z, hz, zsB_eq b4, Nat.eq_of_beq_eq_true b2, fun v hv => List.all_eq_true.mp b3 v hv⟩
    ·cases b4
 ·cases h
def isIntD : TypeDesc → Bool
 | .int _ => true
 | _ => false
def isBooD : TypeDesc → Bool
 | .bool => true
 | _ => false
def isAggV : Value → Bool
 | .agg _ => true
 | _ => false
def isPtD : TypeDesc → Bool
 | .pointer _ => true
 | _ => false
def tok2B (P : Program) (t : TypeId) (ti : TI) : Bool :=
 match P.info? t, P.underlying t with
 | some info, some d => (!isInt ti || isIntD d) && (!isBoo ti || isBooD d) && (!isPt ti || isPtD d) && (isTu ti.k || match info.zero with | some z => cond (isAg ti.k) (isAggV z) z.oneCell' | none => true)
 | _, _ => false
theorem tok2_int {P : Program} {t : TypeId} {ti : TI} (h : tok2B P t ti = true) (hi : isInt ti = true) : ∃ k, P.underlying t = some (.int k) := by
 unfold tok2B at h
 split at h
 ·rename_i info d h1 h2
  simp only [Bool.and_eq_true, Bool.or_eq_true, hi, Bool.not_true, Bool.false_eq_true, false_or] at h
  have := h.1.1.1
  cases d <;> first | exact ⟨_, h2⟩ | cases this
 ·cases h
theorem tok2_boo {P : Program} {t : TypeId} {ti : TI} (h : tok2B P t ti = true) (hi : isBoo ti = true) : P.underlying t = some .bool := by
 unfold tok2B at h
 split at h
 ·rename_i info d h1 h2
  simp only [Bool.and_eq_true, Bool.or_eq_true, hi, Bool.not_true, Bool.false_eq_true, false_or] at h
  have := h.1.1.2
  cases d <;> first | exact h2 | cases this
 ·cases h
theorem tok2_ptr {P : Program} {t : TypeId} {ti : TI} (h : tok2B P t ti = true) (hi : isPt ti = true) : ∃ e, P.underlying t = some (.pointer e) := by
 unfold tok2B at h
 split at h
 ·rename_i info d h1 h2
  simp only [Bool.and_eq_true, Bool.or_eq_true, hi, Bool.not_true, Bool.false_eq_true, false_or] at h
  have := h.1.2
  cases d <;> first | exact ⟨_, h2⟩ | cases this
 ·cases h
theorem tok2_zero {P : Program} {t : TypeId} {ti : TI} (h : tok2B P t ti = true) (hk : isTu ti.k = false) {info : TypeInfo} {z : Value} (hi : P.info? t = some info) (hz : info.zero = some z) :
  (isAg ti.k = true → ∃ vs, z = .agg vs) ∧ (isAg ti.k = false → z.oneCell' = true) := by
 unfold tok2B at h
 split at h
 ·rename_i info' d h1 h2
  rw [hi] at h1; cases h1
  simp only [Bool.and_eq_true, hk, Bool.false_or, hz] at h
  have := h.2
  constructor
  ·intro e
   rw [e] at this
   cases z <;> first | exact ⟨_, rfl⟩ | cases this
  ·intro e
   rw [e] at this
   exact this
 ·cases h
def fnB (fn : Func) : Bool := !(fn.name == "runtime.NumGoroutine") && match fn.body with | some b => dstB fn.ntmps b | none => true
def FnP (P : Program) (f : Nat) (fn : Func) : Prop := P.funcs[f]? = some fn ∧ fnB fn = true
def lkH : List (Nat × Nat × Nat) → Nat → Nat → Nat
 | [], _, _ => 0
 | (a, b, h) :: l, r, i => match Nat.beq a r && Nat.beq b i with | true => h | false => lkH l r i
def lkM : List (Nat × List Nat) → Nat → Option (List Nat)
 | [], _ => none
 | (a, m) :: l, r => match Nat.beq a r with | true => some m | false => lkM l r
def extX (P : Program) (f : FuncId) (vs : List Value) : Option Value :=
 (qD P (callFunc f vs.toArray)).bind fun n => match n with
  | .value v => some v
  | _ => none
def mkCx (P : Program) (T : Tr TI) (F : Tr Func) (H : Tr (List (Nat × Nat × Nat))) (M : Tr (List (Nat × List Nat))) : Cx :=
 ⟨P, T.get, F.get, extX P, fun f => match H.get f with | some l => lkH l | none => fun _ _ => 0, fun f => match M.get f with | some l => lkM l | none => fun _ => none⟩
theorem mkOk {P : Program} {T : Tr TI} {F : Tr Func} {H : Tr (List (Nat × Nat × Nat))} {M : Tr (List (Nat × List Nat))} (hT : T.all (tokB P) = true) (hT2 : T.all (tok2B P) = true) (hF : F.AllP (FnP P)) (hm : P.follows .mixedOrders = true) :
  Ok (mkCx P T F H M) ∧ DstOk (mkCx P T F H M) := by
 refine ⟨⟨fun t ti h => tokB_ok (Tr.get_all hT h), fun t ti h => tok2_int (Tr.get_all hT2 h), fun t ti h => tok2_boo (Tr.get_all hT2 h), fun t ti h => tok2_ptr (Tr.get_all hT2 h), fun t ti h hk info z hi hz => tok2_zero (Tr.get_all hT2 h) hk hi hz, fun f fn h => (Tr.get_allP hF h).1, fun f fn h => ?_, fun f fn vs v h hb hX w => ?_, hm⟩, fun f fn b h hb => ?_⟩
 ·have := (Tr.get_allP hF h).2
  simp only [fnB, Bool.and_eq_true, Bool.not_eq_true'] at this
  exact this.1
 ·have hX : extX P f vs = some v := hX
  unfold extX at hX
  obtain ⟨n, hn, hX⟩ := bsm hX
  have hr := zY hn w
  split at hX
  ·cases hX; exact hr
  ·cases hX
 ·have := (Tr.get_allP hF h).2
  simp only [fnB, Bool.and_eq_true, hb] at this
  exact this.2
noncomputable def tyT : Tr TI := (.node 92 ⟨.tu, 2, 0, []⟩ (.node 45 ⟨(.st [(0, 3), (1, 3), (2, 22)]), 3, 40, [.int .i64 0, .int .i64 0, .slice none 0 0]⟩ (.node 30 ⟨.sc, 1, 4, [.int .u32 0]⟩ (.node 22 ⟨(.sl 30), 1, 24, [.slice none 0 0]⟩ (.node 4 ⟨.sc, 1, 1, [.bool false]⟩ (.node 2 ⟨.sc, 1, 8, [.int .i64 0]⟩ (.node 0 ⟨.tu, 0, 0, []⟩ .leaf .leaf) (.node 3 ⟨.sc, 1, 8, [.int .i64 0]⟩ .leaf .leaf)) (.node 9 ⟨.sc, 1, 16, [.string ⟨#[]⟩]⟩ (.node 5 ⟨.sc, 1, 1, [.int .u8 0]⟩ .leaf .leaf) .leaf)) (.node 26 ⟨(.sl 5), 1, 24, [.slice none 0 0]⟩ (.node 25 ⟨.ot, 1, 8, [.pointer none]⟩ (.node 24 ⟨(.sl 3), 1, 24, [.slice none 0 0]⟩ .leaf .leaf) .leaf) (.node 28 ⟨(.st [(0, 26)]), 1, 24, [.slice none 0 0]⟩ (.node 27 ⟨(.st [(0, 26)]), 1, 24, [.slice none 0 0]⟩ .leaf .leaf) .leaf))) (.node 39 ⟨.sc, 1, 1, [.int .u8 0]⟩ (.node 36 ⟨(.sl 136), 1, 24, [.slice none 0 0]⟩ (.node 35 ⟨(.sl 76), 1, 24, [.slice none 0 0]⟩ (.node 34 ⟨.sc, 1, 2, [.int .u16 0]⟩ .leaf .leaf) .leaf) (.node 38 ⟨(.st [(0, 5), (1, 5), (2, 5), (3, 34), (4, 4), (5, 35), (6, 36)]), 7, 56, [.int .u8 0, .int .u8 0, .int .u8 0, .int .u16 0, .bool false, .slice none 0 0, .slice none 0 0]⟩ (.node 37 ⟨(.st [(0, 5), (1, 5), (2, 5), (3, 34), (4, 4), (5, 35), (6, 36)]), 7, 56, [.int .u8 0, .int .u8 0, .int .u8 0, .int .u16 0, .bool false, .slice none 0 0, .slice none 0 0]⟩ .leaf .leaf) .leaf)) (.node 42 ⟨(.st [(0, 3), (1, 35)]), 2, 32, [.int .i64 0, .slice none 0 0]⟩ (.node 41 ⟨(.st [(0, 3), (1, 35)]), 2, 32, [.int .i64 0, .slice none 0 0]⟩ (.node 40 ⟨(.sl 30), 1, 24, [.slice none 0 0]⟩ .leaf .leaf) .leaf) (.node 44 ⟨(.st [(0, 3), (1, 26)]), 2, 32, [.int .i64 0, .slice none 0 0]⟩ (.node 43 ⟨(.st [(0, 3), (1, 26)]), 2, 32, [.int .i64 0, .slice none 0 0]⟩ .leaf .leaf) .leaf)))) (.node 58 ⟨.tu, 2, 0, []⟩ (.node 51 ⟨(.sl 50), 1, 24, [.slice none 0 0]⟩ (.node 48 ⟨(.st [(0, 3), (1, 3), (2, 22)]), 3, 40, [.int .i64 0, .int .i64 0, .slice none 0 0]⟩ (.node 47 ⟨(.st [(0, 3), (1, 3), (2, 22)]), 3, 40, [.int .i64 0, .int .i64 0, .slice none 0 0]⟩ (.node 46 ⟨(.st [(0, 3), (1, 3), (2, 22)]), 3, 40, [.int .i64 0, .int .i64 0, .slice none 0 0]⟩ .leaf .leaf) .leaf) (.node 50 ⟨.sc, 1, 8, [.float .f64 0]⟩ (.node 49 ⟨(.ar 6 30), 6, 24, [.int .u32 0, .int .u32 0, .int .u32 0, .int .u32 0, .int .u32 0, .int .u32 0]⟩ .leaf .leaf) .leaf)) (.node 54 ⟨(.st [(0, 39), (1, 40), (2, 42), (4, 44), (6, 46), (9, 48), (12, 53)]), 23, 256, [.int .u8 0, .slice none 0 0, .int .i64 0, .slice none 0 0, .int .i64 0, .slice none 0 0, .int .i64 0, .int .i64 0, .slice none 0 0, .int .i64 0, .int .i64 0, .slice none 0 0, .int .i64 0, .int .u32 0, .int .u32 0, .int .u32 0, .int .u32 0, .int .u32 0, .int .u32 0, .int .u32 0, .float .f64 0, .float .f64 0, .slice none 0 0]⟩ (.node 53 ⟨(.st [(0, 3), (1, 30), (2, 49), (8, 50), (9, 50), (10, 51)]), 11, 80, [.int .i64 0, .int .u32 0, .int .u32 0, .int .u32 0, .int .u32 0, .int .u32 0, .int .u32 0, .int .u32 0, .float .f64 0, .float .f64 0, .slice none 0 0]⟩ (.node 52 ⟨(.st [(0, 3), (1, 30), (2, 49), (8, 50), (9, 50), (10, 51)]), 11, 80, [.int .i64 0, .int .u32 0, .int .u32 0, .int .u32 0, .int .u32 0, .int .u32 0, .int .u32 0, .int .u32 0, .float .f64 0, .float .f64 0, .slice none 0 0]⟩ .leaf .leaf) .leaf) (.node 57 ⟨.sc, 1, 8, [.int .i64 0]⟩ (.node 55 ⟨(.st [(0, 39), (1, 40), (2, 42), (4, 44), (6, 46), (9, 48), (12, 53)]), 23, 256, [.int .u8 0, .slice none 0 0, .int .i64 0, .slice none 0 0, .int .i64 0, .slice none 0 0, .int .i64 0, .int .i64 0, .slice none 0 0, .int .i64 0, .int .i64 0, .slice none 0 0, .int .i64 0, .int .u32 0, .int .u32 0, .int .u32 0, .int .u32 0, .int .u32 0, .int .u32 0, .int .u32 0, .float .f64 0, .float .f64 0, .slice none 0 0]⟩ .leaf .leaf) .leaf))) (.node 80 ⟨.tu, 2, 0, []⟩ (.node 73 ⟨(.sl 26), 1, 24, [.slice none 0 0]⟩ (.node 68 ⟨.ot, 1, 8, [.pointer none]⟩ (.node 62 ⟨.tu, 2, 0, []⟩ .leaf .leaf) .leaf) (.node 79 ⟨.ot, 1, 8, [.nilFunc]⟩ (.node 76 ⟨.sc, 1, 8, [.int .u64 0]⟩ .leaf .leaf) .leaf)) (.node 87 ⟨(.st [(0, 76), (1, 30)]), 2, 16, [.int .u64 0, .int .u32 0]⟩ (.node 86 ⟨(.st [(0, 76), (1, 30)]), 2, 16, [.int .u64 0, .int .u32 0]⟩ (.node 85 ⟨(.sl 87), 1, 24, [.slice none 0 0]⟩ .leaf .leaf) .leaf) (.node 91 ⟨(.sl 141), 1, 24, [.slice none 0 0]⟩ (.node 90 ⟨(.sl 141), 1, 24, [.slice none 0 0]⟩ .leaf .leaf) .leaf))))) (.node 166 ⟨(.st [(0, 164), (1, 3), (2, 3), (3, 3), (4, 76), (5, 4)]), 6, 48, [.pointer none, .int .i64 0, .int .i64 0, .int .i64 0, .int .u64 0, .bool false]⟩ (.node 140 ⟨(.st [(0, 30), (1, 139)]), 5, 40, [.int .u32 0, .int .u64 0, .int .u64 0, .int .u64 0, .int .u64 0]⟩ (.node 129 ⟨.tu, 2, 0, []⟩ (.node 105 ⟨.ot, 1, 8, [.pointer none]⟩ (.node 100 ⟨(.st [(0, 3), (1, 30), (2, 3), (3, 26), (4, 26)]), 5, 72, [.int .i64 0, .int .u32 0, .int .i64 0, .slice none 0 0, .slice none 0 0]⟩ (.node 99 ⟨(.st [(0, 3), (1, 30), (2, 3), (3, 26), (4, 26)]), 5, 72, [.int .i64 0, .int .u32 0, .int .i64 0, .slice none 0 0, .slice none 0 0]⟩ .leaf .leaf) (.node 101 ⟨.tu, 2, 0, []⟩ .leaf .leaf)) (.node 122 ⟨(.st [(0, 3), (1, 3)]), 2, 16, [.int .i64 0, .int .i64 0]⟩ (.node 121 ⟨(.st [(0, 3), (1, 3)]), 2, 16, [.int .i64 0, .int .i64 0]⟩ .leaf .leaf) .leaf)) (.node 135 ⟨(.st [(0, 76), (1, 5)]), 2, 16, [.int .u64 0, .int .u8 0]⟩ (.node 133 ⟨.tu, 2, 0, []⟩ (.node 131 ⟨.tu, 2, 0, []⟩ .leaf .leaf) .leaf) (.node 139 ⟨(.ar 4 76), 4, 32, [.int .u64 0, .int .u64 0, .int .u64 0, .int .u64 0]⟩ (.node 136 ⟨(.st [(0, 76), (1, 5)]), 2, 16, [.int .u64 0, .int .u8 0]⟩ .leaf .leaf) .leaf))) (.node 155 ⟨(.st [(0, 26), (1, 3), (2, 57)]), 3, 40, [.slice none 0 0, .int .i64 0, .int .i64 0]⟩ (.node 145 ⟨(.st [(0, 26), (1, 3)]), 2, 32, [.slice none 0 0, .int .i64 0]⟩ (.node 144 ⟨.ot, 1, 8, [.pointer none]⟩ (.node 141 ⟨(.st [(0, 30), (1, 139)]), 5, 40, [.int .u32 0, .int .u64 0, .int .u64 0, .int .u64 0, .int .u64 0]⟩ .leaf .leaf) .leaf) (.node 150 ⟨.ot, 1, 8, [.pointer none]⟩ (.node 146 ⟨(.st [(0, 26), (1, 3)]), 2, 32, [.slice none 0 0, .int .i64 0]⟩ .leaf .leaf) .leaf)) (.node 162 ⟨.tu, 2, 0, []⟩ (.node 160 ⟨.ot, 1, 8, [.pointer none]⟩ (.node 156 ⟨(.st [(0, 26), (1, 3), (2, 57)]), 3, 40, [.slice none 0 0, .int .i64 0, .int .i64 0]⟩ .leaf .leaf) .leaf) (.node 165 ⟨(.st [(0, 164), (1, 3), (2, 3), (3, 3), (4, 76), (5, 4)]), 6, 48, [.pointer none, .int .i64 0, .int .i64 0, .int .i64 0, .int .u64 0, .bool false]⟩ (.node 164 ⟨.ot, 1, 8, [.pointer none]⟩ .leaf .leaf) .leaf)))) (.node 215 ⟨(.st [(0, 100), (5, 164), (6, 164), (7, 3), (8, 30)]), 9, 104, [.int .i64 0, .int .u32 0, .int .i64 0, .slice none 0 0, .slice none 0 0, .pointer none, .pointer none, .int .i64 0, .int .u32 0]⟩ (.node 200 ⟨.tu, 2, 0, []⟩ (.node 187 ⟨.tu, 2, 0, []⟩ (.node 172 ⟨.tu, 2, 0, []⟩ (.node 170 ⟨.ot, 1, 8, [.pointer none]⟩ .leaf .leaf) .leaf) (.node 198 ⟨.sc, 1, 1, [.int .u8 0]⟩ (.node 197 ⟨.ot, 1, 8, [.pointer none]⟩ .leaf .leaf) .leaf)) (.node 205 ⟨(.st [(0, 202), (1, 76), (2, 30), (3, 3), (4, 5), (5, 4), (6, 26), (7, 3)]), 8, 72, [.pointer none, .int .u64 0, .int .u32 0, .int .i64 0, .int .u8 0, .bool false, .slice none 0 0, .int .i64 0]⟩ (.node 204 ⟨(.st [(0, 202), (1, 76), (2, 30), (3, 3), (4, 5), (5, 4), (6, 26), (7, 3)]), 8, 72, [.pointer none, .int .u64 0, .int .u32 0, .int .i64 0, .int .u8 0, .bool false, .slice none 0 0, .int .i64 0]⟩ (.node 202 ⟨.ot, 1, 8, [.pointer none]⟩ .leaf .leaf) .leaf) (.node 213 ⟨.ot, 1, 8, [.pointer none]⟩ (.node 206 ⟨.tu, 2, 0, []⟩ .leaf .leaf) .leaf))) (.node 234 ⟨(.st [(0, 24), (1, 3)]), 2, 32, [.slice none 0 0, .int .i64 0]⟩ (.node 223 ⟨(.st [(0, 24)]), 1, 24, [.slice none 0 0]⟩ (.node 217 ⟨.tu, 2, 0, []⟩ (.node 216 ⟨(.st [(0, 100), (5, 164), (6, 164), (7, 3), (8, 30)]), 9, 104, [.int .i64 0, .int .u32 0, .int .i64 0, .slice none 0 0, .slice none 0 0, .pointer none, .pointer none, .int .i64 0, .int .u32 0]⟩ .leaf .leaf) .leaf) (.node 232 ⟨.sc, 1, 1, [.int .u8 0]⟩ (.node 224 ⟨(.st [(0, 24)]), 1, 24, [.slice none 0 0]⟩ .leaf .leaf) .leaf)) (.node 237 ⟨(.st [(0, 26), (1, 3), (2, 4)]), 3, 40, [.slice none 0 0, .int .i64 0, .bool false]⟩ (.node 236 ⟨(.st [(0, 26), (1, 3), (2, 4)]), 3, 40, [.slice none 0 0, .int .i64 0, .bool false]⟩ (.node 235 ⟨(.st [(0, 24), (1, 3)]), 2, 32, [.slice none 0 0, .int .i64 0]⟩ .leaf .leaf) .leaf) (.node 240 ⟨(.st [(0, 202), (1, 105), (2, 30), (3, 30)]), 4, 24, [.pointer none, .pointer none, .int .u32 0, .int .u32 0]⟩ (.node 239 ⟨(.st [(0, 202), (1, 105), (2, 30), (3, 30)]), 4, 24, [.pointer none, .pointer none, .int .u32 0, .int .u32 0]⟩ .leaf .leaf) .leaf))))))
noncomputable def fnT : Tr Func := (.node 95 Tryz.f95 (.node 49 Tryz.f49 (.node 27 Tryz.f27 (.node 15 Tryz.f15 (.node 8 Tryz.f8 (.node 5 Tryz.f5 (.node 4 Tryz.f4 (.node 3 Tryz.f3 .leaf .leaf) .leaf) (.node 7 Tryz.f7 (.node 6 Tryz.f6 .leaf .leaf) .leaf)) (.node 12 Tryz.f12 (.node 11 Tryz.f11 (.node 10 Tryz.f10 .leaf .leaf) .leaf) (.node 14 Tryz.f14 (.node 13 Tryz.f13 .leaf .leaf) .leaf))) (.node 21 Tryz.f21 (.node 18 Tryz.f18 (.node 17 Tryz.f17 (.node 16 Tryz.f16 .leaf .leaf) .leaf) (.node 20 Tryz.f20 (.node 19 Tryz.f19 .leaf .leaf) .leaf)) (.node 25 Tryz.f25 (.node 23 Tryz.f23 (.node 22 Tryz.f22 .leaf .leaf) .leaf) (.node 26 Tryz.f26 .leaf .leaf)))) (.node 38 Tryz.f38 (.node 33 Tryz.f33 (.node 30 Tryz.f30 (.node 29 Tryz.f29 (.node 28 Tryz.f28 .leaf .leaf) .leaf) (.node 32 Tryz.f32 (.node 31 Tryz.f31 .leaf .leaf) .leaf)) (.node 36 Tryz.f36 (.node 35 Tryz.f35 (.node 34 Tryz.f34 .leaf .leaf) .leaf) (.node 37 Tryz.f37 .leaf .leaf))) (.node 44 Tryz.f44 (.node 41 Tryz.f41 (.node 40 Tryz.f40 (.node 39 Tryz.f39 .leaf .leaf) .leaf) (.node 43 Tryz.f43 (.node 42 Tryz.f42 .leaf .leaf) .leaf)) (.node 47 Tryz.f47 (.node 46 Tryz.f46 (.node 45 Tryz.f45 .leaf .leaf) .leaf) (.node 48 Tryz.f48 .leaf .leaf))))) (.node 73 Tryz.f73 (.node 61 Tryz.f61 (.node 55 Tryz.f55 (.node 52 Tryz.f52 (.node 51 Tryz.f51 (.node 50 Tryz.f50 .leaf .leaf) .leaf) (.node 54 Tryz.f54 (.node 53 Tryz.f53 .leaf .leaf) .leaf)) (.node 58 Tryz.f58 (.node 57 Tryz.f57 (.node 56 Tryz.f56 .leaf .leaf) .leaf) (.node 60 Tryz.f60 (.node 59 Tryz.f59 .leaf .leaf) .leaf))) (.node 67 Tryz.f67 (.node 64 Tryz.f64 (.node 63 Tryz.f63 (.node 62 Tryz.f62 .leaf .leaf) .leaf) (.node 66 Tryz.f66 (.node 65 Tryz.f65 .leaf .leaf) .leaf)) (.node 71 Tryz.f71 (.node 70 Tryz.f70 (.node 69 Tryz.f69 .leaf .leaf) .leaf) (.node 72 Tryz.f72 .leaf .leaf)))) (.node 84 Tryz.f84 (.node 79 Tryz.f79 (.node 76 Tryz.f76 (.node 75 Tryz.f75 (.node 74 Tryz.f74 .leaf .leaf) .leaf) (.node 78 Tryz.f78 (.node 77 Tryz.f77 .leaf .leaf) .leaf)) (.node 82 Tryz.f82 (.node 81 Tryz.f81 (.node 80 Tryz.f80 .leaf .leaf) .leaf) (.node 83 Tryz.f83 .leaf .leaf))) (.node 90 Tryz.f90 (.node 87 Tryz.f87 (.node 86 Tryz.f86 (.node 85 Tryz.f85 .leaf .leaf) .leaf) (.node 89 Tryz.f89 (.node 88 Tryz.f88 .leaf .leaf) .leaf)) (.node 93 Tryz.f93 (.node 92 Tryz.f92 (.node 91 Tryz.f91 .leaf .leaf) .leaf) (.node 94 Tryz.f94 .leaf .leaf)))))) (.node 140 Tryz.f140 (.node 118 Tryz.f118 (.node 107 Tryz.f107 (.node 101 Tryz.f101 (.node 98 Tryz.f98 (.node 97 Tryz.f97 (.node 96 Tryz.f96 .leaf .leaf) .leaf) (.node 100 Tryz.f100 (.node 99 Tryz.f99 .leaf .leaf) .leaf)) (.node 104 Tryz.f104 (.node 103 Tryz.f103 (.node 102 Tryz.f102 .leaf .leaf) .leaf) (.node 106 Tryz.f106 (.node 105 Tryz.f105 .leaf .leaf) .leaf))) (.node 113 Tryz.f113 (.node 110 Tryz.f110 (.node 109 Tryz.f109 (.node 108 Tryz.f108 .leaf .leaf) .leaf) (.node 112 Tryz.f112 (.node 111 Tryz.f111 .leaf .leaf) .leaf)) (.node 116 Tryz.f116 (.node 115 Tryz.f115 (.node 114 Tryz.f114 .leaf .leaf) .leaf) (.node 117 Tryz.f117 .leaf .leaf)))) (.node 129 Tryz.f129 (.node 124 Tryz.f124 (.node 121 Tryz.f121 (.node 120 Tryz.f120 (.node 119 Tryz.f119 .leaf .leaf) .leaf) (.node 123 Tryz.f123 (.node 122 Tryz.f122 .leaf .leaf) .leaf)) (.node 127 Tryz.f127 (.node 126 Tryz.f126 (.node 125 Tryz.f125 .leaf .leaf) .leaf) (.node 128 Tryz.f128 .leaf .leaf))) (.node 135 Tryz.f135 (.node 132 Tryz.f132 (.node 131 Tryz.f131 (.node 130 Tryz.f130 .leaf .leaf) .leaf) (.node 134 Tryz.f134 (.node 133 Tryz.f133 .leaf .leaf) .leaf)) (.node 138 Tryz.f138 (.node 137 Tryz.f137 (.node 136 Tryz.f136 .leaf .leaf) .leaf) (.node 139 Tryz.f139 .leaf .leaf))))) (.node 162 Tryz.f162 (.node 151 Tryz.f151 (.node 146 Tryz.f146 (.node 143 Tryz.f143 (.node 142 Tryz.f142 (.node 141 Tryz.f141 .leaf .leaf) .leaf) (.node 145 Tryz.f145 (.node 144 Tryz.f144 .leaf .leaf) .leaf)) (.node 149 Tryz.f149 (.node 148 Tryz.f148 (.node 147 Tryz.f147 .leaf .leaf) .leaf) (.node 150 Tryz.f150 .leaf .leaf))) (.node 157 Tryz.f157 (.node 154 Tryz.f154 (.node 153 Tryz.f153 (.node 152 Tryz.f152 .leaf .leaf) .leaf) (.node 156 Tryz.f156 (.node 155 Tryz.f155 .leaf .leaf) .leaf)) (.node 160 Tryz.f160 (.node 159 Tryz.f159 (.node 158 Tryz.f158 .leaf .leaf) .leaf) (.node 161 Tryz.f161 .leaf .leaf)))) (.node 173 Tryz.f173 (.node 168 Tryz.f168 (.node 165 Tryz.f165 (.node 164 Tryz.f164 (.node 163 Tryz.f163 .leaf .leaf) .leaf) (.node 167 Tryz.f167 (.node 166 Tryz.f166 .leaf .leaf) .leaf)) (.node 171 Tryz.f171 (.node 170 Tryz.f170 (.node 169 Tryz.f169 .leaf .leaf) .leaf) (.node 172 Tryz.f172 .leaf .leaf))) (.node 179 Tryz.f179 (.node 176 Tryz.f176 (.node 175 Tryz.f175 (.node 174 Tryz.f174 .leaf .leaf) .leaf) (.node 178 Tryz.f178 (.node 177 Tryz.f177 .leaf .leaf) .leaf)) (.node 182 Tryz.f182 (.node 181 Tryz.f181 (.node 180 Tryz.f180 .leaf .leaf) .leaf) (.node 183 Tryz.f183 .leaf .leaf)))))))
def hlT : Tr (List (Nat × Nat × Nat)) := (.node 81 [(2, 4, 2), (3, 2, 2), (5, 5, 2), (13, 8, 2), (15, 5, 2), (20, 3, 2), (26, 11, 2)] (.node 36 [(1, 4, 1)] (.node 23 [(15, 2, 2)] (.node 11 [(6, 5, 2)] (.node 7 [(7, 2, 2), (8, 4, 2), (15, 3, 2), (15, 5, 1), (15, 6, 1), (16, 5, 2)] (.node 4 [(12, 1, 1)] (.node 3 [(8, 1, 2), (8, 3, 2), (9, 3, 2), (16, 6, 2), (18, 1, 2), (18, 4, 2)] .leaf .leaf) (.node 5 [(7, 3, 2)] .leaf .leaf)) (.node 10 [(2, 1, 2)] (.node 8 [(9, 2, 2), (10, 6, 2), (10, 10, 2), (11, 1, 3), (17, 0, 2), (18, 3, 2), (19, 4, 2), (19, 18, 2)] .leaf .leaf) .leaf)) (.node 16 [(4, 1, 2), (8, 2, 2), (10, 5, 2), (12, 2, 2), (14, 5, 2), (16, 2, 2), (18, 5, 2), (19, 5, 2), (21, 2, 2), (23, 5, 2), (24, 5, 2), (25, 7, 2), (27, 3, 2), (28, 1, 2)] (.node 15 [(9, 0, 1), (14, 0, 1), (32, 0, 1), (35, 0, 1)] (.node 12 [(0, 8, 2)] .leaf .leaf) .leaf) (.node 20 [(1, 3, 2)] (.node 17 [(5, 4, 2), (8, 1, 2), (12, 1, 2), (14, 1, 2), (14, 4, 2), (16, 1, 2), (18, 1, 2), (18, 4, 2), (19, 1, 2), (21, 1, 2), (23, 1, 2), (24, 1, 2), (30, 0, 1)] .leaf .leaf) .leaf))) (.node 30 [(1, 8, 2), (5, 5, 2), (7, 0, 3)] (.node 27 [(9, 0, 1)] (.node 26 [(7, 0, 1)] (.node 25 [(2, 4, 2), (3, 3, 2)] .leaf .leaf) .leaf) (.node 29 [(7, 0, 1)] (.node 28 [(7, 0, 1)] .leaf .leaf) .leaf)) (.node 33 [(0, 4, 2), (4, 2, 2)] (.node 32 [(10, 6, 2), (11, 5, 2), (12, 4, 2), (12, 7, 2), (14, 0, 3)] (.node 31 [(7, 0, 1)] .leaf .leaf) .leaf) (.node 35 [(1, 4, 1)] (.node 34 [(5, 1, 2), (10, 5, 2), (11, 3, 2), (13, 1, 2), (14, 4, 2), (15, 3, 2), (16, 2, 2), (16, 5, 2), (17, 2, 2), (17, 3, 2), (18, 1, 2)] .leaf .leaf) .leaf)))) (.node 50 [(2, 1, 2), (3, 1, 2), (5, 1, 2), (6, 0, 1), (7, 0, 1)] (.node 44 [(9, 0, 1), (12, 0, 1)] (.node 40 [(2, 4, 2), (3, 4, 4), (7, 3, 4), (9, 4, 4), (10, 4, 4), (11, 5, 2), (16, 5, 2)] (.node 38 [(5, 0, 1), (8, 1, 2), (8, 3, 2), (15, 5, 2), (16, 8, 2), (19, 1, 2), (19, 3, 2), (20, 0, 1)] (.node 37 [(3, 1, 2), (7, 3, 2), (10, 1, 2)] .leaf .leaf) (.node 39 [(1, 4, 2), (2, 4, 2), (3, 3, 2), (4, 5, 2), (5, 3, 2)] .leaf .leaf)) (.node 43 [(3, 1, 2), (5, 5, 2), (7, 1, 2), (9, 4, 2), (10, 1, 2), (13, 1, 2), (14, 0, 1), (15, 1, 2), (17, 0, 1)] (.node 42 [(1, 2, 2)] .leaf .leaf) .leaf)) (.node 47 [(1, 1, 2), (3, 1, 2), (4, 0, 1), (5, 5, 2), (5, 6, 2), (5, 9, 1), (5, 10, 1), (7, 2, 2), (9, 0, 1)] (.node 46 [(1, 1, 2), (3, 1, 2), (5, 0, 1), (6, 1, 2), (8, 2, 2), (9, 1, 2), (10, 1, 2), (11, 1, 2), (13, 0, 1)] (.node 45 [(4, 1, 2), (6, 1, 2), (7, 1, 2), (12, 1, 2)] .leaf .leaf) .leaf) (.node 49 [(1, 1, 2), (1, 4, 2), (3, 8, 2), (4, 2, 2), (4, 4, 2), (5, 1, 2), (10, 1, 2), (12, 0, 1)] (.node 48 [(1, 1, 2), (2, 1, 2)] .leaf .leaf) .leaf))) (.node 61 [(15, 0, 1)] (.node 53 [(3, 1, 2)] (.node 52 [(1, 1, 2), (1, 4, 2), (5, 2, 2), (7, 2, 2), (7, 3, 2), (8, 2, 2), (8, 3, 2), (10, 1, 2), (12, 1, 2), (14, 1, 2), (16, 1, 1), (16, 4, 2), (18, 0, 1)] (.node 51 [(1, 1, 2), (1, 4, 2), (1, 6, 2), (3, 1, 2), (4, 0, 3), (11, 1, 2), (14, 1, 2), (16, 1, 2), (17, 5, 2), (19, 0, 3)] .leaf .leaf) .leaf) (.node 59 [(5, 0, 1), (6, 0, 1), (7, 0, 1), (8, 0, 1), (14, 0, 1), (16, 0, 1)] (.node 58 [(8, 0, 1), (9, 0, 1)] .leaf .leaf) .leaf)) (.node 72 [(1, 7, 2), (2, 1, 2), (6, 7, 2), (7, 6, 2), (7, 10, 2), (9, 0, 3)] (.node 71 [(7, 0, 1)] (.node 70 [(1, 5, 2), (4, 6, 2), (4, 10, 2), (5, 0, 3)] .leaf .leaf) .leaf) (.node 76 [(3, 5, 2)] (.node 73 [(6, 6, 2), (8, 2, 2), (11, 2, 2), (12, 3, 2), (12, 6, 2), (12, 7, 2), (13, 3, 2), (15, 0, 3)] .leaf .leaf) .leaf))))) (.node 131 [(10, 1, 1), (11, 1, 1), (12, 0, 1)] (.node 105 [(1, 3, 2), (1, 6, 2), (1, 8, 2)] (.node 94 [(1, 1, 2), (1, 4, 2), (2, 1, 2), (4, 1, 2), (6, 1, 2), (8, 1, 2), (14, 1, 2), (15, 1, 2), (16, 1, 2), (17, 1, 2), (19, 0, 1)] (.node 88 [(1, 1, 2), (1, 3, 2)] (.node 86 [(5, 6, 2), (7, 9, 2), (7, 18, 2)] (.node 85 [(2, 1, 2), (3, 1, 2)] .leaf .leaf) (.node 87 [(3, 5, 2), (3, 6, 3)] .leaf .leaf)) (.node 90 [(3, 3, 2), (7, 0, 2), (9, 1, 1)] (.node 89 [(3, 5, 2), (6, 8, 2), (11, 1, 2), (12, 5, 2)] .leaf .leaf) .leaf)) (.node 100 [(7, 4, 2)] (.node 99 [(1, 1, 2), (3, 4, 2), (4, 8, 2), (9, 4, 2)] (.node 98 [(1, 1, 2), (1, 4, 2), (1, 7, 2), (2, 2, 2), (2, 4, 2), (4, 1, 2), (5, 1, 2), (6, 1, 2), (7, 2, 2)] .leaf .leaf) .leaf) (.node 102 [(1, 5, 2), (2, 1, 2)] (.node 101 [(3, 1, 2), (4, 2, 2), (8, 1, 2), (10, 0, 1), (12, 1, 2), (13, 1, 2), (17, 0, 1)] .leaf .leaf) .leaf))) (.node 111 [(7, 0, 1), (10, 0, 1)] (.node 108 [(3, 1, 2)] (.node 107 [(1, 1, 2)] (.node 106 [(3, 21, 2), (4, 19, 2), (5, 4, 2), (5, 10, 2)] .leaf .leaf) .leaf) (.node 110 [(3, 0, 1), (5, 0, 1)] (.node 109 [(8, 0, 1), (10, 0, 1)] .leaf .leaf) .leaf)) (.node 124 [(4, 1, 1), (6, 1, 1), (8, 1, 1), (9, 0, 1)] (.node 113 [(13, 0, 1), (14, 0, 1), (17, 0, 1), (19, 0, 1)] (.node 112 [(1, 1, 2), (2, 0, 2), (8, 2, 2), (9, 4, 2), (9, 7, 2), (10, 4, 2), (13, 2, 2), (14, 2, 2), (15, 0, 3)] .leaf .leaf) .leaf) (.node 127 [(4, 1, 1), (6, 1, 1), (8, 1, 1), (9, 0, 1)] (.node 126 [(3, 0, 1), (7, 0, 1), (10, 0, 1)] .leaf .leaf) .leaf)))) (.node 156 [(4, 0, 2), (9, 0, 1), (10, 12, 2), (10, 21, 2), (12, 4, 2), (12, 7, 2), (13, 7, 2), (17, 6, 2), (17, 8, 2), (17, 9, 3), (19, 2, 2), (19, 4, 2), (19, 5, 3), (20, 5, 2), (20, 7, 2), (20, 8, 3)] (.node 145 [(1, 1, 2), (3, 1, 2), (3, 4, 2), (4, 1, 2), (6, 1, 2), (10, 3, 2)] (.node 140 [(3, 4, 1), (6, 4, 1)] (.node 137 [(1, 1, 2), (4, 6, 2)] (.node 132 [(7, 0, 1)] .leaf .leaf) (.node 138 [(1, 5, 2), (4, 5, 2), (6, 0, 2), (9, 6, 2)] .leaf .leaf)) (.node 144 [(1, 1, 2), (3, 1, 2), (4, 1, 2), (6, 1, 2), (7, 3, 2)] (.node 141 [(0, 5, 2), (1, 5, 2), (1, 8, 2), (7, 1, 2), (8, 8, 2), (9, 9, 2)] .leaf .leaf) .leaf)) (.node 150 [(4, 3, 2), (6, 1, 2)] (.node 149 [(2, 1, 2), (5, 1, 2), (6, 1, 2)] (.node 147 [(1, 2, 2)] .leaf .leaf) .leaf) (.node 154 [(1, 7, 2), (3, 8, 2), (4, 11, 2), (6, 4, 2), (8, 5, 2), (13, 10, 2), (14, 4, 2), (16, 5, 2)] (.node 153 [(1, 1, 2), (1, 4, 2), (1, 6, 2)] .leaf .leaf) .leaf))) (.node 163 [(5, 4, 2)] (.node 160 [(5, 1, 2), (9, 5, 2), (11, 0, 3)] (.node 159 [(5, 0, 1), (6, 0, 1)] (.node 158 [(6, 0, 1), (7, 0, 1), (8, 0, 1)] .leaf .leaf) .leaf) (.node 162 [(5, 3, 2), (6, 0, 1)] (.node 161 [(1, 4, 2), (5, 6, 2), (5, 17, 2), (6, 0, 3)] .leaf .leaf) .leaf)) (.node 166 [(1, 3, 2), (2, 6, 2), (2, 9, 2), (3, 1, 2), (7, 6, 2), (7, 10, 2), (8, 0, 1)] (.node 165 [(5, 4, 2)] (.node 164 [(5, 2, 2), (6, 5, 2), (8, 0, 1)] .leaf .leaf) .leaf) (.node 179 [(1, 5, 2), (4, 6, 2), (6, 6, 2)] (.node 178 [(4, 3, 2)] .leaf .leaf) .leaf))))))
def mlT : Tr (List (Nat × List Nat)) := (.node 95 [(1, [0, 1])] (.node 51 [(7, [0, 2, 3, 5, 26, 27]), (11, [0, 2, 3, 5, 6, 26, 27]), (14, [0, 2, 3, 5, 6, 26, 27]), (15, [0, 2, 3, 6, 8, 26, 27]), (16, [0, 2, 3, 5, 6, 26, 27]), (19, [2, 3])] (.node 30 [(3, [6, 7, 23, 24, 25])] (.node 16 [(28, [5])] (.node 7 [(12, [1, 2, 7, 10, 12, 13])] (.node 4 [(10, [1, 7, 8, 9, 10, 30, 31])] (.node 3 [(6, [1, 24, 25, 26]), (11, [1, 8, 9, 10, 24, 25, 26, 38, 39, 40]), (16, [1, 8, 9, 10, 12, 13, 24, 25, 26, 38, 39, 40])] .leaf .leaf) (.node 6 [(4, []), (5, [2, 3, 4]), (8, [3, 4])] .leaf .leaf)) (.node 11 [(2, [0, 1, 6, 9, 10, 11]), (6, [0, 1, 6, 8, 9, 10, 11])] (.node 8 [(4, []), (5, [1, 2, 3, 4, 5]), (12, [1, 11, 72, 73, 74]), (16, [1, 11, 16, 72, 73, 74]), (17, [1, 11, 16, 17, 72, 73, 74]), (20, []), (21, [1, 11, 16, 17, 19, 20, 72, 73, 74]), (26, []), (27, [1, 11, 72, 73, 74])] .leaf .leaf) (.node 15 [(7, [1, 2, 3, 4, 27, 28, 29]), (12, [1, 2, 3, 4, 6, 27, 28, 29, 42, 43]), (16, [1, 2, 3, 4, 27, 28, 29]), (27, [1, 2, 3, 8, 93, 94, 95]), (32, [1, 2, 3, 8, 10, 11, 93, 94, 95]), (35, [2, 3])] .leaf .leaf))) (.node 27 [(3, [2, 6, 7, 15, 16, 17]), (7, [2, 6, 7, 9, 15, 16, 17])] (.node 25 [(0, [0, 1])] (.node 17 [(24, [6, 9, 10])] .leaf .leaf) (.node 26 [(3, [1, 6, 9, 10, 11]), (7, [1, 6, 8, 9, 10, 11])] .leaf .leaf)) (.node 29 [(3, [6, 7, 19, 20, 21])] (.node 28 [(3, [4, 5, 17, 18, 19])] .leaf .leaf) .leaf))) (.node 43 [(5, [0, 3, 4, 5, 6]), (7, [0, 3, 4, 5, 6]), (10, [0, 3, 4, 5, 6, 7]), (11, [0, 3, 4, 5, 6, 7]), (14, [0, 3, 4, 5, 6, 7]), (15, [0, 3])] (.node 34 [(7, [0, 5, 6, 20, 21])] (.node 32 [(5, [0, 4, 11, 12, 13]), (8, []), (9, [0, 4, 6, 11, 12, 13]), (11, [0, 4, 6, 11, 12, 13]), (12, [0, 4, 6, 11, 12, 13])] (.node 31 [(3, [4, 5, 17, 18, 19])] .leaf .leaf) (.node 33 [(2, [1, 11, 12, 13])] .leaf .leaf)) (.node 38 [(11, [0, 2, 4, 5, 6, 7, 38, 39, 40]), (14, [2]), (15, [0, 2, 4, 5, 6, 7, 9, 38, 39, 40])] (.node 37 [(2, []), (3, [0, 1]), (5, [6, 17, 18, 19])] .leaf .leaf) (.node 40 [(5, [0, 3, 4, 23, 24]), (14, [0, 7, 49, 50, 51])] .leaf .leaf))) (.node 47 [(8, [2, 3, 5])] (.node 45 [(4, [0, 1, 5, 6]), (6, [0, 1, 5, 6, 7]), (7, [0, 1, 5, 6, 7])] (.node 44 [(3, [3, 7, 8, 9]), (6, [3, 5, 7, 8, 9, 13]), (10, [3, 5, 7, 8, 9, 13])] .leaf .leaf) (.node 46 [(3, [0, 3, 4]), (9, [0, 3, 4]), (10, [0, 4]), (11, [0, 4])] .leaf .leaf)) (.node 50 [(4, [3, 4, 5, 6])] (.node 49 [(10, [0, 2]), (12, [2, 3])] .leaf .leaf) .leaf)))) (.node 73 [(3, [4, 8, 9, 10]), (6, [4, 6, 7, 8, 9, 10]), (7, [4, 6, 7, 8, 9, 10]), (9, [4, 6, 7, 8, 9, 10]), (14, [4, 8, 9, 10])] (.node 64 [(2, []), (3, [1]), (6, [1, 23, 24, 25])] (.node 59 [(3, [3, 4, 5, 8, 13, 14]), (11, [5, 13, 15, 16])] (.node 53 [(2, []), (3, [0])] (.node 52 [(3, [0, 2, 3, 14]), (11, [0, 2, 3, 5, 37, 38]), (15, [0, 2, 3, 5, 6, 37, 38])] .leaf .leaf) (.node 58 [(3, [1, 2, 7, 8]), (8, [1, 2, 7, 8, 9])] .leaf .leaf)) (.node 62 [(4, [0, 3])] (.node 61 [(15, [2, 3])] .leaf .leaf) (.node 63 [(2, []), (3, [1])] .leaf .leaf))) (.node 70 [(5, [4, 5])] (.node 66 [(2, []), (3, [1])] (.node 65 [(2, []), (3, [1]), (4, [1, 24, 25, 26]), (9, []), (10, [1, 24, 25, 26])] .leaf .leaf) (.node 67 [(2, []), (3, [1]), (4, [1, 22, 23, 24]), (7, []), (8, [1, 22, 23, 24]), (10, []), (11, [])] .leaf .leaf)) (.node 72 [(4, [1, 2, 3, 6, 7, 23, 24]), (9, [6, 7])] (.node 71 [(3, [2, 4, 5, 11, 12, 13])] .leaf .leaf) .leaf))) (.node 85 [(0, [0, 1])] (.node 81 [(7, [1, 2, 7]), (8, [1, 2, 7]), (11, [1, 2, 7, 8]), (12, [1, 2, 7, 8]), (13, [1, 2, 7, 8]), (17, [1, 2, 64]), (21, [1, 2, 64]), (24, [1, 2, 78])] (.node 76 [(2, [4]), (3, [0, 1, 4])] (.node 74 [(2, [2]), (3, [0, 2])] .leaf .leaf) (.node 77 [(2, [2]), (3, [0, 2])] .leaf .leaf)) (.node 83 [(3, [0, 3, 4, 8]), (7, [0, 5, 6, 8]), (8, [0, 3, 4, 8])] (.node 82 [(4, [0, 3])] .leaf .leaf) .leaf)) (.node 91 [(2, [0, 1, 5]), (3, [0, 1, 5]), (4, [5])] (.node 89 [(9, [0, 1])] (.node 86 [(2, [0, 1, 6]), (6, [0, 1, 6]), (8, [0, 1, 6])] .leaf .leaf) (.node 90 [(6, [3, 16])] .leaf .leaf)) (.node 94 [(9, [0, 2, 3, 4, 23, 24, 25]), (15, [0, 2, 3, 4]), (16, [0, 2, 3]), (17, [0, 2, 3])] (.node 92 [(7, [3])] .leaf .leaf) .leaf))))) (.node 137 [(3, [3, 8, 9])] (.node 116 [(4, [0, 1, 12, 13])] (.node 106 [(2, []), (3, [0]), (6, [0]), (8, [0, 4])] (.node 100 [(4, []), (5, [0])] (.node 98 [(5, [0, 3, 4])] (.node 96 [(3, [3, 7, 8])] .leaf .leaf) (.node 99 [(9, [0, 4, 7]), (10, [0]), (12, [0, 7])] .leaf .leaf)) (.node 102 [(2, [0]), (4, [0, 1])] (.node 101 [(2, []), (3, [0, 1, 2]), (7, [0, 2, 8, 9, 10, 33, 34]), (12, [0, 2, 8, 10])] .leaf .leaf) (.node 103 [(2, []), (3, [0])] .leaf .leaf))) (.node 111 [(5, [0, 3, 4, 5, 6])] (.node 109 [(4, [0, 3, 4, 5]), (7, [0, 3, 4, 5, 6, 7]), (8, [0, 3, 4, 5, 6, 7]), (10, [0, 3, 4, 5, 6, 7])] (.node 108 [(4, [5])] .leaf .leaf) (.node 110 [(2, [0, 3])] .leaf .leaf)) (.node 113 [(5, [0, 3, 4]), (6, [0, 3, 4, 5]), (7, [0, 3, 4, 5]), (8, [0, 3, 4, 5]), (11, [0, 3, 4, 5, 6, 7, 8, 9])] (.node 112 [(5, [1, 5, 6, 7, 8]), (11, [1, 5, 6, 7, 8, 9])] .leaf .leaf) .leaf))) (.node 130 [(5, [3])] (.node 121 [(2, []), (3, [2, 3]), (4, [2, 3, 52, 53])] (.node 119 [(2, []), (3, [2, 3]), (4, [2, 3, 29, 30])] (.node 117 [(2, []), (3, [2, 3]), (4, [2, 3, 22, 23])] .leaf .leaf) (.node 120 [(2, []), (3, [2, 3]), (4, [2, 3, 29, 30])] .leaf .leaf)) (.node 126 [(6, [2, 5, 6, 7, 19, 20])] (.node 124 [(3, [2, 4, 5, 6, 7]), (4, [2, 4, 5, 6, 7]), (5, [2, 4, 5, 6, 7]), (6, [2, 4, 5, 6, 7]), (7, [2, 4, 5, 6, 7]), (8, [2, 4, 5, 6, 7]), (9, [4, 5])] .leaf .leaf) (.node 127 [(3, [4, 5, 6, 7]), (4, [4, 5, 6, 7]), (6, [4, 5, 6, 7]), (7, [4, 5, 6, 7]), (8, [4, 5, 6, 7])] .leaf .leaf))) (.node 134 [(3, []), (4, [4])] (.node 132 [(5, [1, 4, 5])] (.node 131 [(3, [2, 3, 4, 5, 27]), (8, [2, 4, 5, 7, 8]), (9, [2, 4, 5, 7, 8]), (10, [2, 4, 5, 7, 8]), (11, [2, 4, 5, 7, 8]), (12, [4, 5])] .leaf .leaf) (.node 133 [(10, [0]), (11, [0])] .leaf .leaf)) (.node 136 [(3, [0, 1, 6, 10, 11])] (.node 135 [(4, [1, 3, 4, 7]), (8, [1, 3, 6, 7]), (9, [1, 3, 6, 7])] .leaf .leaf) .leaf)))) (.node 159 [(3, [0, 3, 4])] (.node 150 [(3, [0, 5, 8, 9])] (.node 144 [(2, [0, 1, 4, 9, 10])] (.node 140 [(1, [0]), (4, [0, 2]), (8, [0]), (9, [0])] (.node 138 [(2, []), (3, [0, 1]), (5, [0, 1, 6, 22, 23, 24])] .leaf .leaf) (.node 141 [(1, [0, 1]), (6, [0, 41, 42, 43])] .leaf .leaf)) (.node 148 [(2, []), (3, [0])] (.node 145 [(2, [0, 1, 4, 11, 12]), (6, [1]), (7, [0, 1, 5, 6, 11, 12]), (8, [0, 1, 5, 6, 7, 11, 12])] .leaf .leaf) (.node 149 [(2, [0, 1, 5])] .leaf .leaf))) (.node 156 [(7, [1, 5, 6, 7, 8, 9, 10]), (8, [1, 5, 6, 7, 8, 9, 10]), (12, [1, 5, 6, 7, 8, 9, 10]), (13, [1, 5, 6, 7, 8, 9, 10]), (17, [1, 5, 9]), (18, [5, 6, 7, 8, 12])] (.node 154 [(2, []), (3, [0]), (11, [0, 4])] (.node 152 [(8, [0, 3])] .leaf .leaf) (.node 155 [(4, [0, 4])] .leaf .leaf)) (.node 158 [(3, [0, 3, 4]), (4, [0, 3, 4])] (.node 157 [(4, [3, 4, 5, 6]), (5, [3, 4, 5, 6]), (9, [3, 4, 5, 6, 7, 8, 9]), (15, [3, 4, 5, 6, 7, 8, 9, 10]), (17, [5, 6, 7])] .leaf .leaf) .leaf))) (.node 166 [(5, [4, 5, 6]), (8, [4, 5])] (.node 163 [(3, [1, 3, 4])] (.node 161 [(3, [0, 3, 4])] (.node 160 [(3, [0, 1]), (5, [0, 1]), (7, [0, 5, 6])] .leaf .leaf) (.node 162 [(3, [0, 2, 3, 4])] .leaf .leaf)) (.node 165 [(3, [1, 2, 5, 6])] (.node 164 [(3, [0, 5, 6]), (5, [0, 5, 6]), (8, [0])] .leaf .leaf) .leaf)) (.node 179 [(2, []), (3, [0, 1]), (4, [0, 1, 5])] (.node 176 [(2, [0]), (4, []), (5, [0])] (.node 172 [(8, []), (9, [0])] .leaf .leaf) (.node 178 [(3, [0, 3, 4])] .leaf .leaf)) (.node 181 [(5, [0])] (.node 180 [(4, [0, 2]), (7, [0, 2]), (10, [0, 2])] .leaf .leaf) .leaf))))))
noncomputable def cxX : Cx := mkCx Tryz.prog tyT fnT hlT mlT
theorem fnp3 : FnP Tryz.prog 3 Tryz.f3 := ⟨by kernel_rfl, by kernel_rfl⟩
theorem fnp4 : FnP Tryz.prog 4 Tryz.f4 := ⟨by kernel_rfl, by kernel_rfl⟩
theorem fnp5 : FnP Tryz.prog 5 Tryz.f5 := ⟨by kernel_rfl, by kernel_rfl⟩
theorem fnp6 : FnP Tryz.prog 6 Tryz.f6 := ⟨by kernel_rfl, by kernel_rfl⟩
theorem fnp7 : FnP Tryz.prog 7 Tryz.f7 := ⟨by kernel_rfl, by kernel_rfl⟩
theorem fnp8 : FnP Tryz.prog 8 Tryz.f8 := ⟨by kernel_rfl, by kernel_rfl⟩
theorem fnp10 : FnP Tryz.prog 10 Tryz.f10 := ⟨by kernel_rfl, by kernel_rfl⟩
theorem fnp11 : FnP Tryz.prog 11 Tryz.f11 := ⟨by kernel_rfl, by kernel_rfl⟩
theorem fnp12 : FnP Tryz.prog 12 Tryz.f12 := ⟨by kernel_rfl, by kernel_rfl⟩
theorem fnp13 : FnP Tryz.prog 13 Tryz.f13 := ⟨by kernel_rfl, by kernel_rfl⟩
theorem fnp14 : FnP Tryz.prog 14 Tryz.f14 := ⟨by kernel_rfl, by kernel_rfl⟩
theorem fnp15 : FnP Tryz.prog 15 Tryz.f15 := ⟨by kernel_rfl, by kernel_rfl⟩
theorem fnp16 : FnP Tryz.prog 16 Tryz.f16 := ⟨by kernel_rfl, by kernel_rfl⟩
theorem fnp17 : FnP Tryz.prog 17 Tryz.f17 := ⟨by kernel_rfl, by kernel_rfl⟩
theorem fnp18 : FnP Tryz.prog 18 Tryz.f18 := ⟨by kernel_rfl, by kernel_rfl⟩
theorem fnp19 : FnP Tryz.prog 19 Tryz.f19 := ⟨by kernel_rfl, by kernel_rfl⟩
theorem fnp20 : FnP Tryz.prog 20 Tryz.f20 := ⟨by kernel_rfl, by kernel_rfl⟩
theorem fnp21 : FnP Tryz.prog 21 Tryz.f21 := ⟨by kernel_rfl, by kernel_rfl⟩
theorem fnp22 : FnP Tryz.prog 22 Tryz.f22 := ⟨by kernel_rfl, by kernel_rfl⟩
theorem fnp23 : FnP Tryz.prog 23 Tryz.f23 := ⟨by kernel_rfl, by kernel_rfl⟩
theorem fnp25 : FnP Tryz.prog 25 Tryz.f25 := ⟨by kernel_rfl, by kernel_rfl⟩
theorem fnp26 : FnP Tryz.prog 26 Tryz.f26 := ⟨by kernel_rfl, by kernel_rfl⟩
theorem fnp27 : FnP Tryz.prog 27 Tryz.f27 := ⟨by kernel_rfl, by kernel_rfl⟩
theorem fnp28 : FnP Tryz.prog 28 Tryz.f28 := ⟨by kernel_rfl, by kernel_rfl⟩
theorem fnp29 : FnP Tryz.prog 29 Tryz.f29 := ⟨by kernel_rfl, by kernel_rfl⟩
theorem fnp30 : FnP Tryz.prog 30 Tryz.f30 := ⟨by kernel_rfl, by kernel_rfl⟩
theorem fnp31 : FnP Tryz.prog 31 Tryz.f31 := ⟨by kernel_rfl, by kernel_rfl⟩
theorem fnp32 : FnP Tryz.prog 32 Tryz.f32 := ⟨by kernel_rfl, by kernel_rfl⟩
theorem fnp33 : FnP Tryz.prog 33 Tryz.f33 := ⟨by kernel_rfl, by kernel_rfl⟩
theorem fnp34 : FnP Tryz.prog 34 Tryz.f34 := ⟨by kernel_rfl, by kernel_rfl⟩
theorem fnp35 : FnP Tryz.prog 35 Tryz.f35 := ⟨by kernel_rfl, by kernel_rfl⟩
theorem fnp36 : FnP Tryz.prog 36 Tryz.f36 := ⟨by kernel_rfl, by kernel_rfl⟩
theorem fnp37 : FnP Tryz.prog 37 Tryz.f37 := ⟨by kernel_rfl, by kernel_rfl⟩
theorem fnp38 : FnP Tryz.prog 38 Tryz.f38 := ⟨by kernel_rfl, by kernel_rfl⟩
theorem fnp39 : FnP Tryz.prog 39 Tryz.f39 := ⟨by kernel_rfl, by kernel_rfl⟩
theorem fnp40 : FnP Tryz.prog 40 Tryz.f40 := ⟨by kernel_rfl, by kernel_rfl⟩
theorem fnp41 : FnP Tryz.prog 41 Tryz.f41 := ⟨by kernel_rfl, by kernel_rfl⟩
theorem fnp42 : FnP Tryz.prog 42 Tryz.f42 := ⟨by kernel_rfl, by kernel_rfl⟩
theorem fnp43 : FnP Tryz.prog 43 Tryz.f43 := ⟨by kernel_rfl, by kernel_rfl⟩
theorem fnp44 : FnP Tryz.prog 44 Tryz.f44 := ⟨by kernel_rfl, by kernel_rfl⟩
theorem fnp45 : FnP Tryz.prog 45 Tryz.f45 := ⟨by kernel_rfl, by kernel_rfl⟩
theorem fnp46 : FnP Tryz.prog 46 Tryz.f46 := ⟨by kernel_rfl, by kernel_rfl⟩
theorem fnp47 : FnP Tryz.prog 47 Tryz.f47 := ⟨by kernel_rfl, by kernel_rfl⟩
theorem fnp48 : FnP Tryz.prog 48 Tryz.f48 := ⟨by kernel_rfl, by kernel_rfl⟩
theorem fnp49 : FnP Tryz.prog 49 Tryz.f49 := ⟨by kernel_rfl, by kernel_rfl⟩
theorem fnp50 : FnP Tryz.prog 50 Tryz.f50 := ⟨by kernel_rfl, by kernel_rfl⟩
theorem fnp51 : FnP Tryz.prog 51 Tryz.f51 := ⟨by kernel_rfl, by kernel_rfl⟩
theorem fnp52 : FnP Tryz.prog 52 Tryz.f52 := ⟨by kernel_rfl, by kernel_rfl⟩
theorem fnp53 : FnP Tryz.prog 53 Tryz.f53 := ⟨by kernel_rfl, by kernel_rfl⟩
theorem fnp54 : FnP Tryz.prog 54 Tryz.f54 := ⟨by kernel_rfl, by kernel_rfl⟩
theorem fnp55 : FnP Tryz.prog 55 Tryz.f55 := ⟨by kernel_rfl, by kernel_rfl⟩
theorem fnp56 : FnP Tryz.prog 56 Tryz.f56 := ⟨by kernel_rfl, by kernel_rfl⟩
theorem fnp57 : FnP Tryz.prog 57 Tryz.f57 := ⟨by kernel_rfl, by kernel_rfl⟩
theorem fnp58 : FnP Tryz.prog 58 Tryz.f58 := ⟨by kernel_rfl, by kernel_rfl⟩
theorem fnp59 : FnP Tryz.prog 59 Tryz.f59 := ⟨by kernel_rfl, by kernel_rfl⟩
theorem fnp60 : FnP Tryz.prog 60 Tryz.f60 := ⟨by kernel_rfl, by kernel_rfl⟩
theorem fnp61 : FnP Tryz.prog 61 Tryz.f61 := ⟨by kernel_rfl, by kernel_rfl⟩
theorem fnp62 : FnP Tryz.prog 62 Tryz.f62 := ⟨by kernel_rfl, by kernel_rfl⟩
theorem fnp63 : FnP Tryz.prog 63 Tryz.f63 := ⟨by kernel_rfl, by kernel_rfl⟩
theorem fnp64 : FnP Tryz.prog 64 Tryz.f64 := ⟨by kernel_rfl, by kernel_rfl⟩
theorem fnp65 : FnP Tryz.prog 65 Tryz.f65 := ⟨by kernel_rfl, by kernel_rfl⟩
theorem fnp66 : FnP Tryz.prog 66 Tryz.f66 := ⟨by kernel_rfl, by kernel_rfl⟩
theorem fnp67 : FnP Tryz.prog 67 Tryz.f67 := ⟨by kernel_rfl, by kernel_rfl⟩
theorem fnp69 : FnP Tryz.prog 69 Tryz.f69 := ⟨by kernel_rfl, by kernel_rfl⟩
theorem fnp70 : FnP Tryz.prog 70 Tryz.f70 := ⟨by kernel_rfl, by kernel_rfl⟩
theorem fnp71 : FnP Tryz.prog 71 Tryz.f71 := ⟨by kernel_rfl, by kernel_rfl⟩
theorem fnp72 : FnP Tryz.prog 72 Tryz.f72 := ⟨by kernel_rfl, by kernel_rfl⟩
theorem fnp73 : FnP Tryz.prog 73 Tryz.f73 := ⟨by kernel_rfl, by kernel_rfl⟩
theorem fnp74 : FnP Tryz.prog 74 Tryz.f74 := ⟨by kernel_rfl, by kernel_rfl⟩
theorem fnp75 : FnP Tryz.prog 75 Tryz.f75 := ⟨by kernel_rfl, by kernel_rfl⟩
theorem fnp76 : FnP Tryz.prog 76 Tryz.f76 := ⟨by kernel_rfl, by kernel_rfl⟩
theorem fnp77 : FnP Tryz.prog 77 Tryz.f77 := ⟨by kernel_rfl, by kernel_rfl⟩
theorem fnp78 : FnP Tryz.prog 78 Tryz.f78 := ⟨by kernel_rfl, by kernel_rfl⟩
theorem fnp79 : FnP Tryz.prog 79 Tryz.f79 := ⟨by kernel_rfl, by kernel_rfl⟩
theorem fnp80 : FnP Tryz.prog 80 Tryz.f80 := ⟨by kernel_rfl, by kernel_rfl⟩
theorem fnp81 : FnP Tryz.prog 81 Tryz.f81 := ⟨by kernel_rfl, by kernel_rfl⟩
theorem fnp82 : FnP Tryz.prog 82 Tryz.f82 := ⟨by kernel_rfl, by kernel_rfl⟩
theorem fnp83 : FnP Tryz.prog 83 Tryz.f83 := ⟨by kernel_rfl, by kernel_rfl⟩
theorem fnp84 : FnP Tryz.prog 84 Tryz.f84 := ⟨by kernel_rfl, by kernel_rfl⟩
theorem fnp85 : FnP Tryz.prog 85 Tryz.f85 := ⟨by kernel_rfl, by kernel_rfl⟩
theorem fnp86 : FnP Tryz.prog 86 Tryz.f86 := ⟨by kernel_rfl, by kernel_rfl⟩
theorem fnp87 : FnP Tryz.prog 87 Tryz.f87 := ⟨by kernel_rfl, by kernel_rfl⟩
theorem fnp88 : FnP Tryz.prog 88 Tryz.f88 := ⟨by kernel_rfl, by kernel_rfl⟩
theorem fnp89 : FnP Tryz.prog 89 Tryz.f89 := ⟨by kernel_rfl, by kernel_rfl⟩
theorem fnp90 : FnP Tryz.prog 90 Tryz.f90 := ⟨by kernel_rfl, by kernel_rfl⟩
theorem fnp91 : FnP Tryz.prog 91 Tryz.f91 := ⟨by kernel_rfl, by kernel_rfl⟩
theorem fnp92 : FnP Tryz.prog 92 Tryz.f92 := ⟨by kernel_rfl, by kernel_rfl⟩
theorem fnp93 : FnP Tryz.prog 93 Tryz.f93 := ⟨by kernel_rfl, by kernel_rfl⟩
theorem fnp94 : FnP Tryz.prog 94 Tryz.f94 := ⟨by kernel_rfl, by kernel_rfl⟩
theorem fnp95 : FnP Tryz.prog 95 Tryz.f95 := ⟨by kernel_rfl, by kernel_rfl⟩
theorem fnp96 : FnP Tryz.prog 96 Tryz.f96 := ⟨by kernel_rfl, by kernel_rfl⟩
theorem fnp97 : FnP Tryz.prog 97 Tryz.f97 := ⟨by kernel_rfl, by kernel_rfl⟩
theorem fnp98 : FnP Tryz.prog 98 Tryz.f98 := ⟨by kernel_rfl, by kernel_rfl⟩
theorem fnp99 : FnP Tryz.prog 99 Tryz.f99 := ⟨by kernel_rfl, by kernel_rfl⟩
theorem fnp100 : FnP Tryz.prog 100 Tryz.f100 := ⟨by kernel_rfl, by kernel_rfl⟩
theorem fnp101 : FnP Tryz.prog 101 Tryz.f101 := ⟨by kernel_rfl, by kernel_rfl⟩
theorem fnp102 : FnP Tryz.prog 102 Tryz.f102 := ⟨by kernel_rfl, by kernel_rfl⟩
theorem fnp103 : FnP Tryz.prog 103 Tryz.f103 := ⟨by kernel_rfl, by kernel_rfl⟩
theorem fnp104 : FnP Tryz.prog 104 Tryz.f104 := ⟨by kernel_rfl, by kernel_rfl⟩
theorem fnp105 : FnP Tryz.prog 105 Tryz.f105 := ⟨by kernel_rfl, by kernel_rfl⟩
theorem fnp106 : FnP Tryz.prog 106 Tryz.f106 := ⟨by kernel_rfl, by kernel_rfl⟩
theorem fnp107 : FnP Tryz.prog 107 Tryz.f107 := ⟨by kernel_rfl, by kernel_rfl⟩
theorem fnp108 : FnP Tryz.prog 108 Tryz.f108 := ⟨by kernel_rfl, by kernel_rfl⟩
theorem fnp109 : FnP Tryz.prog 109 Tryz.f109 := ⟨by kernel_rfl, by kernel_rfl⟩
theorem fnp110 : FnP Tryz.prog 110 Tryz.f110 := ⟨by kernel_rfl, by kernel_rfl⟩
theorem fnp111 : FnP Tryz.prog 111 Tryz.f111 := ⟨by kernel_rfl, by kernel_rfl⟩
theorem fnp112 : FnP Tryz.prog 112 Tryz.f112 := ⟨by kernel_rfl, by kernel_rfl⟩
theorem fnp113 : FnP Tryz.prog 113 Tryz.f113 := ⟨by kernel_rfl, by kernel_rfl⟩
theorem fnp114 : FnP Tryz.prog 114 Tryz.f114 := ⟨by kernel_rfl, by kernel_rfl⟩
theorem fnp115 : FnP Tryz.prog 115 Tryz.f115 := ⟨by kernel_rfl, by kernel_rfl⟩
theorem fnp116 : FnP Tryz.prog 116 Tryz.f116 := ⟨by kernel_rfl, by kernel_rfl⟩
theorem fnp117 : FnP Tryz.prog 117 Tryz.f117 := ⟨by kernel_rfl, by kernel_rfl⟩
theorem fnp118 : FnP Tryz.prog 118 Tryz.f118 := ⟨by kernel_rfl, by kernel_rfl⟩
theorem fnp119 : FnP Tryz.prog 119 Tryz.f119 := ⟨by kernel_rfl, by kernel_rfl⟩
theorem fnp120 : FnP Tryz.prog 120 Tryz.f120 := ⟨by kernel_rfl, by kernel_rfl⟩
theorem fnp121 : FnP Tryz.prog 121 Tryz.f121 := ⟨by kernel_rfl, by kernel_rfl⟩
theorem fnp122 : FnP Tryz.prog 122 Tryz.f122 := ⟨by kernel_rfl, by kernel_rfl⟩
theorem fnp123 : FnP Tryz.prog 123 Tryz.f123 := ⟨by kernel_rfl, by kernel_rfl⟩
theorem fnp124 : FnP Tryz.prog 124 Tryz.f124 := ⟨by kernel_rfl, by kernel_rfl⟩
theorem fnp125 : FnP Tryz.prog 125 Tryz.f125 := ⟨by kernel_rfl, by kernel_rfl⟩
theorem fnp126 : FnP Tryz.prog 126 Tryz.f126 := ⟨by kernel_rfl, by kernel_rfl⟩
theorem fnp127 : FnP Tryz.prog 127 Tryz.f127 := ⟨by kernel_rfl, by kernel_rfl⟩
theorem fnp128 : FnP Tryz.prog 128 Tryz.f128 := ⟨by kernel_rfl, by kernel_rfl⟩
theorem fnp129 : FnP Tryz.prog 129 Tryz.f129 := ⟨by kernel_rfl, by kernel_rfl⟩
theorem fnp130 : FnP Tryz.prog 130 Tryz.f130 := ⟨by kernel_rfl, by kernel_rfl⟩
theorem fnp131 : FnP Tryz.prog 131 Tryz.f131 := ⟨by kernel_rfl, by kernel_rfl⟩
theorem fnp132 : FnP Tryz.prog 132 Tryz.f132 := ⟨by kernel_rfl, by kernel_rfl⟩
theorem fnp133 : FnP Tryz.prog 133 Tryz.f133 := ⟨by kernel_rfl, by kernel_rfl⟩
theorem fnp134 : FnP Tryz.prog 134 Tryz.f134 := ⟨by kernel_rfl, by kernel_rfl⟩
theorem fnp135 : FnP Tryz.prog 135 Tryz.f135 := ⟨by kernel_rfl, by kernel_rfl⟩
theorem fnp136 : FnP Tryz.prog 136 Tryz.f136 := ⟨by kernel_rfl, by kernel_rfl⟩
theorem fnp137 : FnP Tryz.prog 137 Tryz.f137 := ⟨by kernel_rfl, by kernel_rfl⟩
theorem fnp138 : FnP Tryz.prog 138 Tryz.f138 := ⟨by kernel_rfl, by kernel_rfl⟩
theorem fnp139 : FnP Tryz.prog 139 Tryz.f139 := ⟨by kernel_rfl, by kernel_rfl⟩
theorem fnp140 : FnP Tryz.prog 140 Tryz.f140 := ⟨by kernel_rfl, by kernel_rfl⟩
theorem fnp141 : FnP Tryz.prog 141 Tryz.f141 := ⟨by kernel_rfl, by kernel_rfl⟩
theorem fnp142 : FnP Tryz.prog 142 Tryz.f142 := ⟨by kernel_rfl, by kernel_rfl⟩
theorem fnp143 : FnP Tryz.prog 143 Tryz.f143 := ⟨by kernel_rfl, by kernel_rfl⟩
theorem fnp144 : FnP Tryz.prog 144 Tryz.f144 := ⟨by kernel_rfl, by kernel_rfl⟩
theorem fnp145 : FnP Tryz.prog 145 Tryz.f145 := ⟨by kernel_rfl, by kernel_rfl⟩
theorem fnp146 : FnP Tryz.prog 146 Tryz.f146 := ⟨by kernel_rfl, by kernel_rfl⟩
theorem fnp147 : FnP Tryz.prog 147 Tryz.f147 := ⟨by kernel_rfl, by kernel_rfl⟩
theorem fnp148 : FnP Tryz.prog 148 Tryz.f148 := ⟨by kernel_rfl, by kernel_rfl⟩
theorem fnp149 : FnP Tryz.prog 149 Tryz.f149 := ⟨by kernel_rfl, by kernel_rfl⟩
theorem fnp150 : FnP Tryz.prog 150 Tryz.f150 := ⟨by kernel_rfl, by kernel_rfl⟩
theorem fnp151 : FnP Tryz.prog 151 Tryz.f151 := ⟨by kernel_rfl, by kernel_rfl⟩
theorem fnp152 : FnP Tryz.prog 152 Tryz.f152 := ⟨by kernel_rfl, by kernel_rfl⟩
theorem fnp153 : FnP Tryz.prog 153 Tryz.f153 := ⟨by kernel_rfl, by kernel_rfl⟩
theorem fnp154 : FnP Tryz.prog 154 Tryz.f154 := ⟨by kernel_rfl, by kernel_rfl⟩
theorem fnp155 : FnP Tryz.prog 155 Tryz.f155 := ⟨by kernel_rfl, by kernel_rfl⟩
theorem fnp156 : FnP Tryz.prog 156 Tryz.f156 := ⟨by kernel_rfl, by kernel_rfl⟩
theorem fnp157 : FnP Tryz.prog 157 Tryz.f157 := ⟨by kernel_rfl, by kernel_rfl⟩
theorem fnp158 : FnP Tryz.prog 158 Tryz.f158 := ⟨by kernel_rfl, by kernel_rfl⟩
theorem fnp159 : FnP Tryz.prog 159 Tryz.f159 := ⟨by kernel_rfl, by kernel_rfl⟩
theorem fnp160 : FnP Tryz.prog 160 Tryz.f160 := ⟨by kernel_rfl, by kernel_rfl⟩
theorem fnp161 : FnP Tryz.prog 161 Tryz.f161 := ⟨by kernel_rfl, by kernel_rfl⟩
theorem fnp162 : FnP Tryz.prog 162 Tryz.f162 := ⟨by kernel_rfl, by kernel_rfl⟩
theorem fnp163 : FnP Tryz.prog 163 Tryz.f163 := ⟨by kernel_rfl, by kernel_rfl⟩
theorem fnp164 : FnP Tryz.prog 164 Tryz.f164 := ⟨by kernel_rfl, by kernel_rfl⟩
theorem fnp165 : FnP Tryz.prog 165 Tryz.f165 := ⟨by kernel_rfl, by kernel_rfl⟩
theorem fnp166 : FnP Tryz.prog 166 Tryz.f166 := ⟨by kernel_rfl, by kernel_rfl⟩
theorem fnp167 : FnP Tryz.prog 167 Tryz.f167 := ⟨by kernel_rfl, by kernel_rfl⟩
theorem fnp168 : FnP Tryz.prog 168 Tryz.f168 := ⟨by kernel_rfl, by kernel_rfl⟩
theorem fnp169 : FnP Tryz.prog 169 Tryz.f169 := ⟨by kernel_rfl, by kernel_rfl⟩
theorem fnp170 : FnP Tryz.prog 170 Tryz.f170 := ⟨by kernel_rfl, by kernel_rfl⟩
theorem fnp171 : FnP Tryz.prog 171 Tryz.f171 := ⟨by kernel_rfl, by kernel_rfl⟩
theorem fnp172 : FnP Tryz.prog 172 Tryz.f172 := ⟨by kernel_rfl, by kernel_rfl⟩
theorem fnp173 : FnP Tryz.prog 173 Tryz.f173 := ⟨by kernel_rfl, by kernel_rfl⟩
theorem fnp174 : FnP Tryz.prog 174 Tryz.f174 := ⟨by kernel_rfl, by kernel_rfl⟩
theorem fnp175 : FnP Tryz.prog 175 Tryz.f175 := ⟨by kernel_rfl, by kernel_rfl⟩
theorem fnp176 : FnP Tryz.prog 176 Tryz.f176 := ⟨by kernel_rfl, by kernel_rfl⟩
theorem fnp177 : FnP Tryz.prog 177 Tryz.f177 := ⟨by kernel_rfl, by kernel_rfl⟩
theorem fnp178 : FnP Tryz.prog 178 Tryz.f178 := ⟨by kernel_rfl, by kernel_rfl⟩
theorem fnp179 : FnP Tryz.prog 179 Tryz.f179 := ⟨by kernel_rfl, by kernel_rfl⟩
theorem fnp180 : FnP Tryz.prog 180 Tryz.f180 := ⟨by kernel_rfl, by kernel_rfl⟩
theorem fnp181 : FnP Tryz.prog 181 Tryz.f181 := ⟨by kernel_rfl, by kernel_rfl⟩
theorem fnp182 : FnP Tryz.prog 182 Tryz.f182 := ⟨by kernel_rfl, by kernel_rfl⟩
theorem fnp183 : FnP Tryz.prog 183 Tryz.f183 := ⟨by kernel_rfl, by kernel_rfl⟩
theorem okX : Ok cxX ∧ DstOk cxX := mkOk (by kernel_rfl) (by kernel_rfl) ⟨fnp95, ⟨fnp49, ⟨fnp27, ⟨fnp15, ⟨fnp8, ⟨fnp5, ⟨fnp4, ⟨fnp3, trivial, trivial⟩, trivial⟩, ⟨fnp7, ⟨fnp6, trivial, trivial⟩, trivial⟩⟩, ⟨fnp12, ⟨fnp11, ⟨fnp10, trivial, trivial⟩, trivial⟩, ⟨fnp14, ⟨fnp13, trivial, trivial⟩, trivial⟩⟩⟩, ⟨fnp21, ⟨fnp18, ⟨fnp17, ⟨fnp16, trivial, trivial⟩, trivial⟩, ⟨fnp20, ⟨fnp19, trivial, trivial⟩, trivial⟩⟩, ⟨fnp25, ⟨fnp23, ⟨fnp22, trivial, trivial⟩, trivial⟩, ⟨fnp26, trivial, trivial⟩⟩⟩⟩, ⟨fnp38, ⟨fnp33, ⟨fnp30, ⟨fnp29, ⟨fnp28, trivial, trivial⟩, trivial⟩, ⟨fnp32, ⟨fnp31, trivial, trivial⟩, trivial⟩⟩, ⟨fnp36, ⟨fnp35, ⟨fnp34, trivial, trivial⟩, trivial⟩, ⟨fnp37, trivial, trivial⟩⟩⟩, ⟨fnp44, ⟨fnp41, ⟨fnp40, ⟨fnp39, trivial, trivial⟩, trivial⟩, ⟨fnp43, ⟨fnp42, trivial, trivial⟩, trivial⟩⟩, ⟨fnp47, ⟨fnp46, ⟨fnp45, trivial, trivial⟩, trivial⟩, ⟨fnp48, trivial, trivial⟩⟩⟩⟩⟩, ⟨fnp73, ⟨fnp61, ⟨fnp55, ⟨fnp52, ⟨fnp51, ⟨fnp50, trivial, trivial⟩, trivial⟩, ⟨fnp54, ⟨fnp53, trivial, trivial⟩, trivial⟩⟩, ⟨fnp58, ⟨fnp57, ⟨fnp56, trivial, trivial⟩, trivial⟩, ⟨fnp60, ⟨fnp59, trivial, trivial⟩, trivial⟩⟩⟩, ⟨fnp67, ⟨fnp64, ⟨fnp63, ⟨fnp62, trivial, trivial⟩, trivial⟩, ⟨fnp66, ⟨fnp65, trivial, trivial⟩, trivial⟩⟩, ⟨fnp71, ⟨fnp70, ⟨fnp69, trivial, trivial⟩, trivial⟩, ⟨fnp72, trivial, trivial⟩⟩⟩⟩, ⟨fnp84, ⟨fnp79, ⟨fnp76, ⟨fnp75, ⟨fnp74, trivial, trivial⟩, trivial⟩, ⟨fnp78, ⟨fnp77, trivial, trivial⟩, trivial⟩⟩, ⟨fnp82, ⟨fnp81, ⟨fnp80, trivial, trivial⟩, trivial⟩, ⟨fnp83, trivial, trivial⟩⟩⟩, ⟨fnp90, ⟨fnp87, ⟨fnp86, ⟨fnp85, trivial, trivial⟩, trivial⟩, ⟨fnp89, ⟨fnp88, trivial, trivial⟩, trivial⟩⟩, ⟨fnp93, ⟨fnp92, ⟨fnp91, trivial, trivial⟩, trivial⟩, ⟨fnp94, trivial, trivial⟩⟩⟩⟩⟩⟩, ⟨fnp140, ⟨fnp118, ⟨fnp107, ⟨fnp101, ⟨fnp98, ⟨fnp97, ⟨fnp96, trivial, trivial⟩, trivial⟩, ⟨fnp100, ⟨fnp99, trivial, trivial⟩, trivial⟩⟩, ⟨fnp104, ⟨fnp103, ⟨fnp102, trivial, trivial⟩, trivial⟩, ⟨fnp106, ⟨fnp105, trivial, trivial⟩, trivial⟩⟩⟩, ⟨fnp113, ⟨fnp110, ⟨fnp109, ⟨fnp108, trivial, trivial⟩, trivial⟩, ⟨fnp112, ⟨fnp111, trivial, trivial⟩, trivial⟩⟩, ⟨fnp116, ⟨fnp115, ⟨fnp114, trivial, trivial⟩, trivial⟩, ⟨fnp117, trivial, trivial⟩⟩⟩⟩, ⟨fnp129, ⟨fnp124, ⟨fnp121, ⟨fnp120, ⟨fnp119, trivial, trivial⟩, trivial⟩, ⟨fnp123, ⟨fnp122, trivial, trivial⟩, trivial⟩⟩, ⟨fnp127, ⟨fnp126, ⟨fnp125, trivial, trivial⟩, trivial⟩, ⟨fnp128, trivial, trivial⟩⟩⟩, ⟨fnp135, ⟨fnp132, ⟨fnp131, ⟨fnp130, trivial, trivial⟩, trivial⟩, ⟨fnp134, ⟨fnp133, trivial, trivial⟩, trivial⟩⟩, ⟨fnp138, ⟨fnp137, ⟨fnp136, trivial, trivial⟩, trivial⟩, ⟨fnp139, trivial, trivial⟩⟩⟩⟩⟩, ⟨fnp162, ⟨fnp151, ⟨fnp146, ⟨fnp143, ⟨fnp142, ⟨fnp141, trivial, trivial⟩, trivial⟩, ⟨fnp145, ⟨fnp144, trivial, trivial⟩, trivial⟩⟩, ⟨fnp149, ⟨fnp148, ⟨fnp147, trivial, trivial⟩, trivial⟩, ⟨fnp150, trivial, trivial⟩⟩⟩, ⟨fnp157, ⟨fnp154, ⟨fnp153, ⟨fnp152, trivial, trivial⟩, trivial⟩, ⟨fnp156, ⟨fnp155, trivial, trivial⟩, trivial⟩⟩, ⟨fnp160, ⟨fnp159, ⟨fnp158, trivial, trivial⟩, trivial⟩, ⟨fnp161, trivial, trivial⟩⟩⟩⟩, ⟨fnp173, ⟨fnp168, ⟨fnp165, ⟨fnp164, ⟨fnp163, trivial, trivial⟩, trivial⟩, ⟨fnp167, ⟨fnp166, trivial, trivial⟩, trivial⟩⟩, ⟨fnp171, ⟨fnp170, ⟨fnp169, trivial, trivial⟩, trivial⟩, ⟨fnp172, trivial, trivial⟩⟩⟩, ⟨fnp179, ⟨fnp176, ⟨fnp175, ⟨fnp174, trivial, trivial⟩, trivial⟩, ⟨fnp178, ⟨fnp177, trivial, trivial⟩, trivial⟩⟩, ⟨fnp182, ⟨fnp181, ⟨fnp180, trivial, trivial⟩, trivial⟩, ⟨fnp183, trivial, trivial⟩⟩⟩⟩⟩⟩⟩ (by kernel_rfl)
noncomputable def cd4 : Code := (Tryz.f4.body).getD .skip
def ss4 : List Nat := [10]
def ss10 : List Nat := []
noncomputable def cd11 : Code := (Tryz.f11.body).getD .skip
def ss11 : List Nat := [2, 6]
def ss12 : List Nat := []
def ss13 : List Nat := []
def ss14 : List Nat := []
noncomputable def cd15 : Code := (Tryz.f15.body).getD .skip
def ss15 : List Nat := [7, 12, 16, 27, 32, 35]
noncomputable def cd16 : Code := (Tryz.f16.body).getD .skip
def ss16 : List Nat := [28]
noncomputable def cd17 : Code := (Tryz.f17.body).getD .skip
def ss17 : List Nat := [24]
def ss21 : List Nat := []
def ss23 : List Nat := []
noncomputable def cd25 : Code := (Tryz.f25.body).getD .skip
def ss25 : List Nat := [0]
noncomputable def cd26 : Code := (Tryz.f26.body).getD .skip
def ss26 : List Nat := [3, 7]
noncomputable def cd27 : Code := (Tryz.f27.body).getD .skip
def ss27 : List Nat := [3, 7]
noncomputable def cd28 : Code := (Tryz.f28.body).getD .skip
def ss28 : List Nat := [3]
noncomputable def cd29 : Code := (Tryz.f29.body).getD .skip
def ss29 : List Nat := [3]
noncomputable def cd30 : Code := (Tryz.f30.body).getD .skip
def ss30 : List Nat := [3]
noncomputable def cd31 : Code := (Tryz.f31.body).getD .skip
def ss31 : List Nat := [3]
noncomputable def cd32 : Code := (Tryz.f32.body).getD .skip
def ss32 : List Nat := [5, 8, 9, 11, 12]
noncomputable def cd33 : Code := (Tryz.f33.body).getD .skip
def ss33 : List Nat := [2]
noncomputable def cd34 : Code := (Tryz.f34.body).getD .skip
def ss34 : List Nat := [7]
def ss35 : List Nat := []
def ss36 : List Nat := []
noncomputable def cd37 : Code := (Tryz.f37.body).getD .skip
def ss37 : List Nat := [2, 3, 5]
noncomputable def cd38 : Code := (Tryz.f38.body).getD .skip
def ss38 : List Nat := [11, 14, 15]
def ss39 : List Nat := []
noncomputable def cd40 : Code := (Tryz.f40.body).getD .skip
def ss40 : List Nat := [5, 14]
def ss41 : List Nat := []
def ss42 : List Nat := []
noncomputable def cd43 : Code := (Tryz.f43.body).getD .skip
def ss43 : List Nat := [5, 7, 10, 11, 14, 15]
noncomputable def cd44 : Code := (Tryz.f44.body).getD .skip
def ss44 : List Nat := [3, 6, 10]
noncomputable def cd45 : Code := (Tryz.f45.body).getD .skip
def ss45 : List Nat := [4, 6, 7]
def ss48 : List Nat := []
noncomputable def cd53 : Code := (Tryz.f53.body).getD .skip
def ss53 : List Nat := [2, 3]
def ss60 : List Nat := []
noncomputable def cd61 : Code := (Tryz.f61.body).getD .skip
def ss61 : List Nat := [15]
noncomputable def cd62 : Code := (Tryz.f62.body).getD .skip
def ss62 : List Nat := [4]
noncomputable def cd63 : Code := (Tryz.f63.body).getD .skip
def ss63 : List Nat := [2, 3]
noncomputable def cd64 : Code := (Tryz.f64.body).getD .skip
def ss64 : List Nat := [2, 3, 6]
noncomputable def cd65 : Code := (Tryz.f65.body).getD .skip
def ss65 : List Nat := [2, 3, 4, 9, 10]
noncomputable def cd66 : Code := (Tryz.f66.body).getD .skip
def ss66 : List Nat := [2, 3]
noncomputable def cd67 : Code := (Tryz.f67.body).getD .skip
def ss67 : List Nat := [2, 3, 4, 7, 8, 10, 11]
def ss69 : List Nat := []
noncomputable def cd70 : Code := (Tryz.f70.body).getD .skip
def ss70 : List Nat := [5]
noncomputable def cd71 : Code := (Tryz.f71.body).getD .skip
def ss71 : List Nat := [3]
noncomputable def cd72 : Code := (Tryz.f72.body).getD .skip
def ss72 : List Nat := [4, 9]
noncomputable def cd73 : Code := (Tryz.f73.body).getD .skip
def ss73 : List Nat := [3, 6, 7, 9, 14]
noncomputable def cd74 : Code := (Tryz.f74.body).getD .skip
def ss74 : List Nat := [2, 3]
def ss75 : List Nat := []
noncomputable def cd76 : Code := (Tryz.f76.body).getD .skip
def ss76 : List Nat := [2, 3]
noncomputable def cd77 : Code := (Tryz.f77.body).getD .skip
def ss77 : List Nat := [2, 3]
def ss78 : List Nat := []
def ss79 : List Nat := []
def ss80 : List Nat := []
noncomputable def cd81 : Code := (Tryz.f81.body).getD .skip
def ss81 : List Nat := [7, 8, 11, 12, 13, 17, 21, 24]
noncomputable def cd82 : Code := (Tryz.f82.body).getD .skip
def ss82 : List Nat := [4]
noncomputable def cd83 : Code := (Tryz.f83.body).getD .skip
def ss83 : List Nat := [3, 7, 8]
def ss84 : List Nat := []
noncomputable def cd85 : Code := (Tryz.f85.body).getD .skip
def ss85 : List Nat := [0]
noncomputable def cd86 : Code := (Tryz.f86.body).getD .skip
def ss86 : List Nat := [2, 6, 8]
def ss87 : List Nat := []
def ss88 : List Nat := []
noncomputable def cd89 : Code := (Tryz.f89.body).getD .skip
def ss89 : List Nat := [9]
noncomputable def cd90 : Code := (Tryz.f90.body).getD .skip
def ss90 : List Nat := [6]
noncomputable def cd91 : Code := (Tryz.f91.body).getD .skip
def ss91 : List Nat := [2, 3, 4]
noncomputable def cd92 : Code := (Tryz.f92.body).getD .skip
def ss92 : List Nat := [7]
def ss93 : List Nat := []
noncomputable def cd95 : Code := (Tryz.f95.body).getD .skip
def ss95 : List Nat := [1]
noncomputable def cd96 : Code := (Tryz.f96.body).getD .skip
def ss96 : List Nat := [3]
def ss97 : List Nat := []
noncomputable def cd103 : Code := (Tryz.f103.body).getD .skip
def ss103 : List Nat := [2, 3]
noncomputable def cd116 : Code := (Tryz.f116.body).getD .skip
def ss116 : List Nat := [4]
noncomputable def cd117 : Code := (Tryz.f117.body).getD .skip
def ss117 : List Nat := [2, 3, 4]
def ss118 : List Nat := []
noncomputable def cd119 : Code := (Tryz.f119.body).getD .skip
def ss119 : List Nat := [2, 3, 4]
noncomputable def cd120 : Code := (Tryz.f120.body).getD .skip
def ss120 : List Nat := [2, 3, 4]
noncomputable def cd121 : Code := (Tryz.f121.body).getD .skip
def ss121 : List Nat := [2, 3, 4]
def ss122 : List Nat := []
def ss123 : List Nat := []
noncomputable def zO : Code := (Tryz.f124.body).getD .skip
def ss124 : List Nat := [3, 4, 5, 6, 7, 8, 9]
def ss125 : List Nat := []
noncomputable def cd126 : Code := (Tryz.f126.body).getD .skip
def ss126 : List Nat := [6]
noncomputable def jo : Code := (Tryz.f127.body).getD .skip
def ss127 : List Nat := [3, 4, 6, 7, 8]
def ss128 : List Nat := []
def ss129 : List Nat := []
noncomputable def cd130 : Code := (Tryz.f130.body).getD .skip
def ss130 : List Nat := [5]
noncomputable def zX : Code := (Tryz.f131.body).getD .skip
def ss131 : List Nat := [3, 8, 9, 10, 11, 12]
noncomputable def cd132 : Code := (Tryz.f132.body).getD .skip
def ss132 : List Nat := [5]
noncomputable def cd133 : Code := (Tryz.f133.body).getD .skip
def ss133 : List Nat := [10, 11]
noncomputable def cd134 : Code := (Tryz.f134.body).getD .skip
def ss134 : List Nat := [3, 4]
noncomputable def yT : Code := (Tryz.f135.body).getD .skip
def ss135 : List Nat := [4, 8, 9]
noncomputable def cd136 : Code := (Tryz.f136.body).getD .skip
def ss136 : List Nat := [3]
noncomputable def cd137 : Code := (Tryz.f137.body).getD .skip
def ss137 : List Nat := [3]
noncomputable def cd138 : Code := (Tryz.f138.body).getD .skip
def ss138 : List Nat := [2, 3, 5]
def ss139 : List Nat := []
noncomputable def cd140 : Code := (Tryz.f140.body).getD .skip
def ss140 : List Nat := [1, 4, 8, 9]
noncomputable def cd141 : Code := (Tryz.f141.body).getD .skip
def ss141 : List Nat := [1, 6]
def ss143 : List Nat := []
def ss146 : List Nat := []
noncomputable def cd155 : Code := (Tryz.f155.body).getD .skip
def ss155 : List Nat := [4]
def ss167 : List Nat := []
def ss168 : List Nat := []
def ss170 : List Nat := []
def ss171 : List Nat := []
noncomputable def cd172 : Code := (Tryz.f172.body).getD .skip
def ss172 : List Nat := [8, 9]
def ss173 : List Nat := []
def ss174 : List Nat := []
def ss175 : List Nat := []
noncomputable def cd180 : Code := (Tryz.f180.body).getD .skip
def ss180 : List Nat := [4, 7, 10]
noncomputable def cd181 : Code := (Tryz.f181.body).getD .skip
def ss181 : List Nat := [5]
def ss182 : List Nat := []
@[simp] theorem cv_2_30 (n : Int) : cvV Tryz.prog 2 30 (.int .i64 n) = some (.int .u32 (IntKind.u32.wrap n)) := by kernel_rfl
@[simp] theorem cv_2_50 (n : Int) : cvV Tryz.prog 2 50 (.int .i64 n) = some (.float .f64 (FloatKind.f64.nearest n)) := by kernel_rfl
@[simp] theorem cv_2_76 (n : Int) : cvV Tryz.prog 2 76 (.int .i64 n) = some (.int .u64 (IntKind.u64.wrap n)) := by kernel_rfl
@[simp] theorem zQ (n : Int) : cvV Tryz.prog 3 5 (.int .i64 n) = some (.int .u8 (IntKind.u8.wrap n)) := by kernel_rfl
@[simp] theorem cv_3_30 (n : Int) : cvV Tryz.prog 3 30 (.int .i64 n) = some (.int .u32 (IntKind.u32.wrap n)) := by kernel_rfl
@[simp] theorem yH (n : Int) : cvV Tryz.prog 3 76 (.int .i64 n) = some (.int .u64 (IntKind.u64.wrap n)) := by kernel_rfl
@[simp] theorem cv_5_3 (n : Int) : cvV Tryz.prog 5 3 (.int .u8 n) = some (.int .i64 (IntKind.i64.wrap n)) := by kernel_rfl
@[simp] theorem cv_5_30 (n : Int) : cvV Tryz.prog 5 30 (.int .u8 n) = some (.int .u32 (IntKind.u32.wrap n)) := by kernel_rfl
@[simp] theorem cv_5_76 (n : Int) : cvV Tryz.prog 5 76 (.int .u8 n) = some (.int .u64 (IntKind.u64.wrap n)) := by kernel_rfl
@[simp] theorem cv_30_2 (n : Int) : cvV Tryz.prog 30 2 (.int .u32 n) = some (.int .i64 (IntKind.i64.wrap n)) := by kernel_rfl
@[simp] theorem cv_30_3 (n : Int) : cvV Tryz.prog 30 3 (.int .u32 n) = some (.int .i64 (IntKind.i64.wrap n)) := by kernel_rfl
@[simp] theorem cv_30_5 (n : Int) : cvV Tryz.prog 30 5 (.int .u32 n) = some (.int .u8 (IntKind.u8.wrap n)) := by kernel_rfl
@[simp] theorem ze (n : Int) : cvV Tryz.prog 30 76 (.int .u32 n) = some (.int .u64 (IntKind.u64.wrap n)) := by kernel_rfl
@[simp] theorem cv_34_3 (n : Int) : cvV Tryz.prog 34 3 (.int .u16 n) = some (.int .i64 (IntKind.i64.wrap n)) := by kernel_rfl
@[simp] theorem cv_76_2 (n : Int) : cvV Tryz.prog 76 2 (.int .u64 n) = some (.int .i64 (IntKind.i64.wrap n)) := by kernel_rfl
@[simp] theorem cv_76_3 (n : Int) : cvV Tryz.prog 76 3 (.int .u64 n) = some (.int .i64 (IntKind.i64.wrap n)) := by kernel_rfl
@[simp] theorem cv_76_5 (n : Int) : cvV Tryz.prog 76 5 (.int .u64 n) = some (.int .u8 (IntKind.u8.wrap n)) := by kernel_rfl
@[simp] theorem cv_76_30 (n : Int) : cvV Tryz.prog 76 30 (.int .u64 n) = some (.int .u32 (IntKind.u32.wrap n)) := by kernel_rfl
@[simp] theorem cv_76_50 (n : Int) : cvV Tryz.prog 76 50 (.int .u64 n) = some (.float .f64 (FloatKind.f64.nearest n)) := by kernel_rfl
noncomputable def B4_10 (v1 : Value) (x8 : AV) (v9 v30 v31 : Value) (b7 b10 : List AV) (hp : Hp) : Option (AV × Hp) := go cxX 4 [.code (sub [1, 1, 1, 1, 1, 1, 1, 0, 1, 0, 0, 0] cd4), .code (sub [1, 1, 1, 1, 1, 1, 1, 0, 1, 0, 0, 1] cd4), .inLoop (sub [1, 1, 1, 1, 1, 1, 1, 0, 1, 0, 0] cd4), .inBlock 0, .code (sub [1, 1, 1, 1, 1, 1, 1, 1] cd4)] ⟨[(1, .sv v1), (7, .lp 7 0 0), (8, .av x8), (9, .sv v9), (10, .lp 10 0 0), (30, .sv v30), (31, .sv v31)], [(7, 0, b7), (10, 0, b10)], hp⟩
theorem E4 (a0 a1 a2 : AV) (hp : Hp) : run cxX 4 [a0, a1, a2] hp = ((asSc a1).bind fun y0 => ((asSc a2).bind fun y1 => ((qh 7 a0).bind fun y2 => ((qi [] []).bind fun y3 => ((run cxX 10 [] hp0).bind fun y4 => ((qm (y4).1).bind fun y5 => ((asSc (y4).1).bind fun y6 => ((unV Tryz.prog .not y6).bind fun y7 => ((asB y7).bind fun y8 => (cond y8 (some (Prod.mk (AV.sc (.bool false)) hp)) ((getN (List.map ro1 y2) 0 7).bind fun y9 => ((qi [AV.agg (List.map ro1 y9)] []).bind fun y10 => ((run cxX 14 [ro (AV.agg (List.map ro1 y9))] hp0).bind fun y11 => ((qm (y11).1).bind fun y12 => ((asSc (y11).1).bind fun y13 => ((unV Tryz.prog .not y13).bind fun y14 => ((asB y14).bind fun y15 => (cond y15 (some (Prod.mk (AV.sc (.bool true)) hp)) ((putN (List.map ro1 y2) 5 [AV.sc (.slice none 0 0)]).bind fun y16 => ((putN y16 6 [AV.sc (.slice none 0 0)]).bind fun y17 => ((getN y17 0 7).bind fun y18 => ((qi [AV.agg (List.map ro1 y18)] []).bind fun y19 => ((run cxX 15 [ro (AV.agg (List.map ro1 y18))] hp0).bind fun y20 => ((qm (y20).1).bind fun y21 => ((qM (y20).1).bind fun y22 => ((qh 23 (y20).1).bind fun y23 => ((putN [AV.sc (.int .u8 (.ofNat 0)), AV.sc (.slice none 0 0), AV.sc (.int .i64 (.ofNat 0)), AV.sc (.slice none 0 0), AV.sc (.int .i64 (.ofNat 0)), AV.sc (.slice none 0 0), AV.sc (.int .i64 (.ofNat 0)), AV.sc (.int .i64 (.ofNat 0)), AV.sc (.slice none 0 0), AV.sc (.int .i64 (.ofNat 0)), AV.sc (.int .i64 (.ofNat 0)), AV.sc (.slice none 0 0), AV.sc (.int .i64 (.ofNat 0)), AV.sc (.int .u32 (.ofNat 0)), AV.sc (.int .u32 (.ofNat 0)), AV.sc (.int .u32 (.ofNat 0)), AV.sc (.int .u32 (.ofNat 0)), AV.sc (.int .u32 (.ofNat 0)), AV.sc (.int .u32 (.ofNat 0)), AV.sc (.int .u32 (.ofNat 0)), AV.sc (.float .f64 0), AV.sc (.float .f64 0), AV.sc (.slice none 0 0)] 0 y23).bind fun y24 => ((getN y24 0 23).bind fun y25 => ((qi [AV.agg (List.map ro1 y25)] []).bind fun y26 => ((run cxX 16 [ro (AV.agg (List.map ro1 y25))] hp0).bind fun y27 => ((qm (y27).1).bind fun y28 => ((qo 2 (y27).1).bind fun y29 => ((asSc (ro (nthA (y27).1 1))).bind fun y30 => ((cvV Tryz.prog 5 30 y1).bind fun y31 => (B4_10 y0 (ro (nthA (y27).1 0)) y30 y31 (.int .u32 (.ofNat 0)) y24 [AV.sc (.int .u8 (.ofNat 0)), AV.sc (.slice none 0 0), AV.sc (.int .i64 (.ofNat 0)), AV.sc (.slice none 0 0), AV.sc (.int .i64 (.ofNat 0)), AV.sc (.slice none 0 0), AV.sc (.int .i64 (.ofNat 0)), AV.sc (.int .i64 (.ofNat 0)), AV.sc (.slice none 0 0), AV.sc (.int .i64 (.ofNat 0)), AV.sc (.int .i64 (.ofNat 0)), AV.sc (.slice none 0 0), AV.sc (.int .i64 (.ofNat 0)), AV.sc (.int .u32 (.ofNat 0)), AV.sc (.int .u32 (.ofNat 0)), AV.sc (.int .u32 (.ofNat 0)), AV.sc (.int .u32 (.ofNat 0)), AV.sc (.int .u32 (.ofNat 0)), AV.sc (.int .u32 (.ofNat 0)), AV.sc (.int .u32 (.ofNat 0)), AV.sc (.float .f64 0), AV.sc (.float .f64 0), AV.sc (.slice none 0 0)] hp))))))))))))))))))))))))))))))))))) :=
 (qf cxX 4 ss4 400 _ _).trans (by kernel_rfl)
theorem B4_10_eq (v1 : Value) (x8 : AV) (v9 v30 v31 : Value) (b7 b10 : List AV) (hp : Hp) : B4_10 v1 x8 v9 v30 v31 b7 b10 hp = ((binV Tryz.prog .lss 30 (.tmp 31) (.tmp 30) v31 v30).bind fun y32 => ((asB y32).bind fun y33 => (cond y33 ((getC b10 1).bind fun y34 => ((binV Tryz.prog .shr 30 (.tmp 36) (.const (.int .u64 (.ofNat 8))) v1 (.int .u64 (.ofNat 8))).bind fun y35 => ((binV Tryz.prog .shl 30 (.tmp 37) (.const (.int .u64 (.ofNat 8))) y35 (.int .u64 (.ofNat 8))).bind fun y36 => ((binV Tryz.prog .add 30 (.tmp 38) (.tmp 39) y36 v31).bind fun y37 => ((okV [AV.sc y37]).bind fun y38 => ((appA 4 1 y34 (AV.us 1 [AV.sc y37])).bind fun y39 => ((qh 1 y39).bind fun y40 => ((putN (List.set b10 1 (ro1 y34)) 1 y40).bind fun y41 => ((binV Tryz.prog .add 30 (.tmp 31) (.const (.int .u32 (.ofNat 1))) v31 (.int .u32 (.ofNat 1))).bind fun y42 => (B4_10 v1 x8 v9 v30 y42 b7 y41 hp)))))))))) ((getN b10 0 23).bind fun y43 => ((qi [AV.agg (List.map ro1 y43)] []).bind fun y44 => ((run cxX 16 [ro (AV.agg (List.map ro1 y43))] hp0).bind fun y45 => ((qm (y45).1).bind fun y46 => ((qo 2 (y45).1).bind fun y47 => ((asSc (ro (nthA (y45).1 1))).bind fun y48 => ((binV Tryz.prog .eql 57 (.tmp 50) (.const (.int .i64 (.ofNat 0))) v9 (.int .i64 (.ofNat 0))).bind fun y49 => ((asB y49).bind fun y50 => (cond y50 ((binV Tryz.prog .eql 57 (.tmp 53) (.const (.int .i64 (.ofNat 0))) y48 (.int .i64 (.ofNat 0))).bind fun y51 => ((asB y51).bind fun y52 => (cond y52 ((qc b7 0).bind fun y53 => ((binV Tryz.prog .eql 39 (.tmp 58) (.const (.int .u8 (.ofNat 4))) y53 (.int .u8 (.ofNat 4))).bind fun y54 => ((asB y54).bind fun y55 => (cond y55 ((lenA (ro (ro (nthA (y45).1 0)))).bind fun y56 => ((binV Tryz.prog .leq 3 (.tmp 68) (.const (.int .i64 (.ofNat 12))) (.int .i64 (.ofNat y56)) (.int .i64 (.ofNat 12))).bind fun y57 => (some (Prod.mk (AV.sc y57) hp)))) ((lenA (ro x8)).bind fun y58 => ((binV Tryz.prog .leq 3 (.tmp 62) (.const (.int .i64 (.ofNat 80))) (.int .i64 (.ofNat y58)) (.int .i64 (.ofNat 80))).bind fun y59 => ((asB y59).bind fun y60 => (cond y60 ((lenA (ro (ro (nthA (y45).1 0)))).bind fun y61 => ((binV Tryz.prog .leq 3 (.tmp 68) (.const (.int .i64 (.ofNat 12))) (.int .i64 (.ofNat y61)) (.int .i64 (.ofNat 12))).bind fun y62 => (some (Prod.mk (AV.sc y62) hp)))) (some (Prod.mk (AV.sc (.bool false)) hp)))))))))) (some (Prod.mk (AV.sc (.bool false)) hp))))) (some (Prod.mk (AV.sc (.bool false)) hp)))))))))))))) :=
 (qe cxX 4 ss4 400 _ _).trans (by kernel_rfl)
noncomputable def B11_2 (x0 : AV) (v1 v6 : Value) (x9 : AV) (v10 v11 : Value) (hp : Hp) : Option (AV × Hp) := go cxX 11 [.code (sub [1, 1, 0, 0, 0] cd11), .code (sub [1, 1, 0, 0, 1] cd11), .inLoop (sub [1, 1, 0, 0] cd11), .inBlock 0] ⟨[(0, .av x0), (1, .sv v1), (6, .sv v6), (9, .av x9), (10, .sv v10), (11, .sv v11)], [], hp⟩
noncomputable def B11_6 (x0 : AV) (v1 v6 v8 : Value) (x9 : AV) (v10 v11 : Value) (hp : Hp) : Option (AV × Hp) := go cxX 11 [.code (sub [1, 1, 0, 0, 1, 1, 0, 0, 1, 1, 0] cd11), .code (sub [1, 1, 0, 0, 1, 1, 0, 0, 1, 1, 1] cd11), .inBlock 1, .code (sub [1, 1, 0, 0, 1, 1, 1] cd11), .inLoop (sub [1, 1, 0, 0] cd11), .inBlock 0] ⟨[(0, .av x0), (1, .sv v1), (6, .sv v6), (8, .sv v8), (9, .av x9), (10, .sv v10), (11, .sv v11)], [], hp⟩
theorem E11 (a0 a1 a2 : AV) (hp : Hp) : run cxX 11 [a0, a1, a2] hp = ((asSc a1).bind fun y0 => ((lenA (ro a2)).bind fun y1 => (B11_2 a0 y0 (.int .i64 (.ofNat 0)) (ro a2) (.int .i64 (.ofNat y1)) (.int .i64 (.ofNat 0)) hp))) :=
 (qf cxX 11 ss11 400 _ _).trans (by kernel_rfl)
theorem B11_2_eq (x0 : AV) (v1 v6 : Value) (x9 : AV) (v10 v11 : Value) (hp : Hp) : B11_2 x0 v1 v6 x9 v10 v11 hp = ((binV Tryz.prog .lss 3 (.tmp 11) (.tmp 10) v11 v10).bind fun y2 => ((asB y2).bind fun y3 => (cond y3 ((idxA 1 x9 v11).bind fun y4 => ((qc y4 0).bind fun y5 => ((bltV Tryz.prog Go.Builtin.max (Array.mk [3, 3]) 3 [v1, .int .i64 (.ofNat 1)]).bind fun y6 => ((binV Tryz.prog .rem 3 (.tmp 16) (.tmp 18) v11 y6).bind fun y7 => ((binV Tryz.prog .eql 3 (.tmp 19) (.const (.int .i64 (.ofNat 0))) y7 (.int .i64 (.ofNat 0))).bind fun y8 => ((asB y8).bind fun y9 => (cond y9 (B11_6 x0 v1 (.int .i64 (.ofNat 0)) y5 x9 v10 v11 hp) (B11_6 x0 v1 v6 y5 x9 v10 v11 hp)))))))) (some (Prod.mk (AV.tup []) hp))))) :=
 (qe cxX 11 ss11 400 _ _).trans (by kernel_rfl)
theorem B11_6_eq (x0 : AV) (v1 v6 v8 : Value) (x9 : AV) (v10 v11 : Value) (hp : Hp) : B11_6 x0 v1 v6 v8 x9 v10 v11 hp = ((cvV Tryz.prog 30 2 v8).bind fun y10 => ((binV Tryz.prog .sub 2 (.tmp 23) (.tmp 24) y10 v6).bind fun y11 => ((run cxX 12 [ro (ro x0), AV.sc y11] hp).bind fun y12 => ((qo 0 (y12).1).bind fun y13 => ((cvV Tryz.prog 30 2 v8).bind fun y14 => ((binV Tryz.prog .add 3 (.tmp 11) (.const (.int .i64 (.ofNat 1))) v11 (.int .i64 (.ofNat 1))).bind fun y15 => (B11_2 x0 v1 y14 x9 v10 y15 (y12).2))))))) :=
 (qe cxX 11 ss11 400 _ _).trans (by kernel_rfl)
noncomputable def xq (x5 : AV) (hp : Hp) : Option (AV × Hp) := go cxX 16 [.code (sub [1, 1, 1, 1, 0] cd16), .code (sub [1, 0, 1, 1, 0, 1] cd16)] ⟨[(5, .av x5)], [], hp⟩
theorem E16 (a0 : AV) (hp : Hp) : run cxX 16 [a0] hp = ((qh 23 a0).bind fun y0 => ((getN (List.map ro1 y0) 0 23).bind fun y1 => ((qi [AV.agg (List.map ro1 y1)] []).bind fun y2 => ((run cxX 23 [ro (AV.agg (List.map ro1 y1))] hp0).bind fun y3 => ((qm (y3).1).bind fun y4 => ((asSc (y3).1).bind fun y5 => ((binV Tryz.prog .neq 57 (.tmp 16) (.const (.int .i64 (.ofNat 0))) y5 (.int .i64 (.ofNat 0))).bind fun y6 => ((asB y6).bind fun y7 => (cond y7 (some (Prod.mk (AV.tup [AV.sc (.slice none 0 0), AV.sc y5]) hp)) ((qc (List.map ro1 y0) 0).bind fun y8 => ((binV Tryz.prog .eql 39 (.tmp 22) (.const (.int .u8 (.ofNat 0))) y8 (.int .u8 (.ofNat 0))).bind fun y9 => ((asB y9).bind fun y10 => (cond y10 ((getC (List.map ro1 y0) 1).bind fun y11 => ((qi [ro1 y11] []).bind fun y12 => ((run cxX 32 [ro (ro1 y11)] hp0).bind fun y13 => ((qm (y13).1).bind fun y14 => ((qo 2 (y13).1).bind fun y15 => ((asSc (ro (nthA (y13).1 1))).bind fun y16 => ((run cxX 33 [ro (ro (ro (nthA (y13).1 0))), ro (ro (AV.ptr (hp).1 0 0))] (Hp.new hp [ro1 (AV.sc (.slice none 0 0))])).bind fun y17 => ((qo 0 (y17).1).bind fun y18 => (xq (AV.ptr (hp).1 0 0) (y17).2))))))))) ((binV Tryz.prog .eql 39 (.tmp 22) (.const (.int .u8 (.ofNat 1))) y8 (.int .u8 (.ofNat 1))).bind fun y19 => ((asB y19).bind fun y20 => (cond y20 ((qc (List.map ro1 y0) 2).bind fun y21 => ((cvV Tryz.prog 3 76 y21).bind fun y22 => ((run cxX 25 [ro (ro (AV.ptr (hp).1 0 0)), AV.sc y22] (Hp.new hp [ro1 (AV.sc (.slice none 0 0))])).bind fun y23 => ((qo 0 (y23).1).bind fun y24 => ((getC (List.map ro1 y0) 3).bind fun y25 => ((qi [ro1 y25] []).bind fun y26 => ((run cxX 34 [ro (ro1 y25)] hp0).bind fun y27 => ((qm (y27).1).bind fun y28 => ((qo 2 (y27).1).bind fun y29 => ((asSc (ro (nthA (y27).1 1))).bind fun y30 => ((run cxX 35 [ro (ro (AV.ptr (hp).1 0 0)), ro (ro (ro (nthA (y27).1 0)))] (y23).2).bind fun y31 => ((qo 0 (y31).1).bind fun y32 => (xq (AV.ptr (hp).1 0 0) (y31).2))))))))))))) ((binV Tryz.prog .eql 39 (.tmp 22) (.const (.int .u8 (.ofNat 2))) y8 (.int .u8 (.ofNat 2))).bind fun y33 => ((asB y33).bind fun y34 => (cond y34 ((qc (List.map ro1 y0) 4).bind fun y35 => ((cvV Tryz.prog 3 5 y35).bind fun y36 => ((run cxX 36 [ro (ro (AV.ptr (hp).1 0 0)), AV.sc y36] (Hp.new hp [ro1 (AV.sc (.slice none 0 0))])).bind fun y37 => ((qo 0 (y37).1).bind fun y38 => ((getC (List.map ro1 y0) 5).bind fun y39 => ((qi [AV.sc (.int .i64 (.ofNat 64)), ro1 y39] []).bind fun y40 => ((run cxX 37 [AV.sc (.int .i64 (.ofNat 64)), ro (ro1 y39)] hp0).bind fun y41 => ((qm (y41).1).bind fun y42 => ((qo 2 (y41).1).bind fun y43 => ((asSc (ro (nthA (y41).1 1))).bind fun y44 => ((run cxX 35 [ro (ro (AV.ptr (hp).1 0 0)), ro (ro (ro (nthA (y41).1 0)))] (y37).2).bind fun y45 => ((qo 0 (y45).1).bind fun y46 => (xq (AV.ptr (hp).1 0 0) (y45).2))))))))))))) ((binV Tryz.prog .eql 39 (.tmp 22) (.const (.int .u8 (.ofNat 3))) y8 (.int .u8 (.ofNat 3))).bind fun y47 => ((asB y47).bind fun y48 => (cond y48 ((qc (List.map ro1 y0) 6).bind fun y49 => ((cvV Tryz.prog 3 76 y49).bind fun y50 => ((run cxX 25 [ro (ro (AV.ptr (hp).1 0 0)), AV.sc y50] (Hp.new hp [ro1 (AV.sc (.slice none 0 0))])).bind fun y51 => ((qo 0 (y51).1).bind fun y52 => ((qc (List.map ro1 y0) 7).bind fun y53 => ((cvV Tryz.prog 3 5 y53).bind fun y54 => ((run cxX 36 [ro (ro (AV.ptr (hp).1 0 0)), AV.sc y54] (y51).2).bind fun y55 => ((qo 0 (y55).1).bind fun y56 => ((getC (List.map ro1 y0) 8).bind fun y57 => ((qi [ro1 y57] []).bind fun y58 => ((run cxX 38 [ro (ro1 y57)] hp0).bind fun y59 => ((qm (y59).1).bind fun y60 => ((qo 2 (y59).1).bind fun y61 => ((asSc (ro (nthA (y59).1 1))).bind fun y62 => ((qh 5 (ro (nthA (y59).1 0))).bind fun y63 => ((putN [AV.sc (.int .i64 (.ofNat 0)), AV.sc (.int .u32 (.ofNat 0)), AV.sc (.int .i64 (.ofNat 0)), AV.sc (.slice none 0 0), AV.sc (.slice none 0 0)] 0 y63).bind fun y64 => ((getN y64 0 5).bind fun y65 => ((run cxX 39 [ro (AV.agg (List.map ro1 y65)), ro (ro (AV.ptr (hp).1 0 0))] (y55).2).bind fun y66 => ((qo 0 (y66).1).bind fun y67 => (xq (AV.ptr (hp).1 0 0) (y66).2)))))))))))))))))))) ((binV Tryz.prog .eql 39 (.tmp 22) (.const (.int .u8 (.ofNat 4))) y8 (.int .u8 (.ofNat 4))).bind fun y68 => ((asB y68).bind fun y69 => (cond y69 ((qc (List.map ro1 y0) 9).bind fun y70 => ((cvV Tryz.prog 3 5 y70).bind fun y71 => ((run cxX 36 [ro (ro (AV.ptr (hp).1 0 0)), AV.sc y71] (Hp.new hp [ro1 (AV.sc (.slice none 0 0))])).bind fun y72 => ((qo 0 (y72).1).bind fun y73 => ((qc (List.map ro1 y0) 10).bind fun y74 => ((cvV Tryz.prog 3 76 y74).bind fun y75 => ((run cxX 25 [ro (ro (AV.ptr (hp).1 0 0)), AV.sc y75] (y72).2).bind fun y76 => ((qo 0 (y76).1).bind fun y77 => ((qc (List.map ro1 y0) 10).bind fun y78 => ((getC (List.map ro1 y0) 11).bind fun y79 => ((run cxX 11 [ro (ro (AV.ptr (hp).1 0 0)), AV.sc y78, ro (ro1 y79)] (y76).2).bind fun y80 => ((qo 0 (y80).1).bind fun y81 => (xq (AV.ptr (hp).1 0 0) (y80).2))))))))))))) ((binV Tryz.prog .eql 39 (.tmp 22) (.const (.int .u8 (.ofNat 5))) y8 (.int .u8 (.ofNat 5))).bind fun y82 => ((asB y82).bind fun y83 => (cond y83 ((getN (List.map ro1 y0) 12 11).bind fun y84 => ((run cxX 40 [ro (ro (AV.ptr (hp).1 0 0)), ro (AV.agg (List.map ro1 y84))] (Hp.new hp [ro1 (AV.sc (.slice none 0 0))])).bind fun y85 => ((qo 0 (y85).1).bind fun y86 => (xq (AV.ptr (hp).1 0 0) (y85).2)))) (xq (AV.ptr (hp).1 0 0) (Hp.new hp [ro1 (AV.sc (.slice none 0 0))])))))))))))))))))))))))))))))) :=
 (qf cxX 16 ss16 400 _ _).trans (by kernel_rfl)
theorem B16_28_eq (x5 : AV) (hp : Hp) : xq x5 hp = ((run cxX 13 [ro (ro x5)] hp).bind fun y87 => ((qM (y87).1).bind fun y88 => (some (Prod.mk (AV.tup ((y87).1 :: [AV.sc (.int .i64 (.ofNat 0))])) (y87).2)))) :=
 (qe cxX 16 ss16 400 _ _).trans (by kernel_rfl)
noncomputable def B17_24 (x9 : AV) (b6 b10 : List AV) (hp : Hp) : Option (AV × Hp) := go cxX 17 [.code (sub [1, 1, 1, 1, 1, 1, 1, 0, 0] cd17), .code (sub [1, 1, 1, 1, 1, 1, 1, 0, 1] cd17), .code (sub [1, 1, 1, 1, 1, 1, 1, 1] cd17)] ⟨[(6, .lp 6 0 0), (9, .av x9), (10, .lp 10 0 0)], [(6, 0, b6), (10, 0, b10)], hp⟩
theorem E17 (a0 a1 a2 : AV) (hp : Hp) : run cxX 17 [a0, a1, a2] hp = ((asSc a0).bind fun y0 => ((binV Tryz.prog .geq 39 (.tmp 13) (.const (.int .u8 (.ofNat 6))) y0 (.int .u8 (.ofNat 6))).bind fun y1 => ((asB y1).bind fun y2 => (cond y2 (some (Prod.mk (AV.tup [AV.agg [AV.sc (.int .u8 (.ofNat 0)), AV.sc (.slice none 0 0), AV.sc (.int .i64 (.ofNat 0)), AV.sc (.slice none 0 0), AV.sc (.int .i64 (.ofNat 0)), AV.sc (.slice none 0 0), AV.sc (.int .i64 (.ofNat 0)), AV.sc (.int .i64 (.ofNat 0)), AV.sc (.slice none 0 0), AV.sc (.int .i64 (.ofNat 0)), AV.sc (.int .i64 (.ofNat 0)), AV.sc (.slice none 0 0), AV.sc (.int .i64 (.ofNat 0)), AV.sc (.int .u32 (.ofNat 0)), AV.sc (.int .u32 (.ofNat 0)), AV.sc (.int .u32 (.ofNat 0)), AV.sc (.int .u32 (.ofNat 0)), AV.sc (.int .u32 (.ofNat 0)), AV.sc (.int .u32 (.ofNat 0)), AV.sc (.int .u32 (.ofNat 0)), AV.sc (.float .f64 0), AV.sc (.float .f64 0), AV.sc (.slice none 0 0)], AV.sc (.int .i64 (.ofNat 5))]) hp)) ((lenA (ro a1)).bind fun y3 => ((binV Tryz.prog .gtr 3 (.tmp 17) (.const (.int .i64 (.ofNat 1048576))) (.int .i64 (.ofNat y3)) (.int .i64 (.ofNat 1048576))).bind fun y4 => ((asB y4).bind fun y5 => (cond y5 (some (Prod.mk (AV.tup [AV.agg [AV.sc (.int .u8 (.ofNat 0)), AV.sc (.slice none 0 0), AV.sc (.int .i64 (.ofNat 0)), AV.sc (.slice none 0 0), AV.sc (.int .i64 (.ofNat 0)), AV.sc (.slice none 0 0), AV.sc (.int .i64 (.ofNat 0)), AV.sc (.int .i64 (.ofNat 0)), AV.sc (.slice none 0 0), AV.sc (.int .i64 (.ofNat 0)), AV.sc (.int .i64 (.ofNat 0)), AV.sc (.slice none 0 0), AV.sc (.int .i64 (.ofNat 0)), AV.sc (.int .u32 (.ofNat 0)), AV.sc (.int .u32 (.ofNat 0)), AV.sc (.int .u32 (.ofNat 0)), AV.sc (.int .u32 (.ofNat 0)), AV.sc (.int .u32 (.ofNat 0)), AV.sc (.int .u32 (.ofNat 0)), AV.sc (.int .u32 (.ofNat 0)), AV.sc (.float .f64 0), AV.sc (.float .f64 0), AV.sc (.slice none 0 0)], AV.sc (.int .i64 (.ofNat 6))]) hp)) ((lenA (ro a1)).bind fun y6 => ((qi [AV.sc (.int .i64 (.ofNat y6))] []).bind fun y7 => ((run cxX 21 [AV.sc (.int .i64 (.ofNat y6))] hp0).bind fun y8 => ((qm (y8).1).bind fun y9 => ((asSc (y8).1).bind fun y10 => ((run cxX 41 [ro (ro a2), AV.sc y10] hp).bind fun y11 => ((asSc (y11).1).bind fun y12 => ((binV Tryz.prog .neq 57 (.tmp 25) (.const (.int .i64 (.ofNat 0))) y12 (.int .i64 (.ofNat 0))).bind fun y13 => ((asB y13).bind fun y14 => (cond y14 (some (Prod.mk (AV.tup [AV.agg [AV.sc (.int .u8 (.ofNat 0)), AV.sc (.slice none 0 0), AV.sc (.int .i64 (.ofNat 0)), AV.sc (.slice none 0 0), AV.sc (.int .i64 (.ofNat 0)), AV.sc (.slice none 0 0), AV.sc (.int .i64 (.ofNat 0)), AV.sc (.int .i64 (.ofNat 0)), AV.sc (.slice none 0 0), AV.sc (.int .i64 (.ofNat 0)), AV.sc (.int .i64 (.ofNat 0)), AV.sc (.slice none 0 0), AV.sc (.int .i64 (.ofNat 0)), AV.sc (.int .u32 (.ofNat 0)), AV.sc (.int .u32 (.ofNat 0)), AV.sc (.int .u32 (.ofNat 0)), AV.sc (.int .u32 (.ofNat 0)), AV.sc (.int .u32 (.ofNat 0)), AV.sc (.int .u32 (.ofNat 0)), AV.sc (.int .u32 (.ofNat 0)), AV.sc (.float .f64 0), AV.sc (.float .f64 0), AV.sc (.slice none 0 0)], AV.sc y12]) (y11).2)) ((run cxX 42 [ro (ro a1)] (y11).2).bind fun y15 => ((qM (y15).1).bind fun y16 => ((binV Tryz.prog .eql 39 (.tmp 33) (.const (.int .u8 (.ofNat 0))) y0 (.int .u8 (.ofNat 0))).bind fun y17 => ((asB y17).bind fun y18 => (cond y18 ((run cxX 43 [ro (ro (y15).1)] (y15).2).bind fun y19 => ((qM (y19).1).bind fun y20 => ((qi ((y19).1 :: []) []).bind fun y21 => ((run cxX 44 [ro (y19).1] hp0).bind fun y22 => ((qm (y22).1).bind fun y23 => ((qM (y22).1).bind fun y24 => ((qh 1 (y22).1).bind fun y25 => ((putN [AV.sc y0, AV.sc (.slice none 0 0), AV.sc (.int .i64 (.ofNat 0)), AV.sc (.slice none 0 0), AV.sc (.int .i64 (.ofNat 0)), AV.sc (.slice none 0 0), AV.sc (.int .i64 (.ofNat 0)), AV.sc (.int .i64 (.ofNat 0)), AV.sc (.slice none 0 0), AV.sc (.int .i64 (.ofNat 0)), AV.sc (.int .i64 (.ofNat 0)), AV.sc (.slice none 0 0), AV.sc (.int .i64 (.ofNat 0)), AV.sc (.int .u32 (.ofNat 0)), AV.sc (.int .u32 (.ofNat 0)), AV.sc (.int .u32 (.ofNat 0)), AV.sc (.int .u32 (.ofNat 0)), AV.sc (.int .u32 (.ofNat 0)), AV.sc (.int .u32 (.ofNat 0)), AV.sc (.int .u32 (.ofNat 0)), AV.sc (.float .f64 0), AV.sc (.float .f64 0), AV.sc (.slice none 0 0)] 1 y25).bind fun y26 => (B17_24 (y15).1 [AV.sc (.int .u8 (.ofNat 0)), AV.sc (.slice none 0 0), AV.sc (.int .i64 (.ofNat 0)), AV.sc (.slice none 0 0), AV.sc (.int .i64 (.ofNat 0)), AV.sc (.slice none 0 0), AV.sc (.int .i64 (.ofNat 0)), AV.sc (.int .i64 (.ofNat 0)), AV.sc (.slice none 0 0), AV.sc (.int .i64 (.ofNat 0)), AV.sc (.int .i64 (.ofNat 0)), AV.sc (.slice none 0 0), AV.sc (.int .i64 (.ofNat 0)), AV.sc (.int .u32 (.ofNat 0)), AV.sc (.int .u32 (.ofNat 0)), AV.sc (.int .u32 (.ofNat 0)), AV.sc (.int .u32 (.ofNat 0)), AV.sc (.int .u32 (.ofNat 0)), AV.sc (.int .u32 (.ofNat 0)), AV.sc (.int .u32 (.ofNat 0)), AV.sc (.float .f64 0), AV.sc (.float .f64 0), AV.sc (.slice none 0 0)] y26 (y19).2))))))))) ((binV Tryz.prog .eql 39 (.tmp 33) (.const (.int .u8 (.ofNat 1))) y0 (.int .u8 (.ofNat 1))).bind fun y27 => ((asB y27).bind fun y28 => (cond y28 ((run cxX 45 [ro (ro (y15).1), AV.sc (.int .u64 (.ofNat 1024))] (y15).2).bind fun y29 => ((asSc (y29).1).bind fun y30 => ((cvV Tryz.prog 76 3 y30).bind fun y31 => ((run cxX 46 [ro (ro (y15).1)] (y29).2).bind fun y32 => ((qM (y32).1).bind fun y33 => ((qh 1 (y32).1).bind fun y34 => ((putN [AV.sc y31, AV.sc (.slice none 0 0)] 1 y34).bind fun y35 => ((qh 2 (AV.agg (List.map ro1 y35))).bind fun y36 => ((putN [AV.sc y0, AV.sc (.slice none 0 0), AV.sc (.int .i64 (.ofNat 0)), AV.sc (.slice none 0 0), AV.sc (.int .i64 (.ofNat 0)), AV.sc (.slice none 0 0), AV.sc (.int .i64 (.ofNat 0)), AV.sc (.int .i64 (.ofNat 0)), AV.sc (.slice none 0 0), AV.sc (.int .i64 (.ofNat 0)), AV.sc (.int .i64 (.ofNat 0)), AV.sc (.slice none 0 0), AV.sc (.int .i64 (.ofNat 0)), AV.sc (.int .u32 (.ofNat 0)), AV.sc (.int .u32 (.ofNat 0)), AV.sc (.int .u32 (.ofNat 0)), AV.sc (.int .u32 (.ofNat 0)), AV.sc (.int .u32 (.ofNat 0)), AV.sc (.int .u32 (.ofNat 0)), AV.sc (.int .u32 (.ofNat 0)), AV.sc (.float .f64 0), AV.sc (.float .f64 0), AV.sc (.slice none 0 0)] 2 y36).bind fun y37 => (B17_24 (y15).1 [AV.sc (.int .u8 (.ofNat 0)), AV.sc (.slice none 0 0), AV.sc (.int .i64 (.ofNat 0)), AV.sc (.slice none 0 0), AV.sc (.int .i64 (.ofNat 0)), AV.sc (.slice none 0 0), AV.sc (.int .i64 (.ofNat 0)), AV.sc (.int .i64 (.ofNat 0)), AV.sc (.slice none 0 0), AV.sc (.int .i64 (.ofNat 0)), AV.sc (.int .i64 (.ofNat 0)), AV.sc (.slice none 0 0), AV.sc (.int .i64 (.ofNat 0)), AV.sc (.int .u32 (.ofNat 0)), AV.sc (.int .u32 (.ofNat 0)), AV.sc (.int .u32 (.ofNat 0)), AV.sc (.int .u32 (.ofNat 0)), AV.sc (.int .u32 (.ofNat 0)), AV.sc (.int .u32 (.ofNat 0)), AV.sc (.int .u32 (.ofNat 0)), AV.sc (.float .f64 0), AV.sc (.float .f64 0), AV.sc (.slice none 0 0)] y37 (y32).2)))))))))) ((binV Tryz.prog .eql 39 (.tmp 33) (.const (.int .u8 (.ofNat 2))) y0 (.int .u8 (.ofNat 2))).bind fun y38 => ((asB y38).bind fun y39 => (cond y39 ((run cxX 47 [ro (ro (y15).1)] (y15).2).bind fun y40 => ((qM (y40).1).bind fun y41 => ((qh 2 (y40).1).bind fun y42 => ((putN [AV.sc y0, AV.sc (.slice none 0 0), AV.sc (.int .i64 (.ofNat 0)), AV.sc (.slice none 0 0), AV.sc (.int .i64 (.ofNat 0)), AV.sc (.slice none 0 0), AV.sc (.int .i64 (.ofNat 0)), AV.sc (.int .i64 (.ofNat 0)), AV.sc (.slice none 0 0), AV.sc (.int .i64 (.ofNat 0)), AV.sc (.int .i64 (.ofNat 0)), AV.sc (.slice none 0 0), AV.sc (.int .i64 (.ofNat 0)), AV.sc (.int .u32 (.ofNat 0)), AV.sc (.int .u32 (.ofNat 0)), AV.sc (.int .u32 (.ofNat 0)), AV.sc (.int .u32 (.ofNat 0)), AV.sc (.int .u32 (.ofNat 0)), AV.sc (.int .u32 (.ofNat 0)), AV.sc (.int .u32 (.ofNat 0)), AV.sc (.float .f64 0), AV.sc (.float .f64 0), AV.sc (.slice none 0 0)] 4 y42).bind fun y43 => (B17_24 (y15).1 [AV.sc (.int .u8 (.ofNat 0)), AV.sc (.slice none 0 0), AV.sc (.int .i64 (.ofNat 0)), AV.sc (.slice none 0 0), AV.sc (.int .i64 (.ofNat 0)), AV.sc (.slice none 0 0), AV.sc (.int .i64 (.ofNat 0)), AV.sc (.int .i64 (.ofNat 0)), AV.sc (.slice none 0 0), AV.sc (.int .i64 (.ofNat 0)), AV.sc (.int .i64 (.ofNat 0)), AV.sc (.slice none 0 0), AV.sc (.int .i64 (.ofNat 0)), AV.sc (.int .u32 (.ofNat 0)), AV.sc (.int .u32 (.ofNat 0)), AV.sc (.int .u32 (.ofNat 0)), AV.sc (.int .u32 (.ofNat 0)), AV.sc (.int .u32 (.ofNat 0)), AV.sc (.int .u32 (.ofNat 0)), AV.sc (.int .u32 (.ofNat 0)), AV.sc (.float .f64 0), AV.sc (.float .f64 0), AV.sc (.slice none 0 0)] y43 (y40).2))))) ((binV Tryz.prog .eql 39 (.tmp 33) (.const (.int .u8 (.ofNat 3))) y0 (.int .u8 (.ofNat 3))).bind fun y44 => ((asB y44).bind fun y45 => (cond y45 ((run cxX 45 [ro (ro (y15).1), AV.sc (.int .u64 (.ofNat 4096))] (y15).2).bind fun y46 => ((asSc (y46).1).bind fun y47 => ((cvV Tryz.prog 76 3 y47).bind fun y48 => ((run cxX 48 [ro (ro (y15).1)] (y46).2).bind fun y49 => ((asSc (y49).1).bind fun y50 => ((cvV Tryz.prog 5 3 y50).bind fun y51 => ((run cxX 49 [ro (ro (y15).1)] (y49).2).bind fun y52 => ((qM (y52).1).bind fun y53 => ((qi ((y52).1 :: []) []).bind fun y54 => ((run cxX 50 [ro (y52).1] hp0).bind fun y55 => ((qm (y55).1).bind fun y56 => ((qM (y55).1).bind fun y57 => ((qh 1 (y55).1).bind fun y58 => ((putN [AV.sc y0, AV.sc (.slice none 0 0), AV.sc (.int .i64 (.ofNat 0)), AV.sc (.slice none 0 0), AV.sc (.int .i64 (.ofNat 0)), AV.sc (.slice none 0 0), AV.sc y48, AV.sc y51, AV.sc (.slice none 0 0), AV.sc (.int .i64 (.ofNat 0)), AV.sc (.int .i64 (.ofNat 0)), AV.sc (.slice none 0 0), AV.sc (.int .i64 (.ofNat 0)), AV.sc (.int .u32 (.ofNat 0)), AV.sc (.int .u32 (.ofNat 0)), AV.sc (.int .u32 (.ofNat 0)), AV.sc (.int .u32 (.ofNat 0)), AV.sc (.int .u32 (.ofNat 0)), AV.sc (.int .u32 (.ofNat 0)), AV.sc (.int .u32 (.ofNat 0)), AV.sc (.float .f64 0), AV.sc (.float .f64 0), AV.sc (.slice none 0 0)] 8 y58).bind fun y59 => (B17_24 (y15).1 [AV.sc (.int .u8 (.ofNat 0)), AV.sc (.slice none 0 0), AV.sc (.int .i64 (.ofNat 0)), AV.sc (.slice none 0 0), AV.sc (.int .i64 (.ofNat 0)), AV.sc (.slice none 0 0), AV.sc (.int .i64 (.ofNat 0)), AV.sc (.int .i64 (.ofNat 0)), AV.sc (.slice none 0 0), AV.sc (.int .i64 (.ofNat 0)), AV.sc (.int .i64 (.ofNat 0)), AV.sc (.slice none 0 0), AV.sc (.int .i64 (.ofNat 0)), AV.sc (.int .u32 (.ofNat 0)), AV.sc (.int .u32 (.ofNat 0)), AV.sc (.int .u32 (.ofNat 0)), AV.sc (.int .u32 (.ofNat 0)), AV.sc (.int .u32 (.ofNat 0)), AV.sc (.int .u32 (.ofNat 0)), AV.sc (.int .u32 (.ofNat 0)), AV.sc (.float .f64 0), AV.sc (.float .f64 0), AV.sc (.slice none 0 0)] y59 (y52).2))))))))))))))) ((binV Tryz.prog .eql 39 (.tmp 33) (.const (.int .u8 (.ofNat 4))) y0 (.int .u8 (.ofNat 4))).bind fun y60 => ((asB y60).bind fun y61 => (cond y61 ((run cxX 51 [ro (ro (y15).1)] (y15).2).bind fun y62 => ((qM (y62).1).bind fun y63 => ((qh 3 (y62).1).bind fun y64 => ((putN [AV.sc y0, AV.sc (.slice none 0 0), AV.sc (.int .i64 (.ofNat 0)), AV.sc (.slice none 0 0), AV.sc (.int .i64 (.ofNat 0)), AV.sc (.slice none 0 0), AV.sc (.int .i64 (.ofNat 0)), AV.sc (.int .i64 (.ofNat 0)), AV.sc (.slice none 0 0), AV.sc (.int .i64 (.ofNat 0)), AV.sc (.int .i64 (.ofNat 0)), AV.sc (.slice none 0 0), AV.sc (.int .i64 (.ofNat 0)), AV.sc (.int .u32 (.ofNat 0)), AV.sc (.int .u32 (.ofNat 0)), AV.sc (.int .u32 (.ofNat 0)), AV.sc (.int .u32 (.ofNat 0)), AV.sc (.int .u32 (.ofNat 0)), AV.sc (.int .u32 (.ofNat 0)), AV.sc (.int .u32 (.ofNat 0)), AV.sc (.float .f64 0), AV.sc (.float .f64 0), AV.sc (.slice none 0 0)] 9 y64).bind fun y65 => (B17_24 (y15).1 [AV.sc (.int .u8 (.ofNat 0)), AV.sc (.slice none 0 0), AV.sc (.int .i64 (.ofNat 0)), AV.sc (.slice none 0 0), AV.sc (.int .i64 (.ofNat 0)), AV.sc (.slice none 0 0), AV.sc (.int .i64 (.ofNat 0)), AV.sc (.int .i64 (.ofNat 0)), AV.sc (.slice none 0 0), AV.sc (.int .i64 (.ofNat 0)), AV.sc (.int .i64 (.ofNat 0)), AV.sc (.slice none 0 0), AV.sc (.int .i64 (.ofNat 0)), AV.sc (.int .u32 (.ofNat 0)), AV.sc (.int .u32 (.ofNat 0)), AV.sc (.int .u32 (.ofNat 0)), AV.sc (.int .u32 (.ofNat 0)), AV.sc (.int .u32 (.ofNat 0)), AV.sc (.int .u32 (.ofNat 0)), AV.sc (.int .u32 (.ofNat 0)), AV.sc (.float .f64 0), AV.sc (.float .f64 0), AV.sc (.slice none 0 0)] y65 (y62).2))))) ((binV Tryz.prog .eql 39 (.tmp 33) (.const (.int .u8 (.ofNat 5))) y0 (.int .u8 (.ofNat 5))).bind fun y66 => ((asB y66).bind fun y67 => (cond y67 ((run cxX 52 [ro (ro (y15).1)] (y15).2).bind fun y68 => ((qM (y68).1).bind fun y69 => ((qh 11 (y68).1).bind fun y70 => ((putN [AV.sc y0, AV.sc (.slice none 0 0), AV.sc (.int .i64 (.ofNat 0)), AV.sc (.slice none 0 0), AV.sc (.int .i64 (.ofNat 0)), AV.sc (.slice none 0 0), AV.sc (.int .i64 (.ofNat 0)), AV.sc (.int .i64 (.ofNat 0)), AV.sc (.slice none 0 0), AV.sc (.int .i64 (.ofNat 0)), AV.sc (.int .i64 (.ofNat 0)), AV.sc (.slice none 0 0), AV.sc (.int .i64 (.ofNat 0)), AV.sc (.int .u32 (.ofNat 0)), AV.sc (.int .u32 (.ofNat 0)), AV.sc (.int .u32 (.ofNat 0)), AV.sc (.int .u32 (.ofNat 0)), AV.sc (.int .u32 (.ofNat 0)), AV.sc (.int .u32 (.ofNat 0)), AV.sc (.int .u32 (.ofNat 0)), AV.sc (.float .f64 0), AV.sc (.float .f64 0), AV.sc (.slice none 0 0)] 12 y70).bind fun y71 => (B17_24 (y15).1 [AV.sc (.int .u8 (.ofNat 0)), AV.sc (.slice none 0 0), AV.sc (.int .i64 (.ofNat 0)), AV.sc (.slice none 0 0), AV.sc (.int .i64 (.ofNat 0)), AV.sc (.slice none 0 0), AV.sc (.int .i64 (.ofNat 0)), AV.sc (.int .i64 (.ofNat 0)), AV.sc (.slice none 0 0), AV.sc (.int .i64 (.ofNat 0)), AV.sc (.int .i64 (.ofNat 0)), AV.sc (.slice none 0 0), AV.sc (.int .i64 (.ofNat 0)), AV.sc (.int .u32 (.ofNat 0)), AV.sc (.int .u32 (.ofNat 0)), AV.sc (.int .u32 (.ofNat 0)), AV.sc (.int .u32 (.ofNat 0)), AV.sc (.int .u32 (.ofNat 0)), AV.sc (.int .u32 (.ofNat 0)), AV.sc (.int .u32 (.ofNat 0)), AV.sc (.float .f64 0), AV.sc (.float .f64 0), AV.sc (.slice none 0 0)] y71 (y68).2))))) (B17_24 (y15).1 [AV.sc (.int .u8 (.ofNat 0)), AV.sc (.slice none 0 0), AV.sc (.int .i64 (.ofNat 0)), AV.sc (.slice none 0 0), AV.sc (.int .i64 (.ofNat 0)), AV.sc (.slice none 0 0), AV.sc (.int .i64 (.ofNat 0)), AV.sc (.int .i64 (.ofNat 0)), AV.sc (.slice none 0 0), AV.sc (.int .i64 (.ofNat 0)), AV.sc (.int .i64 (.ofNat 0)), AV.sc (.slice none 0 0), AV.sc (.int .i64 (.ofNat 0)), AV.sc (.int .u32 (.ofNat 0)), AV.sc (.int .u32 (.ofNat 0)), AV.sc (.int .u32 (.ofNat 0)), AV.sc (.int .u32 (.ofNat 0)), AV.sc (.int .u32 (.ofNat 0)), AV.sc (.int .u32 (.ofNat 0)), AV.sc (.int .u32 (.ofNat 0)), AV.sc (.float .f64 0), AV.sc (.float .f64 0), AV.sc (.slice none 0 0)] [AV.sc y0, AV.sc (.slice none 0 0), AV.sc (.int .i64 (.ofNat 0)), AV.sc (.slice none 0 0), AV.sc (.int .i64 (.ofNat 0)), AV.sc (.slice none 0 0), AV.sc (.int .i64 (.ofNat 0)), AV.sc (.int .i64 (.ofNat 0)), AV.sc (.slice none 0 0), AV.sc (.int .i64 (.ofNat 0)), AV.sc (.int .i64 (.ofNat 0)), AV.sc (.slice none 0 0), AV.sc (.int .i64 (.ofNat 0)), AV.sc (.int .u32 (.ofNat 0)), AV.sc (.int .u32 (.ofNat 0)), AV.sc (.int .u32 (.ofNat 0)), AV.sc (.int .u32 (.ofNat 0)), AV.sc (.int .u32 (.ofNat 0)), AV.sc (.int .u32 (.ofNat 0)), AV.sc (.int .u32 (.ofNat 0)), AV.sc (.float .f64 0), AV.sc (.float .f64 0), AV.sc (.slice none 0 0)] (y15).2))))))))))))))))))))))))))))))))))))))) :=
 (qf cxX 17 ss17 400 _ _).trans (by kernel_rfl)
theorem B17_24_eq (x9 : AV) (b6 b10 : List AV) (hp : Hp) : B17_24 x9 b6 b10 hp = ((run cxX 53 [ro (ro x9)] hp).bind fun y72 => ((asSc (y72).1).bind fun y73 => ((binV Tryz.prog .neq 57 (.tmp 81) (.const (.int .i64 (.ofNat 0))) y73 (.int .i64 (.ofNat 0))).bind fun y74 => ((asB y74).bind fun y75 => (cond y75 ((putN b6 0 [AV.sc (.int .u8 (.ofNat 0)), AV.sc (.slice none 0 0), AV.sc (.int .i64 (.ofNat 0)), AV.sc (.slice none 0 0), AV.sc (.int .i64 (.ofNat 0)), AV.sc (.slice none 0 0), AV.sc (.int .i64 (.ofNat 0)), AV.sc (.int .i64 (.ofNat 0)), AV.sc (.slice none 0 0), AV.sc (.int .i64 (.ofNat 0)), AV.sc (.int .i64 (.ofNat 0)), AV.sc (.slice none 0 0), AV.sc (.int .i64 (.ofNat 0)), AV.sc (.int .u32 (.ofNat 0)), AV.sc (.int .u32 (.ofNat 0)), AV.sc (.int .u32 (.ofNat 0)), AV.sc (.int .u32 (.ofNat 0)), AV.sc (.int .u32 (.ofNat 0)), AV.sc (.int .u32 (.ofNat 0)), AV.sc (.int .u32 (.ofNat 0)), AV.sc (.float .f64 0), AV.sc (.float .f64 0), AV.sc (.slice none 0 0)]).bind fun y76 => ((getN y76 0 23).bind fun y77 => (some (Prod.mk (AV.tup [AV.agg y77, AV.sc y73]) (y72).2)))) ((getN b10 0 23).bind fun y78 => ((qi [AV.agg (List.map ro1 y78)] []).bind fun y79 => ((run cxX 23 [ro (AV.agg (List.map ro1 y78))] hp0).bind fun y80 => ((qm (y80).1).bind fun y81 => ((asSc (y80).1).bind fun y82 => ((binV Tryz.prog .neq 57 (.tmp 87) (.const (.int .i64 (.ofNat 0))) y82 (.int .i64 (.ofNat 0))).bind fun y83 => ((asB y83).bind fun y84 => (cond y84 ((putN b6 0 [AV.sc (.int .u8 (.ofNat 0)), AV.sc (.slice none 0 0), AV.sc (.int .i64 (.ofNat 0)), AV.sc (.slice none 0 0), AV.sc (.int .i64 (.ofNat 0)), AV.sc (.slice none 0 0), AV.sc (.int .i64 (.ofNat 0)), AV.sc (.int .i64 (.ofNat 0)), AV.sc (.slice none 0 0), AV.sc (.int .i64 (.ofNat 0)), AV.sc (.int .i64 (.ofNat 0)), AV.sc (.slice none 0 0), AV.sc (.int .i64 (.ofNat 0)), AV.sc (.int .u32 (.ofNat 0)), AV.sc (.int .u32 (.ofNat 0)), AV.sc (.int .u32 (.ofNat 0)), AV.sc (.int .u32 (.ofNat 0)), AV.sc (.int .u32 (.ofNat 0)), AV.sc (.int .u32 (.ofNat 0)), AV.sc (.int .u32 (.ofNat 0)), AV.sc (.float .f64 0), AV.sc (.float .f64 0), AV.sc (.slice none 0 0)]).bind fun y85 => ((getN y85 0 23).bind fun y86 => (some (Prod.mk (AV.tup [AV.agg y86, AV.sc y82]) (y72).2)))) ((getN b10 0 23).bind fun y87 => ((putN b10 0 (List.map ro1 y87)).bind fun y88 => ((qh 23 (AV.agg y87)).bind fun y89 => ((putN b6 0 y89).bind fun y90 => ((getN y90 0 23).bind fun y91 => (some (Prod.mk (AV.tup [AV.agg y91, AV.sc (.int .i64 (.ofNat 0))]) (y72).2)))))))))))))))))))) :=
 (qe cxX 17 ss17 400 _ _).trans (by kernel_rfl)
theorem E21 (a0 : AV) (hp : Hp) : run cxX 21 [a0] hp = ((asSc a0).bind fun y0 => ((bltV Tryz.prog Go.Builtin.max (Array.mk [3, 3]) 3 [y0, .int .i64 (.ofNat 0)]).bind fun y1 => ((bltV Tryz.prog Go.Builtin.min (Array.mk [3, 3]) 3 [y1, .int .i64 (.ofNat 1048576)]).bind fun y2 => ((binV Tryz.prog .mul 3 (.const (.int .i64 (.ofNat 64))) (.tmp 5) (.int .i64 (.ofNat 64)) y2).bind fun y3 => ((binV Tryz.prog .add 3 (.tmp 6) (.const (.int .i64 (.ofNat 16384))) y3 (.int .i64 (.ofNat 16384))).bind fun y4 => (some (Prod.mk (AV.sc y4) hp))))))) :=
 (qf cxX 21 ss21 400 _ _).trans (by kernel_rfl)
noncomputable def B40_5 (x0 x4 x23 : AV) (v24 : Value) (b3 : List AV) (hp : Hp) : Option (AV × Hp) := go cxX 40 [.code (sub [1, 1, 1, 1, 0, 1, 0, 0, 0] cd40), .code (sub [1, 1, 1, 1, 0, 1, 0, 0, 1] cd40), .inLoop (sub [1, 1, 1, 1, 0, 1, 0, 0] cd40), .inBlock 0, .code (sub [1, 1, 1, 1, 1] cd40)] ⟨[(0, .av x0), (3, .lp 3 0 0), (4, .av x4), (23, .av x23), (24, .sv v24)], [(3, 0, b3)], hp⟩
noncomputable def B40_14 (x0 : AV) (v7 : Value) (x49 : AV) (v50 v51 : Value) (hp : Hp) : Option (AV × Hp) := go cxX 40 [.code (sub [1, 1, 1, 1, 1, 1, 1, 1, 1, 1, 0, 0, 0] cd40), .code (sub [1, 1, 1, 1, 1, 1, 1, 1, 1, 1, 0, 0, 1] cd40), .inLoop (sub [1, 1, 1, 1, 1, 1, 1, 1, 1, 1, 0, 0] cd40), .inBlock 2] ⟨[(0, .av x0), (7, .sv v7), (49, .av x49), (50, .sv v50), (51, .sv v51)], [], hp⟩
theorem E40 (a0 a1 : AV) (hp : Hp) : run cxX 40 [a0, a1] hp = ((qh 11 a1).bind fun y0 => ((flatL [ro a0]).bind fun y1 => ((qc (List.map ro1 y0) 0).bind fun y2 => ((cvV Tryz.prog 3 5 y2).bind fun y3 => ((run cxX 36 [ro (ro a0), AV.sc y3] hp).bind fun y4 => ((qo 0 (y4).1).bind fun y5 => ((qc (List.map ro1 y0) 1).bind fun y6 => ((cvV Tryz.prog 30 76 y6).bind fun y7 => ((getBd (ro (AV.fn 4294967321 [ro1 (ro a0)]))).bind fun y8 => ((run cxX (y8).1 (List.append (y8).2 [AV.sc y7]) (y4).2).bind fun y9 => ((qo 0 (y9).1).bind fun y10 => ((getN (List.map ro1 y0) 2 6).bind fun y11 => (B40_5 a0 (AV.fn 4294967321 [ro1 (ro a0)]) (AV.agg (List.map ro1 y11)) (.int .i64 (.ofNat 0)) (List.map ro1 y0) (y9).2))))))))))))) :=
 (qf cxX 40 ss40 400 _ _).trans (by kernel_rfl)
theorem yx (x0 x4 x23 : AV) (v24 : Value) (b3 : List AV) (hp : Hp) : B40_5 x0 x4 x23 v24 b3 hp = ((binV Tryz.prog .lss 3 (.tmp 24) (.const (.int .i64 (.ofNat 6))) v24 (.int .i64 (.ofNat 6))).bind fun y12 => ((asB y12).bind fun y13 => (cond y13 ((jg x23).bind fun y14 => ((ixV Tryz.prog 49 y14 v24).bind fun y15 => ((cvV Tryz.prog 30 76 y15).bind fun y16 => ((getBd (ro x4)).bind fun y17 => ((run cxX (y17).1 (List.append (y17).2 [AV.sc y16]) hp).bind fun y18 => ((qo 0 (y18).1).bind fun y19 => ((binV Tryz.prog .add 3 (.tmp 24) (.const (.int .i64 (.ofNat 1))) v24 (.int .i64 (.ofNat 1))).bind fun y20 => (B40_5 x0 x4 x23 y20 b3 (y18).2)))))))) ((qc b3 8).bind fun y21 => ((qi [AV.sc y21] []).bind fun y22 => ((run cxX 92 [AV.sc y21] hp0).bind fun y23 => ((qm (y23).1).bind fun y24 => ((asSc (y23).1).bind fun y25 => ((getBd (ro x4)).bind fun y26 => ((run cxX (y26).1 (List.append (y26).2 [AV.sc y25]) hp).bind fun y27 => ((qo 0 (y27).1).bind fun y28 => ((qc b3 9).bind fun y29 => ((qi [AV.sc y29] []).bind fun y30 => ((run cxX 92 [AV.sc y29] hp0).bind fun y31 => ((qm (y31).1).bind fun y32 => ((asSc (y31).1).bind fun y33 => ((getBd (ro x4)).bind fun y34 => ((run cxX (y34).1 (List.append (y34).2 [AV.sc y33]) (y27).2).bind fun y35 => ((qo 0 (y35).1).bind fun y36 => ((getC b3 10).bind fun y37 => ((lenA (ro1 y37)).bind fun y38 => ((cvV Tryz.prog 3 5 (.int .i64 (.ofNat y38))).bind fun y39 => ((run cxX 36 [ro (ro x0), AV.sc y39] (y35).2).bind fun y40 => ((qo 0 (y40).1).bind fun y41 => ((getC b3 10).bind fun y42 => ((lenA (ro1 y42)).bind fun y43 => (B40_14 x0 (.int .u64 (.ofNat 0)) (ro1 y42) (.int .i64 (.ofNat y43)) (.int .i64 (.ofNat 0)) (y40).2))))))))))))))))))))))))))) :=
 (qe cxX 40 ss40 400 _ _).trans (by kernel_rfl)
theorem B40_14_eq (x0 : AV) (v7 : Value) (x49 : AV) (v50 v51 : Value) (hp : Hp) : B40_14 x0 v7 x49 v50 v51 hp = ((binV Tryz.prog .lss 3 (.tmp 51) (.tmp 50) v51 v50).bind fun y44 => ((asB y44).bind fun y45 => (cond y45 ((idxA 1 x49 v51).bind fun y46 => ((qc y46 0).bind fun y47 => ((qi [AV.sc y47] []).bind fun y48 => ((run cxX 92 [AV.sc y47] hp0).bind fun y49 => ((qm (y49).1).bind fun y50 => ((asSc (y49).1).bind fun y51 => ((binV Tryz.prog .sub 76 (.tmp 57) (.tmp 58) y51 v7).bind fun y52 => ((run cxX 25 [ro (ro x0), AV.sc y52] hp).bind fun y53 => ((qo 0 (y53).1).bind fun y54 => ((qi [AV.sc y47] []).bind fun y55 => ((run cxX 92 [AV.sc y47] hp0).bind fun y56 => ((qm (y56).1).bind fun y57 => ((asSc (y56).1).bind fun y58 => ((binV Tryz.prog .add 3 (.tmp 51) (.const (.int .i64 (.ofNat 1))) v51 (.int .i64 (.ofNat 1))).bind fun y59 => (B40_14 x0 y58 x49 v50 y59 (y53).2))))))))))))))) (some (Prod.mk (AV.tup []) hp))))) :=
 (qe cxX 40 ss40 400 _ _).trans (by kernel_rfl)
noncomputable def B37_2 (hp : Hp) : Option (AV × Hp) := go cxX 37 [.code (sub [1, 0, 1, 0, 0] cd37), .code (sub [1, 0, 1, 0, 1] cd37), .code (sub [1, 1] cd37)] ⟨[], [], hp⟩
noncomputable def B37_3 (v0 : Value) (x1 : AV) (hp : Hp) : Option (AV × Hp) := go cxX 37 [.code (sub [1, 1, 0] cd37), .code (sub [1, 1, 1] cd37)] ⟨[(0, .sv v0), (1, .av x1)], [], hp⟩
noncomputable def B37_5 (x6 x17 : AV) (v18 v19 : Value) (hp : Hp) : Option (AV × Hp) := go cxX 37 [.code (sub [1, 1, 1, 0, 1, 0, 0, 0] cd37), .code (sub [1, 1, 1, 0, 1, 0, 0, 1] cd37), .inLoop (sub [1, 1, 1, 0, 1, 0, 0] cd37), .inBlock 0, .code (sub [1, 1, 1, 1] cd37)] ⟨[(6, .av x6), (17, .av x17), (18, .sv v18), (19, .sv v19)], [], hp⟩
theorem E37 (a0 a1 : AV) (hp : Hp) : run cxX 37 [a0, a1] hp = ((asSc a0).bind fun y0 => ((binV Tryz.prog .lss 3 (.tmp 9) (.const (.int .i64 (.ofNat 1))) y0 (.int .i64 (.ofNat 1))).bind fun y1 => ((asB y1).bind fun y2 => (cond y2 (B37_2 hp) ((binV Tryz.prog .gtr 3 (.tmp 12) (.const (.int .i64 (.ofNat 64))) y0 (.int .i64 (.ofNat 64))).bind fun y3 => ((asB y3).bind fun y4 => (cond y4 (B37_2 hp) (B37_3 y0 a1 hp)))))))) :=
 (qf cxX 37 ss37 400 _ _).trans (by kernel_rfl)
theorem B37_3_eq (v0 : Value) (x1 : AV) (hp : Hp) : B37_3 v0 x1 hp = ((run cxX 88 [AV.sc v0] hp).bind fun y5 => ((qM (y5).1).bind fun y6 => ((lenA (ro x1)).bind fun y7 => (B37_5 (y5).1 (ro x1) (.int .i64 (.ofNat y7)) (.int .i64 (.ofNat 0)) (y5).2)))) :=
 (qe cxX 37 ss37 400 _ _).trans (by kernel_rfl)
theorem B37_5_eq (x6 x17 : AV) (v18 v19 : Value) (hp : Hp) : B37_5 x6 x17 v18 v19 hp = ((binV Tryz.prog .lss 3 (.tmp 19) (.tmp 18) v19 v18).bind fun y8 => ((asB y8).bind fun y9 => (cond y9 ((idxA 1 x17 v19).bind fun y10 => ((qc y10 0).bind fun y11 => ((cvV Tryz.prog 5 3 y11).bind fun y12 => ((run cxX 89 [ro (ro x6), AV.sc y12] hp).bind fun y13 => ((asSc (y13).1).bind fun y14 => ((unV Tryz.prog .not y14).bind fun y15 => ((asB y15).bind fun y16 => (cond y16 (some (Prod.mk (AV.tup [AV.sc (.slice none 0 0), AV.sc (.int .i64 (.ofNat 2))]) (y13).2)) ((binV Tryz.prog .add 3 (.tmp 19) (.const (.int .i64 (.ofNat 1))) v19 (.int .i64 (.ofNat 1))).bind fun y17 => (B37_5 x6 x17 v18 y17 (y13).2)))))))))) ((run cxX 90 [ro (ro x6)] hp).bind fun y18 => ((qM (y18).1).bind fun y19 => (some (Prod.mk (AV.tup ((y18).1 :: [AV.sc (.int .i64 (.ofNat 0))])) (y18).2))))))) :=
 (qe cxX 37 ss37 400 _ _).trans (by kernel_rfl)
theorem E88 (a0 : AV) (hp : Hp) : run cxX 88 [a0] hp = ((asSc a0).bind fun y0 => ((run cxX 137 [AV.sc y0] hp).bind fun y1 => ((qM (y1).1).bind fun y2 => ((qh 1 (y1).1).bind fun y3 => ((putN [AV.sc (Value.pointer none), AV.sc (.int .u64 (.ofNat 0)), AV.sc (.int .u32 (.ofNat 0)), AV.sc (.int .i64 (.ofNat 0)), AV.sc (.int .u8 (.ofNat 0)), AV.sc (.bool false), AV.sc (.slice none 0 0), AV.sc (.int .i64 (.ofNat 0))] 0 y3).bind fun y4 => ((putN y4 2 [AV.sc (.int .u32 (.ofNat 4294967295))]).bind fun y5 => ((qh 8 (AV.agg (List.map ro1 y5))).bind fun y6 => (some (Prod.mk (AV.ptr ((y1).2).1 0 0) (Hp.new (y1).2 (List.map ro1 y6))))))))))) :=
 (qf cxX 88 ss88 400 _ _).trans (by kernel_rfl)
noncomputable def B89_9 (x0 : AV) (v1 : Value) (hp : Hp) : Option (AV × Hp) := go cxX 89 [.code (sub [1, 1, 1, 1, 1, 1, 1, 0, 0, 0, 0, 0] cd89), .code (sub [1, 1, 1, 1, 1, 1, 1, 0, 0, 0, 0, 1] cd89), .code (sub [1, 1, 1, 1, 1, 1, 1, 0, 0, 0, 1] cd89), .inLoop (sub [1, 1, 1, 1, 1, 1, 1, 0, 0, 0] cd89), .inBlock 0, .code (sub [1, 1, 1, 1, 1, 1, 1, 1] cd89)] ⟨[(0, .av x0), (1, .sv v1)], [], hp⟩
theorem E89 (a0 a1 : AV) (hp : Hp) : run cxX 89 [a0, a1] hp = ((asSc a1).bind fun y0 => ((nilP (ro a0)).bind fun y1 => (cond y1 (some (Prod.mk (AV.sc (.bool false)) hp)) ((nnA (ro a0)).bind fun y2 => ((qk (ro a0)).bind fun y3 => ((Hp.rd hp (y3).1 ((y3).2).1).bind fun y4 => ((getC y4 ((y3).2).2).bind fun y5 => ((run cxX 138 [ro (ro1 y5), AV.sc y0] hp).bind fun y6 => ((qo 2 (y6).1).bind fun y7 => ((asSc (ro (nthA (y6).1 0))).bind fun y8 => ((asSc (ro (nthA (y6).1 1))).bind fun y9 => ((binV Tryz.prog .eql 3 (.tmp 19) (.const (.int .i64 (.ofNat 0))) y9 (.int .i64 (.ofNat 0))).bind fun y10 => ((asB y10).bind fun y11 => (cond y11 (some (Prod.mk (AV.sc (.bool false)) (y6).2)) ((nnA (ro a0)).bind fun y12 => ((qk (ro a0)).bind fun y13 => ((Hp.rd (y6).2 (y13).1 ((y13).2).1).bind fun y14 => ((qc y14 (Nat.succ (Nat.succ ((y13).2).2))).bind fun y15 => ((nnA (ro a0)).bind fun y16 => ((qk (ro a0)).bind fun y17 => ((Hp.rd (y6).2 (y17).1 ((y17).2).1).bind fun y18 => ((getC y18 ((y17).2).2).bind fun y19 => ((run cxX 139 [ro (ro1 y19)] (y6).2).bind fun y20 => ((asSc (y20).1).bind fun y21 => ((cvV Tryz.prog 3 30 y21).bind fun y22 => ((binV Tryz.prog .quo 30 (.tmp 24) (.tmp 30) y15 y22).bind fun y23 => ((sameG (Prod.mk (AV.ptr (y13).1 ((y13).2).1 (Nat.succ (Nat.succ ((y13).2).2))) 1) ((y6).2).2 ((y20).2).2).bind fun y24 => ((nnA (ro a0)).bind fun y25 => ((qk (ro a0)).bind fun y26 => ((Hp.rd (y20).2 (y26).1 ((y26).2).1).bind fun y27 => ((qc y27 (Nat.succ ((y26).2).2)).bind fun y28 => ((cvV Tryz.prog 30 76 y23).bind fun y29 => ((cvV Tryz.prog 3 76 y8).bind fun y30 => ((binV Tryz.prog .mul 76 (.tmp 37) (.tmp 39) y29 y30).bind fun y31 => ((binV Tryz.prog .add 76 (.tmp 35) (.tmp 40) y28 y31).bind fun y32 => ((nnA (ro a0)).bind fun y33 => ((qk (ro a0)).bind fun y34 => ((Hp.rd (y20).2 (y34).1 ((y34).2).1).bind fun y35 => ((putN y35 (Nat.succ ((y34).2).2) [AV.sc y32]).bind fun y36 => ((cvV Tryz.prog 3 30 y9).bind fun y37 => ((binV Tryz.prog .mul 30 (.tmp 45) (.tmp 47) y23 y37).bind fun y38 => ((nnA (ro a0)).bind fun y39 => ((qk (ro a0)).bind fun y40 => ((Hp.rd (Hp.put (y20).2 (y34).1 ((y34).2).1 y36) (y40).1 ((y40).2).1).bind fun y41 => ((putN y41 (Nat.succ (Nat.succ ((y40).2).2)) [AV.sc y38]).bind fun y42 => (B89_9 a0 y0 (Hp.put (Hp.put (y20).2 (y34).1 ((y34).2).1 y36) (y40).1 ((y40).2).1 y42))))))))))))))))))))))))))))))))))))))))))))))) :=
 (qf cxX 89 ss89 400 _ _).trans (by kernel_rfl)
theorem B89_9_eq (x0 : AV) (v1 : Value) (hp : Hp) : B89_9 x0 v1 hp = ((nnA (ro x0)).bind fun y43 => ((qk (ro x0)).bind fun y44 => ((Hp.rd hp (y44).1 ((y44).2).1).bind fun y45 => ((qc y45 (Nat.succ (Nat.succ ((y44).2).2))).bind fun y46 => ((binV Tryz.prog .lss 30 (.tmp 54) (.const (.int .u32 (.ofNat 16777216))) y46 (.int .u32 (.ofNat 16777216))).bind fun y47 => ((asB y47).bind fun y48 => (cond y48 ((nnA (ro x0)).bind fun y49 => ((qk (ro x0)).bind fun y50 => ((Hp.rd hp (y50).1 ((y50).2).1).bind fun y51 => ((qc y51 (Nat.succ (Nat.succ ((y50).2).2))).bind fun y52 => ((binV Tryz.prog .shl 30 (.tmp 59) (.const (.int .u64 (.ofNat 8))) y52 (.int .u64 (.ofNat 8))).bind fun y53 => ((nnA (ro x0)).bind fun y54 => ((qk (ro x0)).bind fun y55 => ((Hp.rd hp (y55).1 ((y55).2).1).bind fun y56 => ((putN y56 (Nat.succ (Nat.succ ((y55).2).2)) [AV.sc y53]).bind fun y57 => ((run cxX 140 [ro (ro x0)] (Hp.put hp (y55).1 ((y55).2).1 y57)).bind fun y58 => ((qo 0 (y58).1).bind fun y59 => (B89_9 x0 v1 (y58).2)))))))))))) ((nnA (ro x0)).bind fun y60 => ((qk (ro x0)).bind fun y61 => ((Hp.rd hp (y61).1 ((y61).2).1).bind fun y62 => ((getC y62 ((y61).2).2).bind fun y63 => ((run cxX 141 [ro (ro1 y63), AV.sc v1] hp).bind fun y64 => ((qo 0 (y64).1).bind fun y65 => ((nnA (ro x0)).bind fun y66 => ((qk (ro x0)).bind fun y67 => ((Hp.rd (y64).2 (y67).1 ((y67).2).1).bind fun y68 => ((qc y68 (Nat.succ (Nat.succ (Nat.succ (Nat.succ (Nat.succ (Nat.succ (Nat.succ ((y67).2).2)))))))).bind fun y69 => ((binV Tryz.prog .add 3 (.tmp 74) (.const (.int .i64 (.ofNat 1))) y69 (.int .i64 (.ofNat 1))).bind fun y70 => ((nnA (ro x0)).bind fun y71 => ((qk (ro x0)).bind fun y72 => ((Hp.rd (y64).2 (y72).1 ((y72).2).1).bind fun y73 => ((putN y73 (Nat.succ (Nat.succ (Nat.succ (Nat.succ (Nat.succ (Nat.succ (Nat.succ ((y72).2).2))))))) [AV.sc y70]).bind fun y74 => (some (Prod.mk (AV.sc (.bool true)) (Hp.put (y64).2 (y72).1 ((y72).2).1 y74))))))))))))))))))))))))) :=
 (qe cxX 89 ss89 400 _ _).trans (by kernel_rfl)
noncomputable def B90_6 (x3 : AV) (v16 : Value) (hp : Hp) : Option (AV × Hp) := go cxX 90 [.code (sub [1, 1, 1, 1, 0, 1, 0, 0, 0] cd90), .code (sub [1, 1, 1, 1, 0, 1, 0, 0, 1] cd90), .inLoop (sub [1, 1, 1, 1, 0, 1, 0, 0] cd90), .inBlock 0, .code (sub [1, 1, 1, 1, 1] cd90)] ⟨[(3, .av x3), (16, .sv v16)], [], hp⟩
theorem E90 (a0 : AV) (hp : Hp) : run cxX 90 [a0] hp = ((nilP (ro a0)).bind fun y0 => (cond y0 (some (Prod.mk (AV.sc (.slice none 0 0)) hp)) ((nnA (ro a0)).bind fun y1 => ((qk (ro a0)).bind fun y2 => ((Hp.rd hp (y2).1 ((y2).2).1).bind fun y3 => ((getN y3 ((y2).2).2 8).bind fun y4 => ((qh 8 (AV.agg (List.map ro1 y4))).bind fun y5 => ((Hp.rd (Hp.new hp [AV.sc (Value.pointer none), AV.sc (.int .u64 (.ofNat 0)), AV.sc (.int .u32 (.ofNat 0)), AV.sc (.int .i64 (.ofNat 0)), AV.sc (.int .u8 (.ofNat 0)), AV.sc (.bool false), AV.sc (.slice none 0 0), AV.sc (.int .i64 (.ofNat 0))]) (hp).1 0).bind fun y6 => ((putN y6 0 y5).bind fun y7 => ((okV []).bind fun y8 => ((nnA (ro a0)).bind fun y9 => ((qk (ro a0)).bind fun y10 => ((Hp.rd (Hp.put (Hp.new hp [AV.sc (Value.pointer none), AV.sc (.int .u64 (.ofNat 0)), AV.sc (.int .u32 (.ofNat 0)), AV.sc (.int .i64 (.ofNat 0)), AV.sc (.int .u8 (.ofNat 0)), AV.sc (.bool false), AV.sc (.slice none 0 0), AV.sc (.int .i64 (.ofNat 0))]) (hp).1 0 y7) (y10).1 ((y10).2).1).bind fun y11 => ((getC y11 (Nat.succ (Nat.succ (Nat.succ (Nat.succ (Nat.succ (Nat.succ ((y10).2).2))))))).bind fun y12 => ((appA 1 1 (AV.us 1 []) (ro1 y12)).bind fun y13 => ((qh 1 y13).bind fun y14 => ((Hp.rd (Hp.put (Hp.new hp [AV.sc (Value.pointer none), AV.sc (.int .u64 (.ofNat 0)), AV.sc (.int .u32 (.ofNat 0)), AV.sc (.int .i64 (.ofNat 0)), AV.sc (.int .u8 (.ofNat 0)), AV.sc (.bool false), AV.sc (.slice none 0 0), AV.sc (.int .i64 (.ofNat 0))]) (hp).1 0 y7) (hp).1 0).bind fun y15 => ((putN y15 6 y14).bind fun y16 => (B90_6 (AV.ptr (hp).1 0 0) (.int .i64 (.ofNat 0)) (Hp.put (Hp.put (Hp.new hp [AV.sc (Value.pointer none), AV.sc (.int .u64 (.ofNat 0)), AV.sc (.int .u32 (.ofNat 0)), AV.sc (.int .i64 (.ofNat 0)), AV.sc (.int .u8 (.ofNat 0)), AV.sc (.bool false), AV.sc (.slice none 0 0), AV.sc (.int .i64 (.ofNat 0))]) (hp).1 0 y7) (hp).1 0 y16)))))))))))))))))))) :=
 (qf cxX 90 ss90 400 _ _).trans (by kernel_rfl)
theorem B90_6_eq (x3 : AV) (v16 : Value) (hp : Hp) : B90_6 x3 v16 hp = ((binV Tryz.prog .lss 3 (.tmp 16) (.const (.int .i64 (.ofNat 5))) v16 (.int .i64 (.ofNat 5))).bind fun y17 => ((asB y17).bind fun y18 => (cond y18 ((run cxX 140 [ro x3] hp).bind fun y19 => ((qo 0 (y19).1).bind fun y20 => ((binV Tryz.prog .add 3 (.tmp 16) (.const (.int .i64 (.ofNat 1))) v16 (.int .i64 (.ofNat 1))).bind fun y21 => (B90_6 x3 y21 (y19).2)))) ((qk x3).bind fun y22 => ((Hp.rd hp (y22).1 ((y22).2).1).bind fun y23 => ((getC y23 (Nat.succ (Nat.succ (Nat.succ (Nat.succ (Nat.succ (Nat.succ ((y22).2).2))))))).bind fun y24 => (some (Prod.mk y24 (Hp.put hp (y22).1 ((y22).2).1 (List.set y23 (Nat.succ (Nat.succ (Nat.succ (Nat.succ (Nat.succ (Nat.succ ((y22).2).2)))))) (ro1 y24))))))))))) :=
 (qe cxX 90 ss90 400 _ _).trans (by kernel_rfl)
noncomputable def B140_1 (x0 : AV) (hp : Hp) : Option (AV × Hp) := go cxX 140 [.code (sub [0, 1, 0, 0] cd140), .code (sub [0, 1, 0, 1] cd140), .code (sub [1] cd140)] ⟨[(0, .av x0)], [], hp⟩
noncomputable def B140_8 (x0 : AV) (hp : Hp) : Option (AV × Hp) := go cxX 140 [.code (sub [0, 1, 1] cd140), .code (sub [1] cd140)] ⟨[(0, .av x0)], [], hp⟩
noncomputable def B140_4 (x0 : AV) (v2 : Value) (hp : Hp) : Option (AV × Hp) := go cxX 140 [.code (sub [0, 1, 0, 1, 1, 0, 0, 0, 0, 0] cd140), .code (sub [0, 1, 0, 1, 1, 0, 0, 0, 0, 1] cd140), .code (sub [0, 1, 0, 1, 1, 0, 0, 0, 1] cd140), .inLoop (sub [0, 1, 0, 1, 1, 0, 0, 0] cd140), .inBlock 0, .code (sub [0, 1, 0, 1, 1, 1] cd140), .code (sub [1] cd140)] ⟨[(0, .av x0), (2, .sv v2)], [], hp⟩
noncomputable def B140_9 (x0 : AV) (hp : Hp) : Option (AV × Hp) := go cxX 140 [.code (sub [1] cd140)] ⟨[(0, .av x0)], [], hp⟩
theorem E140 (a0 : AV) (hp : Hp) : run cxX 140 [a0] hp = ((nnA (ro a0)).bind fun y0 => ((qk (ro a0)).bind fun y1 => ((Hp.rd hp (y1).1 ((y1).2).1).bind fun y2 => ((qc y2 (Nat.succ ((y1).2).2)).bind fun y3 => ((binV Tryz.prog .lss 76 (.tmp 6) (.const (.int .u64 (.ofNat 4278190080))) y3 (.int .u64 (.ofNat 4278190080))).bind fun y4 => ((asB y4).bind fun y5 => (cond y5 (B140_1 a0 hp) ((nnA (ro a0)).bind fun y6 => ((qk (ro a0)).bind fun y7 => ((Hp.rd hp (y7).1 ((y7).2).1).bind fun y8 => ((qc y8 (Nat.succ ((y7).2).2)).bind fun y9 => ((binV Tryz.prog .geq 76 (.tmp 12) (.const (.int .u64 (.ofNat 4294967296))) y9 (.int .u64 (.ofNat 4294967296))).bind fun y10 => ((asB y10).bind fun y11 => (cond y11 (B140_1 a0 hp) (B140_8 a0 hp))))))))))))))) :=
 (qf cxX 140 ss140 400 _ _).trans (by kernel_rfl)
theorem B140_1_eq (x0 : AV) (hp : Hp) : B140_1 x0 hp = ((nnA (ro x0)).bind fun y12 => ((qk (ro x0)).bind fun y13 => ((Hp.rd hp (y13).1 ((y13).2).1).bind fun y14 => ((qc y14 (Nat.succ ((y13).2).2)).bind fun y15 => ((binV Tryz.prog .shr 76 (.tmp 18) (.const (.int .u64 (.ofNat 32))) y15 (.int .u64 (.ofNat 32))).bind fun y16 => ((cvV Tryz.prog 76 5 y16).bind fun y17 => ((nnA (ro x0)).bind fun y18 => ((qk (ro x0)).bind fun y19 => ((Hp.rd hp (y19).1 ((y19).2).1).bind fun y20 => ((qc y20 (Nat.succ (Nat.succ (Nat.succ (Nat.succ (Nat.succ ((y19).2).2)))))).bind fun y21 => ((asB y21).bind fun y22 => (cond y22 ((nnA (ro x0)).bind fun y23 => ((qk (ro x0)).bind fun y24 => ((Hp.rd hp (y24).1 ((y24).2).1).bind fun y25 => ((getC y25 (Nat.succ (Nat.succ (Nat.succ (Nat.succ (Nat.succ (Nat.succ ((y24).2).2))))))).bind fun y26 => ((nnA (ro x0)).bind fun y27 => ((qk (ro x0)).bind fun y28 => ((Hp.rd (Hp.put hp (y24).1 ((y24).2).1 (List.set y25 (Nat.succ (Nat.succ (Nat.succ (Nat.succ (Nat.succ (Nat.succ ((y24).2).2)))))) (ro1 y26))) (y28).1 ((y28).2).1).bind fun y29 => ((qc y29 (Nat.succ (Nat.succ (Nat.succ (Nat.succ ((y28).2).2))))).bind fun y30 => ((binV Tryz.prog .add 5 (.tmp 33) (.tmp 34) y30 y17).bind fun y31 => ((okV [AV.sc y31]).bind fun y32 => ((appA 1 1 y26 (AV.us 1 [AV.sc y31])).bind fun y33 => ((nnA (ro x0)).bind fun y34 => ((qk (ro x0)).bind fun y35 => ((qh 1 y33).bind fun y36 => ((Hp.rd (Hp.put hp (y24).1 ((y24).2).1 (List.set y25 (Nat.succ (Nat.succ (Nat.succ (Nat.succ (Nat.succ (Nat.succ ((y24).2).2)))))) (ro1 y26))) (y35).1 ((y35).2).1).bind fun y37 => ((putN y37 (Nat.succ (Nat.succ (Nat.succ (Nat.succ (Nat.succ (Nat.succ ((y35).2).2)))))) y36).bind fun y38 => ((sameG (Prod.mk (AV.ptr (y28).1 ((y28).2).1 (Nat.succ (Nat.succ (Nat.succ (Nat.succ ((y28).2).2))))) 1) (hp).2 ((Hp.put hp (y24).1 ((y24).2).1 (List.set y25 (Nat.succ (Nat.succ (Nat.succ (Nat.succ (Nat.succ (Nat.succ ((y24).2).2)))))) (ro1 y26)))).2).bind fun y39 => (B140_4 x0 y17 (Hp.put (Hp.put hp (y24).1 ((y24).2).1 (List.set y25 (Nat.succ (Nat.succ (Nat.succ (Nat.succ (Nat.succ (Nat.succ ((y24).2).2)))))) (ro1 y26))) (y35).1 ((y35).2).1 y38))))))))))))))))))) (B140_4 x0 y17 hp))))))))))))) :=
 (qe cxX 140 ss140 400 _ _).trans (by kernel_rfl)
theorem B140_8_eq (x0 : AV) (hp : Hp) : B140_8 x0 hp = ((nnA (ro x0)).bind fun y40 => ((qk (ro x0)).bind fun y41 => ((Hp.rd hp (y41).1 ((y41).2).1).bind fun y42 => ((qc y42 (Nat.succ (Nat.succ (Nat.succ ((y41).2).2)))).bind fun y43 => ((binV Tryz.prog .add 3 (.tmp 78) (.const (.int .i64 (.ofNat 1))) y43 (.int .i64 (.ofNat 1))).bind fun y44 => ((nnA (ro x0)).bind fun y45 => ((qk (ro x0)).bind fun y46 => ((Hp.rd hp (y46).1 ((y46).2).1).bind fun y47 => ((putN y47 (Nat.succ (Nat.succ (Nat.succ ((y46).2).2))) [AV.sc y44]).bind fun y48 => (B140_9 x0 (Hp.put hp (y46).1 ((y46).2).1 y48))))))))))) :=
 (qe cxX 140 ss140 400 _ _).trans (by kernel_rfl)
theorem B140_4_eq (x0 : AV) (v2 : Value) (hp : Hp) : B140_4 x0 v2 hp = ((nnA (ro x0)).bind fun y49 => ((qk (ro x0)).bind fun y50 => ((Hp.rd hp (y50).1 ((y50).2).1).bind fun y51 => ((qc y51 (Nat.succ (Nat.succ (Nat.succ ((y50).2).2)))).bind fun y52 => ((binV Tryz.prog .gtr 3 (.tmp 43) (.const (.int .i64 (.ofNat 0))) y52 (.int .i64 (.ofNat 0))).bind fun y53 => ((asB y53).bind fun y54 => (cond y54 ((nnA (ro x0)).bind fun y55 => ((qk (ro x0)).bind fun y56 => ((Hp.rd hp (y56).1 ((y56).2).1).bind fun y57 => ((getC y57 (Nat.succ (Nat.succ (Nat.succ (Nat.succ (Nat.succ (Nat.succ ((y56).2).2))))))).bind fun y58 => ((binV Tryz.prog .add 5 (.const (.int .u8 (.ofNat 255))) (.tmp 57) (.int .u8 (.ofNat 255)) v2).bind fun y59 => ((okV [AV.sc y59]).bind fun y60 => ((appA 1 1 y58 (AV.us 1 [AV.sc y59])).bind fun y61 => ((nnA (ro x0)).bind fun y62 => ((qk (ro x0)).bind fun y63 => ((qh 1 y61).bind fun y64 => ((Hp.rd (Hp.put hp (y56).1 ((y56).2).1 (List.set y57 (Nat.succ (Nat.succ (Nat.succ (Nat.succ (Nat.succ (Nat.succ ((y56).2).2)))))) (ro1 y58))) (y63).1 ((y63).2).1).bind fun y65 => ((putN y65 (Nat.succ (Nat.succ (Nat.succ (Nat.succ (Nat.succ (Nat.succ ((y63).2).2)))))) y64).bind fun y66 => ((nnA (ro x0)).bind fun y67 => ((qk (ro x0)).bind fun y68 => ((Hp.rd (Hp.put (Hp.put hp (y56).1 ((y56).2).1 (List.set y57 (Nat.succ (Nat.succ (Nat.succ (Nat.succ (Nat.succ (Nat.succ ((y56).2).2)))))) (ro1 y58))) (y63).1 ((y63).2).1 y66) (y68).1 ((y68).2).1).bind fun y69 => ((qc y69 (Nat.succ (Nat.succ (Nat.succ ((y68).2).2)))).bind fun y70 => ((binV Tryz.prog .sub 3 (.tmp 48) (.const (.int .i64 (.ofNat 1))) y70 (.int .i64 (.ofNat 1))).bind fun y71 => ((nnA (ro x0)).bind fun y72 => ((qk (ro x0)).bind fun y73 => ((Hp.rd (Hp.put (Hp.put hp (y56).1 ((y56).2).1 (List.set y57 (Nat.succ (Nat.succ (Nat.succ (Nat.succ (Nat.succ (Nat.succ ((y56).2).2)))))) (ro1 y58))) (y63).1 ((y63).2).1 y66) (y73).1 ((y73).2).1).bind fun y74 => ((putN y74 (Nat.succ (Nat.succ (Nat.succ ((y73).2).2))) [AV.sc y71]).bind fun y75 => (B140_4 x0 v2 (Hp.put (Hp.put (Hp.put hp (y56).1 ((y56).2).1 (List.set y57 (Nat.succ (Nat.succ (Nat.succ (Nat.succ (Nat.succ (Nat.succ ((y56).2).2)))))) (ro1 y58))) (y63).1 ((y63).2).1 y66) (y73).1 ((y73).2).1 y75))))))))))))))))))))))) ((nnA (ro x0)).bind fun y76 => ((qk (ro x0)).bind fun y77 => ((Hp.rd hp (y77).1 ((y77).2).1).bind fun y78 => ((qc y78 (Nat.succ ((y77).2).2)).bind fun y79 => ((binV Tryz.prog .shr 76 (.tmp 68) (.const (.int .u64 (.ofNat 24))) y79 (.int .u64 (.ofNat 24))).bind fun y80 => ((cvV Tryz.prog 76 5 y80).bind fun y81 => ((nnA (ro x0)).bind fun y82 => ((qk (ro x0)).bind fun y83 => ((Hp.rd hp (y83).1 ((y83).2).1).bind fun y84 => ((putN y84 (Nat.succ (Nat.succ (Nat.succ (Nat.succ (Nat.succ ((y83).2).2))))) [AV.sc (.bool true)]).bind fun y85 => ((nnA (ro x0)).bind fun y86 => ((qk (ro x0)).bind fun y87 => ((Hp.rd (Hp.put hp (y83).1 ((y83).2).1 y85) (y87).1 ((y87).2).1).bind fun y88 => ((putN y88 (Nat.succ (Nat.succ (Nat.succ (Nat.succ ((y87).2).2)))) [AV.sc y81]).bind fun y89 => (B140_9 x0 (Hp.put (Hp.put hp (y83).1 ((y83).2).1 y85) (y87).1 ((y87).2).1 y89))))))))))))))))))))))) :=
 (qe cxX 140 ss140 400 _ _).trans (by kernel_rfl)
theorem B140_9_eq (x0 : AV) (hp : Hp) : B140_9 x0 hp = ((nnA (ro x0)).bind fun y90 => ((qk (ro x0)).bind fun y91 => ((Hp.rd hp (y91).1 ((y91).2).1).bind fun y92 => ((qc y92 (Nat.succ ((y91).2).2)).bind fun y93 => ((binV Tryz.prog .and 76 (.tmp 86) (.const (.int .u64 (.ofNat 16777215))) y93 (.int .u64 (.ofNat 16777215))).bind fun y94 => ((binV Tryz.prog .shl 76 (.tmp 87) (.const (.int .u64 (.ofNat 8))) y94 (.int .u64 (.ofNat 8))).bind fun y95 => ((nnA (ro x0)).bind fun y96 => ((qk (ro x0)).bind fun y97 => ((Hp.rd hp (y97).1 ((y97).2).1).bind fun y98 => ((putN y98 (Nat.succ ((y97).2).2) [AV.sc y95]).bind fun y99 => (some (Prod.mk (AV.tup []) (Hp.put hp (y97).1 ((y97).2).1 y99))))))))))))) :=
 (qe cxX 140 ss140 400 _ _).trans (by kernel_rfl)
noncomputable def B137_3 (x3 : AV) (v8 v9 : Value) (hp : Hp) : Option (AV × Hp) := go cxX 137 [.code (sub [1, 1, 0, 1, 0, 0, 0] cd137), .code (sub [1, 1, 0, 1, 0, 0, 1] cd137), .inLoop (sub [1, 1, 0, 1, 0, 0] cd137), .inBlock 0, .code (sub [1, 1, 1] cd137)] ⟨[(3, .av x3), (8, .sv v8), (9, .sv v9)], [], hp⟩
theorem E137 (a0 : AV) (hp : Hp) : run cxX 137 [a0] hp = ((asSc a0).bind fun y0 => ((bltV Tryz.prog Go.Builtin.max (Array.mk [3, 3]) 3 [y0, .int .i64 (.ofNat 1)]).bind fun y1 => ((bltV Tryz.prog Go.Builtin.min (Array.mk [3, 3]) 3 [y1, .int .i64 (.ofNat 64)]).bind fun y2 => (B137_3 (AV.ptr (hp).1 0 0) y2 (.int .i64 (.ofNat 0)) (Hp.new hp [ro1 (AV.sc (.slice none 0 0)), ro1 (AV.sc (.int .i64 (.ofNat 0)))]))))) :=
 (qf cxX 137 ss137 400 _ _).trans (by kernel_rfl)
theorem B137_3_eq (x3 : AV) (v8 v9 : Value) (hp : Hp) : B137_3 x3 v8 v9 hp = ((binV Tryz.prog .lss 3 (.tmp 9) (.tmp 8) v9 v8).bind fun y3 => ((asB y3).bind fun y4 => (cond y4 ((nnA (ro x3)).bind fun y5 => ((qk (ro x3)).bind fun y6 => ((Hp.rd hp (y6).1 ((y6).2).1).bind fun y7 => ((getC y7 ((y6).2).2).bind fun y8 => ((okV [AV.sc (.int .i64 (.ofNat 1))]).bind fun y9 => ((appM 8 1 (ro1 y8) (AV.us 1 [AV.sc (.int .i64 (.ofNat 1))]) hp).bind fun y10 => ((nnA (ro x3)).bind fun y11 => ((qk (ro x3)).bind fun y12 => ((qh 1 (y10).1).bind fun y13 => ((Hp.rd (y10).2 (y12).1 ((y12).2).1).bind fun y14 => ((putN y14 ((y12).2).2 y13).bind fun y15 => ((nnA (ro x3)).bind fun y16 => ((qk (ro x3)).bind fun y17 => ((Hp.rd (Hp.put (y10).2 (y12).1 ((y12).2).1 y15) (y17).1 ((y17).2).1).bind fun y18 => ((qc y18 (Nat.succ ((y17).2).2)).bind fun y19 => ((binV Tryz.prog .add 3 (.tmp 23) (.const (.int .i64 (.ofNat 1))) y19 (.int .i64 (.ofNat 1))).bind fun y20 => ((nnA (ro x3)).bind fun y21 => ((qk (ro x3)).bind fun y22 => ((Hp.rd (Hp.put (y10).2 (y12).1 ((y12).2).1 y15) (y22).1 ((y22).2).1).bind fun y23 => ((putN y23 (Nat.succ ((y22).2).2) [AV.sc y20]).bind fun y24 => ((binV Tryz.prog .add 3 (.tmp 9) (.const (.int .i64 (.ofNat 1))) v9 (.int .i64 (.ofNat 1))).bind fun y25 => (B137_3 x3 v8 y25 (Hp.put (Hp.put (y10).2 (y12).1 ((y12).2).1 y15) (y22).1 ((y22).2).1 y24))))))))))))))))))))))) (some (Prod.mk (ro x3) hp))))) :=
 (qe cxX 137 ss137 400 _ _).trans (by kernel_rfl)
noncomputable def B138_2 (hp : Hp) : Option (AV × Hp) := go cxX 138 [.code (sub [1, 0, 1, 0, 0] cd138), .code (sub [1, 0, 1, 0, 1] cd138), .code (sub [1, 1] cd138)] ⟨[], [], hp⟩
noncomputable def B138_3 (x0 : AV) (v1 : Value) (hp : Hp) : Option (AV × Hp) := go cxX 138 [.code (sub [1, 1, 0] cd138), .code (sub [1, 1, 1] cd138)] ⟨[(0, .av x0), (1, .sv v1)], [], hp⟩
noncomputable def B138_5 (x0 : AV) (v1 v6 : Value) (x22 : AV) (v23 v24 : Value) (hp : Hp) : Option (AV × Hp) := go cxX 138 [.code (sub [1, 1, 1, 0, 1, 0, 0, 0] cd138), .code (sub [1, 1, 1, 0, 1, 0, 0, 1] cd138), .inLoop (sub [1, 1, 1, 0, 1, 0, 0] cd138), .inBlock 0, .code (sub [1, 1, 1, 1] cd138)] ⟨[(0, .av x0), (1, .sv v1), (6, .sv v6), (22, .av x22), (23, .sv v23), (24, .sv v24)], [], hp⟩
theorem E138 (a0 a1 : AV) (hp : Hp) : run cxX 138 [a0, a1] hp = ((asSc a1).bind fun y0 => ((binV Tryz.prog .lss 3 (.tmp 9) (.const (.int .i64 (.ofNat 0))) y0 (.int .i64 (.ofNat 0))).bind fun y1 => ((asB y1).bind fun y2 => (cond y2 (B138_2 hp) ((run cxX 175 [ro (ro a0)] hp).bind fun y3 => ((asSc (y3).1).bind fun y4 => ((binV Tryz.prog .geq 3 (.tmp 12) (.tmp 14) y0 y4).bind fun y5 => ((asB y5).bind fun y6 => (cond y6 (B138_2 (y3).2) (B138_3 a0 y0 (y3).2)))))))))) :=
 (qf cxX 138 ss138 400 _ _).trans (by kernel_rfl)
theorem B138_3_eq (x0 : AV) (v1 : Value) (hp : Hp) : B138_3 x0 v1 hp = ((nnA (ro x0)).bind fun y7 => ((qk (ro x0)).bind fun y8 => ((Hp.rd hp (y8).1 ((y8).2).1).bind fun y9 => ((getC y9 ((y8).2).2).bind fun y10 => ((qR (ro1 y10)).bind fun y11 => ((qH (.ofNat 0) (.ofNat ((((y11).2).2).2).1) none ((((y11).2).2).2).1).bind fun y12 => ((qH (.ofNat 0) (.ofNat y12) (some v1) ((((y11).2).2).2).1).bind fun y13 => ((qH (.ofNat 0) (.ofNat y13) none 0).bind fun y14 => ((chkN ((((y11).2).2).2).2 1).bind fun y15 => ((lenA (AV.ms (y11).1 ((y11).2).1 (Nat.add (((y11).2).2).1 (Nat.add 0 y14)) (Nat.sub y13 y14) 1)).bind fun y16 => (B138_5 x0 v1 (.int .i64 (.ofNat 0)) (AV.ms (y11).1 ((y11).2).1 (Nat.add (((y11).2).2).1 (Nat.add 0 y14)) (Nat.sub y13 y14) 1) (.int .i64 (.ofNat y16)) (.int .i64 (.ofNat 0)) hp))))))))))) :=
 (qe cxX 138 ss138 400 _ _).trans (by kernel_rfl)
theorem B138_5_eq (x0 : AV) (v1 v6 : Value) (x22 : AV) (v23 v24 : Value) (hp : Hp) : B138_5 x0 v1 v6 x22 v23 v24 hp = ((binV Tryz.prog .lss 3 (.tmp 24) (.tmp 23) v24 v23).bind fun y17 => ((asB y17).bind fun y18 => (cond y18 ((qR x22).bind fun y19 => ((idx ((((y19).2).2).2).1 v24).bind fun y20 => ((chkN ((((y19).2).2).2).2 1).bind fun y21 => ((Hp.rd hp (y19).1 ((y19).2).1).bind fun y22 => ((qc y22 (Nat.add (((y19).2).2).1 (Nat.add 0 y20))).bind fun y23 => ((binV Tryz.prog .add 3 (.tmp 28) (.tmp 29) v6 y23).bind fun y24 => ((binV Tryz.prog .add 3 (.tmp 24) (.const (.int .i64 (.ofNat 1))) v24 (.int .i64 (.ofNat 1))).bind fun y25 => (B138_5 x0 v1 y24 x22 v23 y25 hp)))))))) ((nnA (ro x0)).bind fun y26 => ((qk (ro x0)).bind fun y27 => ((Hp.rd hp (y27).1 ((y27).2).1).bind fun y28 => ((getC y28 ((y27).2).2).bind fun y29 => ((qR (ro1 y29)).bind fun y30 => ((idx ((((y30).2).2).2).1 v1).bind fun y31 => ((chkN ((((y30).2).2).2).2 1).bind fun y32 => ((Hp.rd hp (y30).1 ((y30).2).1).bind fun y33 => ((qc y33 (Nat.add (((y30).2).2).1 (Nat.add 0 y31))).bind fun y34 => (some (Prod.mk (AV.tup [AV.sc v6, AV.sc y34]) hp)))))))))))))) :=
 (qe cxX 138 ss138 400 _ _).trans (by kernel_rfl)
theorem E139 (a0 : AV) (hp : Hp) : run cxX 139 [a0] hp = ((nilP (ro a0)).bind fun y0 => (cond y0 (some (Prod.mk (AV.sc (.int .i64 (.ofNat 0))) hp)) ((nnA (ro a0)).bind fun y1 => ((qk (ro a0)).bind fun y2 => ((Hp.rd hp (y2).1 ((y2).2).1).bind fun y3 => ((qc y3 (Nat.succ ((y2).2).2)).bind fun y4 => (some (Prod.mk (AV.sc y4) hp)))))))) :=
 (qf cxX 139 ss139 400 _ _).trans (by kernel_rfl)
noncomputable def B141_1 (x0 : AV) (v1 : Value) (hp : Hp) : Option (AV × Hp) := go cxX 141 [.code (sub [1, 0] cd141), .code (sub [1, 1] cd141)] ⟨[(0, .av x0), (1, .sv v1)], [], hp⟩
noncomputable def B141_6 (x0 x41 : AV) (v42 v43 : Value) (hp : Hp) : Option (AV × Hp) := go cxX 141 [.code (sub [1, 1, 1, 1, 1, 1, 0, 0, 0] cd141), .code (sub [1, 1, 1, 1, 1, 1, 0, 0, 1] cd141), .inLoop (sub [1, 1, 1, 1, 1, 1, 0, 0] cd141), .inBlock 0] ⟨[(0, .av x0), (41, .av x41), (42, .sv v42), (43, .sv v43)], [], hp⟩
theorem E141 (a0 a1 : AV) (hp : Hp) : run cxX 141 [a0, a1] hp = ((asSc a1).bind fun y0 => ((binV Tryz.prog .lss 3 (.tmp 6) (.const (.int .i64 (.ofNat 0))) y0 (.int .i64 (.ofNat 0))).bind fun y1 => ((asB y1).bind fun y2 => (cond y2 (some (Prod.mk (AV.tup []) hp)) ((run cxX 175 [ro (ro a0)] hp).bind fun y3 => ((asSc (y3).1).bind fun y4 => ((binV Tryz.prog .geq 3 (.tmp 9) (.tmp 11) y0 y4).bind fun y5 => ((asB y5).bind fun y6 => (cond y6 (some (Prod.mk (AV.tup []) (y3).2)) (B141_1 a0 y0 (y3).2)))))))))) :=
 (qf cxX 141 ss141 400 _ _).trans (by kernel_rfl)
theorem B141_1_eq (x0 : AV) (v1 : Value) (hp : Hp) : B141_1 x0 v1 hp = ((nnA (ro x0)).bind fun y7 => ((qk (ro x0)).bind fun y8 => ((Hp.rd hp (y8).1 ((y8).2).1).bind fun y9 => ((getC y9 ((y8).2).2).bind fun y10 => ((qR (ro1 y10)).bind fun y11 => ((idx ((((y11).2).2).2).1 v1).bind fun y12 => ((chkN ((((y11).2).2).2).2 1).bind fun y13 => ((Hp.rd hp (y11).1 ((y11).2).1).bind fun y14 => ((qc y14 (Nat.add (((y11).2).2).1 (Nat.add 0 y12))).bind fun y15 => ((binV Tryz.prog .add 3 (.tmp 20) (.const (.int .i64 (.ofNat 24))) y15 (.int .i64 (.ofNat 24))).bind fun y16 => ((qR (ro1 y10)).bind fun y17 => ((idx ((((y17).2).2).2).1 v1).bind fun y18 => ((chkN ((((y17).2).2).2).2 1).bind fun y19 => ((Hp.rd hp (y17).1 ((y17).2).1).bind fun y20 => ((putN y20 (Nat.add (((y17).2).2).1 (Nat.add 0 y18)) [AV.sc y16]).bind fun y21 => ((nnA (ro x0)).bind fun y22 => ((qk (ro x0)).bind fun y23 => ((Hp.rd (Hp.put hp (y17).1 ((y17).2).1 y21) (y23).1 ((y23).2).1).bind fun y24 => ((qc y24 (Nat.succ ((y23).2).2)).bind fun y25 => ((binV Tryz.prog .add 3 (.tmp 26) (.const (.int .i64 (.ofNat 24))) y25 (.int .i64 (.ofNat 24))).bind fun y26 => ((nnA (ro x0)).bind fun y27 => ((qk (ro x0)).bind fun y28 => ((Hp.rd (Hp.put hp (y17).1 ((y17).2).1 y21) (y28).1 ((y28).2).1).bind fun y29 => ((putN y29 (Nat.succ ((y28).2).2) [AV.sc y26]).bind fun y30 => ((nnA (ro x0)).bind fun y31 => ((qk (ro x0)).bind fun y32 => ((Hp.rd (Hp.put (Hp.put hp (y17).1 ((y17).2).1 y21) (y28).1 ((y28).2).1 y30) (y32).1 ((y32).2).1).bind fun y33 => ((qc y33 (Nat.succ ((y32).2).2)).bind fun y34 => ((binV Tryz.prog .leq 3 (.tmp 33) (.const (.int .i64 (.ofNat 4096))) y34 (.int .i64 (.ofNat 4096))).bind fun y35 => ((asB y35).bind fun y36 => (cond y36 (some (Prod.mk (AV.tup []) (Hp.put (Hp.put hp (y17).1 ((y17).2).1 y21) (y28).1 ((y28).2).1 y30))) ((nnA (ro x0)).bind fun y37 => ((qk (ro x0)).bind fun y38 => ((Hp.rd (Hp.put (Hp.put hp (y17).1 ((y17).2).1 y21) (y28).1 ((y28).2).1 y30) (y38).1 ((y38).2).1).bind fun y39 => ((putN y39 (Nat.succ ((y38).2).2) [AV.sc (.int .i64 (.ofNat 0))]).bind fun y40 => ((nnA (ro x0)).bind fun y41 => ((qk (ro x0)).bind fun y42 => ((Hp.rd (Hp.put (Hp.put (Hp.put hp (y17).1 ((y17).2).1 y21) (y28).1 ((y28).2).1 y30) (y38).1 ((y38).2).1 y40) (y42).1 ((y42).2).1).bind fun y43 => ((getC y43 ((y42).2).2).bind fun y44 => ((lenA (ro1 y44)).bind fun y45 => (B141_6 x0 (ro1 y44) (.int .i64 (.ofNat y45)) (.int .i64 (.ofNat 0)) (Hp.put (Hp.put (Hp.put hp (y17).1 ((y17).2).1 y21) (y28).1 ((y28).2).1 y30) (y38).1 ((y38).2).1 y40)))))))))))))))))))))))))))))))))))))))))) :=
 (qe cxX 141 ss141 400 _ _).trans (by kernel_rfl)
theorem B141_6_eq (x0 x41 : AV) (v42 v43 : Value) (hp : Hp) : B141_6 x0 x41 v42 v43 hp = ((binV Tryz.prog .lss 3 (.tmp 43) (.tmp 42) v43 v42).bind fun y46 => ((asB y46).bind fun y47 => (cond y47 ((qR x41).bind fun y48 => ((idx ((((y48).2).2).2).1 v43).bind fun y49 => ((chkN ((((y48).2).2).2).2 1).bind fun y50 => ((Hp.rd hp (y48).1 ((y48).2).1).bind fun y51 => ((qc y51 (Nat.add (((y48).2).2).1 (Nat.add 0 y49))).bind fun y52 => ((nnA (ro x0)).bind fun y53 => ((qk (ro x0)).bind fun y54 => ((Hp.rd hp (y54).1 ((y54).2).1).bind fun y55 => ((getC y55 ((y54).2).2).bind fun y56 => ((binV Tryz.prog .add 3 (.tmp 53) (.const (.int .i64 (.ofNat 1))) y52 (.int .i64 (.ofNat 1))).bind fun y57 => ((binV Tryz.prog .quo 3 (.tmp 54) (.const (.int .i64 (.ofNat 2))) y57 (.int .i64 (.ofNat 2))).bind fun y58 => ((qR (ro1 y56)).bind fun y59 => ((idx ((((y59).2).2).2).1 v43).bind fun y60 => ((chkN ((((y59).2).2).2).2 1).bind fun y61 => ((Hp.rd hp (y59).1 ((y59).2).1).bind fun y62 => ((putN y62 (Nat.add (((y59).2).2).1 (Nat.add 0 y60)) [AV.sc y58]).bind fun y63 => ((nnA (ro x0)).bind fun y64 => ((qk (ro x0)).bind fun y65 => ((Hp.rd (Hp.put hp (y59).1 ((y59).2).1 y63) (y65).1 ((y65).2).1).bind fun y66 => ((qc y66 (Nat.succ ((y65).2).2)).bind fun y67 => ((nnA (ro x0)).bind fun y68 => ((qk (ro x0)).bind fun y69 => ((Hp.rd (Hp.put hp (y59).1 ((y59).2).1 y63) (y69).1 ((y69).2).1).bind fun y70 => ((getC y70 ((y69).2).2).bind fun y71 => ((qR (ro1 y71)).bind fun y72 => ((idx ((((y72).2).2).2).1 v43).bind fun y73 => ((chkN ((((y72).2).2).2).2 1).bind fun y74 => ((Hp.rd (Hp.put hp (y59).1 ((y59).2).1 y63) (y72).1 ((y72).2).1).bind fun y75 => ((qc y75 (Nat.add (((y72).2).2).1 (Nat.add 0 y73))).bind fun y76 => ((binV Tryz.prog .add 3 (.tmp 60) (.tmp 67) y67 y76).bind fun y77 => ((nnA (ro x0)).bind fun y78 => ((qk (ro x0)).bind fun y79 => ((Hp.rd (Hp.put hp (y59).1 ((y59).2).1 y63) (y79).1 ((y79).2).1).bind fun y80 => ((putN y80 (Nat.succ ((y79).2).2) [AV.sc y77]).bind fun y81 => ((binV Tryz.prog .add 3 (.tmp 43) (.const (.int .i64 (.ofNat 1))) v43 (.int .i64 (.ofNat 1))).bind fun y82 => (B141_6 x0 x41 v42 y82 (Hp.put (Hp.put hp (y59).1 ((y59).2).1 y63) (y79).1 ((y79).2).1 y81))))))))))))))))))))))))))))))))))))) (some (Prod.mk (AV.tup []) hp))))) :=
 (qe cxX 141 ss141 400 _ _).trans (by kernel_rfl)
theorem E175 (a0 : AV) (hp : Hp) : run cxX 175 [a0] hp = ((nilP (ro a0)).bind fun y0 => (cond y0 (some (Prod.mk (AV.sc (.int .i64 (.ofNat 0))) hp)) ((nnA (ro a0)).bind fun y1 => ((qk (ro a0)).bind fun y2 => ((Hp.rd hp (y2).1 ((y2).2).1).bind fun y3 => ((getC y3 ((y2).2).2).bind fun y4 => ((lenA (ro1 y4)).bind fun y5 => (some (Prod.mk (AV.sc (.int .i64 (.ofNat y5))) hp))))))))) :=
 (qf cxX 175 ss175 400 _ _).trans (by kernel_rfl)
end Go.Proofs.YtchmioacjkbfcaaGreat.AI
