/- Two operations that do not clash change places; an operation is drawn to the front. -/
import Derived.Test.YtmnefpfbgadnkaaLocC
namespace Go.Proofs.Ytmnefpfbgadnkaa.AI
open Go
set_option linter.unusedVariables false
set_option linter.unusedSimpArgs false

def mix (F : Fp) (v1 v : Vw) : Vw :=
  ⟨fun k => if k ∈ F.ws then v1.sl k else v.sl k, fun k => if F.bw = some k then v1.bx k else v.bx k, ⟨if F.nw = true then v1.hp.next else v.hp.next, if F.hw = true then v1.hp.get else v.hp.get⟩⟩
/-- What the operation looks at is alike. -/
structure Like (F : Fp) (v' v : Vw) : Prop where
  s : ∀ k, k ∈ F.rs ∨ k ∈ F.ws → v'.sl k = v.sl k
  b : ∀ k, F.br = some k ∨ F.bw = some k → v'.bx k = v.bx k
  A : F.hr = true ∨ F.hw = true → v'.hp.get = v.hp.get
  B : F.nw = true → v'.hp.next = v.hp.next
theorem vw_ext {a b : Vw} (h1 : ∀ k, a.sl k = b.sl k) (h2 : ∀ k, a.bx k = b.bx k) (h3 : a.hp.next = b.hp.next) (h4 : a.hp.get = b.hp.get) : a = b := by
  obtain ⟨s, x, p⟩ := a
  obtain ⟨s', x', p'⟩ := b
  have e1 : s = s' := funext h1
  have e2 : x = x' := funext h2
  have e3 : p = p' := hp_ext h3 h4
  subst e1; subst e2; subst e3; rfl

section
variable {c : Cx} {C : Orc} {f : FuncId} {r : Nat} {ops : Array Oper}
theorem dnV_congr {h : Nat} {o : Oper} {σ σ' : Nat → SV} {k : Nat} (hk : σ' k = σ k) : dnV h o σ' k = dnV h o σ k := by
  unfold dnV
  split
  · rename_i t i hop
    by_cases e : k = t
    · subst e; rw [if_pos rfl, if_pos rfl, hk]
    · rw [if_neg e, if_neg e, hk]
  · rw [hk]
theorem dnV_out {h : Nat} {o : Oper} {σ : Nat → SV} {k : Nat} (hk : k ∉ downs h o) : dnV h o σ k = σ k := by
  unfold dnV
  split
  · rename_i t i hop
    have : k ≠ t := by
      rintro rfl
      apply hk
      simp only [downs, hop, tmpsOf, List.mem_singleton]
    rw [if_neg this]
  · rw [if_neg hk]
theorem looks_tmp {o : Oper} {t : Nat} (h : Operand.tmp t ∈ o.op.operands.toList) : t ∈ o.looksAt ops :=
  List.mem_append_left _ (List.mem_filterMap.2 ⟨.tmp t, h, rfl⟩)
theorem vExec_loc {h : Nat} {o : Oper} {v v' v1 : Vw} {F : Fp} (hr : vExec c C ops h o v = some (v1, F)) (hl : Like F v' v) : vExec c C ops h o v' = some (mix F v1 v', F) := by
  unfold vExec at hr ⊢
  obtain ⟨q, hq, hr⟩ := Option.bind_eq_some_iff.mp hr
  have hF : fpV h ops o (evV v.sl) = F := (Prod.mk.inj (Option.some.inj hr)).2
  have hv1 : (⟨putV (dnV h o v.sl) o.dst q.1, setV v.bx q.2.1, q.2.2⟩ : Vw) = v1 := (Prod.mk.inj (Option.some.inj hr)).1
  subst hv1
  subst hF
  have hev : ∀ x ∈ o.op.operands.toList, evV v'.sl x = evV v.sl x := by
    intro x hx
    cases x with
    | tmp t => exact hl.s t (.inl (looks_tmp hx))
    | _ => rfl
  have ha := acc_ev (h := h) hev
  obtain ⟨l1, l2, l3, l4⟩ := coreK_loc (gb' := v'.bx) (hp' := v'.hp) hq (fun k hk => hl.b k hk) (fun hk => hl.A hk) (fun hk => hl.B hk)
  rw [coreK_ev hev, l1]
  simp only [Option.bind_some]
  have hfp : fpV h ops o (evV v'.sl) = fpV h ops o (evV v.sl) := by unfold fpV; rw [ha.1, ha.2]
  rw [hfp]
  congr 2
  refine vw_ext (fun k => ?_) (fun k => ?_) rfl rfl
  · show putV (dnV h o v'.sl) o.dst q.1 k = if k ∈ o.dst.toList ++ downs h o then putV (dnV h o v.sl) o.dst q.1 k else v'.sl k
    by_cases hk : k ∈ o.dst.toList ++ downs h o
    · rw [if_pos hk]
      unfold putV
      rw [dnV_congr (hl.s k (.inr hk))]
    · rw [if_neg hk]
      unfold putV
      have h1 : ¬ o.dst = some k := fun e => hk (by simp [e])
      have h2 : k ∉ downs h o := fun e => hk (by simp [e])
      rw [if_neg h1, dnV_out h2]
  · show setV v'.bx q.2.1 k = if (accB h o (evV v.sl)).2 = some k then setV v.bx q.2.1 k else v'.bx k
    by_cases hk : (accB h o (evV v.sl)).2 = some k
    · rw [if_pos hk]
      have := hl.b k (.inr hk)
      unfold setV
      rw [this]
    · rw [if_neg hk]
      unfold setV
      split
      · rename_i j g cs e
        have : j ≠ k := by
          rintro rfl
          exact hk (l4 _ _ _ e)
        rw [if_neg this]
      · rfl
theorem vSkip_loc {o : Oper} {v v' v1 : Vw} {F : Fp} (hr : vSkip ops o v = (v1, F)) (hl : Like F v' v) : vSkip ops o v' = (mix F v1 v', F) := by
  unfold vSkip at hr ⊢
  cases hr
  congr 1
  refine vw_ext (fun k => ?_) (fun k => ?_) (by simp [mix, fpSkip]) (by simp [mix, fpSkip])
  · show putV v'.sl o.dst .ud k = if k ∈ o.dst.toList then putV v.sl o.dst .ud k else v'.sl k
    unfold putV
    by_cases hk : o.dst = some k
    · have : k ∈ o.dst.toList := by simp [hk]
      rw [if_pos hk, if_pos this, if_pos hk]
    · have : ¬ k ∈ o.dst.toList := by simpa using hk
      rw [if_neg hk, if_neg this]
  · show v'.bx k = if (none : Option Nat) = some k then v.bx k else v'.bx k
    rw [if_neg (by simp)]
theorem guarded_looks {o : Oper} {g : Nat} {want : Bool} (h : guarded o ops = some (some (g, want))) : g ∈ o.looksAt ops := by
  unfold guarded at h
  split at h
  · cases h
  · rename_i j want' hg
    split at h
    · rename_i oj hj
      split at h
      · rename_i d hd
        cases h
        refine List.mem_append_right _ ?_
        rw [hg]
        simp [hj, hd]
      · cases h
    · cases h
theorem vOp_loc {i : Nat} {v v' v1 : Vw} {F : Fp} (hr : vOp c C f r ops i v = some (v1, F)) (hl : Like F v' v) : vOp c C f r ops i v' = some (mix F v1 v', F) := by
  unfold vOp at hr ⊢
  cases ho : ops[i]? with
  | none => rw [ho] at hr; cases hr
  | some o =>
    rw [ho] at hr
    simp only at hr ⊢
    cases hg : guarded o ops with
    | none => rw [hg] at hr; cases hr
    | some gw =>
      rw [hg] at hr
      cases gw with
      | none => exact vExec_loc hr hl
      | some q =>
        obtain ⟨g, want⟩ := q
        simp only at hr ⊢
        have hlook := guarded_looks hg
        have hsl : v'.sl g = v.sl g := by
          refine hl.s g (.inl ?_)
          cases hvg : v.sl g with
          | ud => rw [hvg] at hr; simp only at hr; cases hr; exact hlook
          | sv u =>
            rw [hvg] at hr
            simp only at hr
            obtain ⟨t, ht, hr⟩ := Option.bind_eq_some_iff.mp hr
            split at hr
            · unfold vExec at hr
              obtain ⟨q, hq, hr⟩ := Option.bind_eq_some_iff.mp hr
              cases hr; exact hlook
            · cases hr; exact hlook
          | _ => rw [hvg] at hr; cases hr
        rw [hsl]
        cases hvg : v.sl g with
        | ud =>
          rw [hvg] at hr
          simp only at hr ⊢
          exact congrArg some (vSkip_loc (Option.some.inj hr) hl)
        | sv u =>
          rw [hvg] at hr
          simp only at hr ⊢
          obtain ⟨t, ht, hr⟩ := Option.bind_eq_some_iff.mp hr
          rw [ht]
          simp only [Option.bind_some]
          split at hr
          · rename_i e; rw [if_pos e]; exact vExec_loc hr hl
          · rename_i e; rw [if_neg e]; exact congrArg some (vSkip_loc (Option.some.inj hr) hl)
        | _ => rw [hvg] at hr; cases hr
theorem Like.refl (F : Fp) (v : Vw) : Like F v v := ⟨fun _ _ => rfl, fun _ _ => rfl, fun _ => rfl, fun _ => rfl⟩
theorem vOp_keep {i : Nat} {v v1 : Vw} {F : Fp} (hr : vOp c C f r ops i v = some (v1, F)) : v1 = mix F v1 v := by
  have := vOp_loc hr (Like.refl F v)
  rw [hr] at this
  exact (Prod.mk.inj (Option.some.inj this)).1
theorem meets_false {a b : List Nat} (h : meets a b = false) {k : Nat} (ha : k ∈ a) : k ∉ b := by
  intro hb
  have : meets a b = true := by
    unfold meets
    rw [List.any_eq_true]
    exact ⟨k, ha, by simpa using hb⟩
  rw [this] at h; cases h
structure Apart (a b : Fp) : Prop where
  wr : ∀ k, k ∈ a.ws → k ∉ b.rs
  ww : ∀ k, k ∈ a.ws → k ∉ b.ws
  rw_ : ∀ k, k ∈ a.rs → k ∉ b.ws
  bww : ∀ k, a.bw = some k → b.bw ≠ some k
  bwr : ∀ k, a.bw = some k → b.br ≠ some k
  brw : ∀ k, a.br = some k → b.bw ≠ some k
  hwx : a.hw = true → b.hr = false ∧ b.hw = false
  hrw : a.hr = true → b.hw = false
  nn : a.nw = true → b.nw = false
theorem apart_of {a b : Fp} (h : clash a b = false) : Apart a b := by
  unfold clash at h
  simp only [Bool.or_eq_false_iff] at h
  obtain ⟨⟨⟨⟨⟨⟨⟨⟨h1, h2⟩, h3⟩, h4⟩, h5⟩, h6⟩, h7⟩, h8⟩, h9⟩ := h
  refine ⟨fun k hk => meets_false h1 hk, fun k hk => meets_false h2 hk, fun k hk => meets_false h3 hk, fun k e e' => ?_, fun k e e' => ?_, fun k e e' => ?_, fun e => ?_, fun e => ?_, fun e => ?_⟩
  · rw [e, e'] at h4; simp at h4
  · rw [e, e'] at h5; simp at h5
  · rw [e, e'] at h6; simp at h6
  · rw [e] at h7; simpa using h7
  · rw [e] at h8; simpa using h8
  · rw [e] at h9; simpa using h9
theorem vOp_swap {x y : Nat} {v v1 v2 : Vw} {Fx Fy : Fp} (hx : vOp c C f r ops x v = some (v1, Fx)) (hy : vOp c C f r ops y v1 = some (v2, Fy)) (ha : Apart Fx Fy) :
    ∃ v1', vOp c C f r ops y v = some (v1', Fy) ∧ vOp c C f r ops x v1' = some (v2, Fx) := by
  have kx := vOp_keep hx
  have ky := vOp_keep hy
  have xs : ∀ k, k ∉ Fx.ws → v1.sl k = v.sl k := fun k hk => by rw [kx]; simp [mix, hk]
  have xb : ∀ k, Fx.bw ≠ some k → v1.bx k = v.bx k := fun k hk => by rw [kx]; simp [mix, hk]
  have xA : Fx.hw = false → v1.hp.get = v.hp.get := fun h => by rw [kx]; simp [mix, h]
  have xB : Fx.nw = false → v1.hp.next = v.hp.next := fun h => by rw [kx]; simp [mix, h]
  have hy' := vOp_loc hy (v' := v) {
    s := fun k hk => (xs k (hk.elim (fun h e => ha.wr k e h) (fun h e => ha.ww k e h))).symm
    b := fun k hk => (xb k (hk.elim (fun h e => ha.bwr k e h) (fun h e => ha.bww k e h))).symm
    A := fun hk => (xA (by
      cases hw : Fx.hw with
      | false => rfl
      | true => have := ha.hwx hw; rcases hk with h | h <;> simp [this] at h)).symm
    B := fun hk => (xB (by
      cases hw : Fx.nw with
      | false => rfl
      | true => have := ha.nn hw; rw [this] at hk; cases hk)).symm }
  refine ⟨_, hy', ?_⟩
  have hx' := vOp_loc hx (v' := mix Fy v2 v) {
    s := fun k hk => by
      have : k ∉ Fy.ws := hk.elim (fun h => ha.rw_ k h) (fun h => ha.ww k h)
      simp [mix, this]
    b := fun k hk => by
      have : Fy.bw ≠ some k := hk.elim (fun h => ha.brw k h) (fun h => ha.bww k h)
      simp [mix, this]
    A := fun hk => by
      have : Fy.hw = false := hk.elim (fun h => ha.hrw h) (fun h => (ha.hwx h).2)
      simp [mix, this]
    B := fun hk => by
      have : Fy.nw = false := ha.nn hk
      simp [mix, this] }
  rw [hx']
  congr 2
  refine vw_ext (fun k => ?_) (fun k => ?_) ?_ ?_
  · show (if k ∈ Fx.ws then v1.sl k else if k ∈ Fy.ws then v2.sl k else v.sl k) = v2.sl k
    by_cases h1 : k ∈ Fx.ws
    · rw [if_pos h1, ky]
      simp [mix, ha.ww k h1]
    · rw [if_neg h1]
      by_cases h2 : k ∈ Fy.ws
      · rw [if_pos h2]
      · rw [if_neg h2, ky]
        simp [mix, h2, xs k h1]
  · show (if Fx.bw = some k then v1.bx k else if Fy.bw = some k then v2.bx k else v.bx k) = v2.bx k
    by_cases h1 : Fx.bw = some k
    · rw [if_pos h1, ky]
      simp [mix, ha.bww k h1]
    · rw [if_neg h1]
      by_cases h2 : Fy.bw = some k
      · rw [if_pos h2]
      · rw [if_neg h2, ky]
        simp [mix, h2, xb k h1]
  · show (if Fx.nw = true then v1.hp.next else if Fy.nw = true then v2.hp.next else v.hp.next) = v2.hp.next
    by_cases h1 : Fx.nw = true
    · rw [if_pos h1, ky]
      simp [mix, ha.nn h1]
    · rw [if_neg h1]
      by_cases h2 : Fy.nw = true
      · rw [if_pos h2]
      · rw [if_neg h2, ky]
        simp [mix, h2, xB (by simpa using h1)]
  · show (if Fx.hw = true then v1.hp.get else if Fy.hw = true then v2.hp.get else v.hp.get) = v2.hp.get
    by_cases h1 : Fx.hw = true
    · rw [if_pos h1, ky]
      simp [mix, (ha.hwx h1).2]
    · rw [if_neg h1]
      by_cases h2 : Fy.hw = true
      · rw [if_pos h2]
      · rw [if_neg h2, ky]
        simp [mix, h2, xA (by simpa using h1)]
/-- An operation is drawn to the front. -/
theorem vRun_front {y : Nat} : ∀ (L1 L2 : List Nat) (v v2 : Vw) (accs : List (Nat × Fp)), vRun c C f r ops (L1 ++ y :: L2) v = some (v2, accs) →
    (∀ x Fx Fy, (x, Fx) ∈ accs.take L1.length → (y, Fy) ∈ accs → Apart Fx Fy) →
    ∃ v1 F acc1 acc2, vOp c C f r ops y v = some (v1, F) ∧ vRun c C f r ops (L1 ++ L2) v1 = some (v2, acc1 ++ acc2) ∧ accs = acc1 ++ (y, F) :: acc2 ∧ acc1.length = L1.length
  | [], L2, v, v2, accs, h, _ => by
    simp only [List.nil_append, vRun] at h
    obtain ⟨p, hp, h⟩ := Option.bind_eq_some_iff.mp h
    obtain ⟨q, hq, h⟩ := Option.bind_eq_some_iff.mp h
    cases h
    exact ⟨p.1, p.2, [], q.2, hp, hq, rfl, rfl⟩
  | x :: L1, L2, v, v2, accs, h, ha => by
    simp only [List.cons_append, vRun] at h
    obtain ⟨⟨v1, Fx⟩, hx, h⟩ := Option.bind_eq_some_iff.mp h
    obtain ⟨⟨v2', acc'⟩, hrest, h⟩ := Option.bind_eq_some_iff.mp h
    cases h
    obtain ⟨w1, F, acc1, acc2, h1, h2, h3, h4⟩ := vRun_front L1 L2 v1 v2' acc' hrest (fun x' Fx' Fy' hx' hy' => ha x' Fx' Fy' (by simp; exact .inr hx') (by simp [hy']))
    obtain ⟨u, hu1, hu2⟩ := vOp_swap hx h1 (ha x Fx F (by simp) (by rw [h3]; simp))
    refine ⟨u, F, (x, Fx) :: acc1, acc2, hu1, ?_, by rw [h3]; rfl, by simp [h4]⟩
    simp only [List.cons_append, vRun, hu2, Option.bind_some, h2]
end
end Go.Proofs.Ytmnefpfbgadnkaa.AI
