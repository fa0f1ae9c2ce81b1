/- Calls. -/
import Derived.Test.YtmnefpfbgadnkaaOpO
namespace Go.Proofs.Ytmnefpfbgadnkaa.AI
open Go
set_option linter.unusedVariables false
set_option linter.unusedSimpArgs false

/-- A value that is handed: it owns nothing. -/
def ArgR (G : Gh) (w : World) (x : AV) (v : Value) : Prop := ∀ p, RelV G w p x v
/-- The objects' part of the invariant. -/
structure HpI (G : Gh) (w : World) (hp : Hp) : Prop where
  heap : ∀ b g cs, hp.get b = some (g, cs) → ∃ blk, G.mu b g = some blk ∧ G.Om blk = .obj b g ∧ CellsR G w blk (.oc b g ·) cs
  next : ∀ b g, hp.next ≤ b → G.mu b g = none
  hlt : ∀ b g cs, hp.get b = some (g, cs) → b < hp.next
  new : ∀ b, w.heap.size ≤ b → G.Om b = .fr ∧ G.I b = 0
  vars : ∀ b, (∃ k g, G.Om b = .box k g) ∨ (∃ k g, G.Om b = .obj k g) → G.I b = 0
theorem Inv.hpI {G : Gh} {w : World} {st : St} {t : Array Value} (h : Inv G w st t) : HpI G w st.hp := ⟨h.heap, h.next, h.hlt, h.new, h.vars⟩
/-- What a function's answer stands for. -/
def ResR (G : Gh) (w : World) (y : AV) (v : Value) : Prop :=
  match y with
  | .tup l => ∃ vs : List Value, v = .tuple vs.toArray ∧ l.length = vs.length ∧ ∀ (j : Nat) (x : AV) (c : Value), l[j]? = some x → vs[j]? = some c → RelV G w (.sl 0 j ·) x c
  | x => RelV G w (.sl 0 0 ·) x v
/-- What a run leaves. -/
def Gives (G : Gh) (w : World) (y : AV) (hp : Hp) (e : Ending) (w' : World) : Prop :=
  ∃ v G', e = .returned v ∧ Fr G w G' w' ∧ HpI G' w' hp ∧ ResR G' w' y v
/-- Whatever the oracle answers, the program's function answers. -/
def Sound (c : Cx) (R : Orc) : Prop :=
  ∀ f xs hp y hp', R f xs hp = some (y, hp') → ∀ G w (vs : List Value), HpI G w hp → xs.length = vs.length →
    (∀ (i : Nat) (x : AV) (v : Value), xs[i]? = some x → vs[i]? = some v → ArgR G w x v) → Calls c.P f vs.toArray w (Gives G w y hp')

/-! ### names of owners, across a call -/
def keepN (h : Nat) : Ow → Bool
  | .fr => false
  | .obj _ _ => h != 2
  | .oc _ _ _ => h != 2
  | _ => true
def fore (h : Nat) (p : Ow) : Ow := if keepN h p = true then .oth else p
def back (h d : Nat) : Ow → Ow
  | .fr => .fr
  | .obj b g => if h = 2 then .obj b g else .oth
  | .oc b g i => if h = 2 then .oc b g i else .oth
  | .sl 0 j i => .sl d j i
  | _ => .oth
theorem fore_rho (h : Nat) : Rho (fore h) where
  fr := rfl
  oth := rfl
  box p k g e := by
    unfold fore at e
    split at e
    · cases e
    · exact e
  obj p k g e := by
    unfold fore at e
    split at e
    · cases e
    · exact e
theorem back_obj {h d : Nat} {p : Ow} {k g : Nat} (e : back h d p = .obj k g) : p = .obj k g ∧ h = 2 := by
  unfold back at e
  split at e
  · cases e
  · split at e
    · rename_i h2; exact ⟨e, h2⟩
    · cases e
  · split at e <;> cases e
  · cases e
  · cases e
theorem back_box {h d : Nat} {p : Ow} {k g : Nat} (e : back h d p = .box k g) : False := by
  unfold back at e
  split at e
  · cases e
  · split at e <;> cases e
  · split at e <;> cases e
  · cases e
  · cases e

section
variable {c : Cx} {G : Gh} {w w' : World} {st : St} {a : Act} {o : Oper} {Q : Exit → Act → World → Prop}
theorem HpI.rel {hp : Hp} (hI : HpI G w hp) {f : Ow → Ow} (hf : Rho f) (ho : ∀ b g, f (.obj b g) = .obj b g) (hc : ∀ b g i, f (.oc b g i) = .oc b g i) : HpI (G.rel f) w hp where
  heap b g cs h := by
    obtain ⟨blk, h1, h2, h3⟩ := hI.heap b g cs h
    exact ⟨blk, h1, by simp [Gh.rel, h2, ho], h3.ev (Fr.rel hf).ev rfl fun i b hb => ⟨rfl, rfl, by simp [Gh.rel, hb, hc]⟩⟩
  next := hI.next
  hlt := hI.hlt
  new b hb := ⟨by simp [Gh.rel, (hI.new b hb).1, hf.fr], (hI.new b hb).2⟩
  vars b hb := hI.vars b (by
    rcases hb with ⟨k, g, h⟩ | ⟨k, g, h⟩
    · exact .inl ⟨k, g, hf.box _ _ _ h⟩
    · exact .inr ⟨k, g, hf.obj _ _ _ h⟩)
theorem HpI.pure {hp : Hp} (hI : HpI G w hp) {f : Ow → Ow} (hf : Rho f) : HpI (G.rel f) w hp.emp where
  heap b g cs h := by cases h
  next := hI.next
  hlt b g cs h := by cases h
  new b hb := ⟨by simp [Gh.rel, (hI.new b hb).1, hf.fr], (hI.new b hb).2⟩
  vars b hb := hI.vars b (by
    rcases hb with ⟨k, g, h⟩ | ⟨k, g, h⟩
    · exact .inl ⟨k, g, hf.box _ _ _ h⟩
    · exact .inr ⟨k, g, hf.obj _ _ _ h⟩)
/-- The caller's ghost, behind a call. -/
def Gh.join (G G' : Gh) (h d : Nat) : Gh := ⟨fun b => if keepN h (G.Om b) = true then G.Om b else back h d (G'.Om b), G'.I, G'.mu, G.la⟩
theorem aft_call (hI : Inv G w st a.tmps) (h : Nat) (hdn : dnOp h o st.sl = st.sl) (hd : Dst o a) {G' : Gh} (hf : Fr (G.rel (fore h)) w G' w') {hp' : Hp} (hH : HpI G' w' hp') {s : SV} {v : Value}
    (hs : ∀ d Gf, Ev G' w' Gf w' → (∀ j i, Keeps G' w' Gf w' (.sl 0 j i) (.sl d j i)) → RelS Gf w' d s v) (hl : ∀ k g off, s ≠ .lp k g off) :
    Aft G w a (after h o st s none (if h = 2 then hp' else st.hp.adv hp'.next)) (a.put o.dst v) w' := by
  let d := o.dst.getD 0
  let Gf := G.join G' h d
  have hkept : ∀ b, keepN h (G.Om b) = true → b < w.heap.size ∧ w'.heap[b]? = w.heap[b]? ∧ G'.Om b = .oth ∧ G'.I b = G.I b ∧ Gf.Om b = G.Om b := by
    intro b hb
    have hlt : b < w.heap.size := hI.lt rfl (by rintro e; rw [e] at hb; simp [keepN] at hb)
    obtain ⟨h1, h2, h3⟩ := hf.same b hlt (.inr (by simp [Gh.rel, fore, hb]))
    exact ⟨hlt, h1, by rw [h2]; simp [Gh.rel, fore, hb], h3, by simp [Gf, Gh.join, hb]⟩
  have hnk : ∀ b, G'.Om b ≠ .oth → Gf.Om b = back h d (G'.Om b) := by
    intro b hb
    have : ¬ keepN h (G.Om b) = true := fun e => hb (hkept b e).2.2.1
    simp [Gf, Gh.join, this]
  have hev : Ev G' w' Gf w' := ⟨fun _ _ _ => rfl, fun _ => Nat.le_refl _, fun _ _ _ h => h⟩
  have hK : ∀ p, keepN h p = true → Keeps G w Gf w' p p := by
    intro p hp b hb
    have := hkept b (by rw [hb]; exact hp)
    exact ⟨this.2.1, this.2.2.2.1, by rw [this.2.2.2.2, hb]⟩
  have hfr : Fr G w Gf w' := {
    size := hf.size
    cells := hf.cells
    imm := hf.imm
    mu := hf.mu
    rest := hf.rest
    same := fun b hb ho => by
      rcases ho with ho | ho
      · obtain ⟨h1, h2, h3⟩ := hf.same b hb (.inl (by simp [Gh.rel, ho, fore, keepN]))
        have h2' : G'.Om b = .fr := by rw [h2]; simp [Gh.rel, ho, fore, keepN]
        exact ⟨h1, by rw [hnk b (by rw [h2']; simp), h2', ho]; rfl, h3⟩
      · have := hkept b (by rw [ho]; rfl)
        exact ⟨this.2.1, this.2.2.2.2, this.2.2.2.1⟩ }
  have hev' : Ev G w Gf w' := hfr.ev
  have hback : ∀ p q, p ≠ .oth → back h d p = q → Keeps G' w' Gf w' p q := fun p q hp hq b hb => ⟨rfl, rfl, by rw [hnk b (by rw [hb]; exact hp), hb, hq]⟩
  have hnext : st.hp.next ≤ hp'.next ∨ True := .inr trivial
  have hmono : ∀ b g blk, G.mu b g = some blk → b < hp'.next := by
    intro b g blk hm
    rcases Nat.lt_or_ge b hp'.next with hlt | hge
    · exact hlt
    · have := hf.mu b g blk hm
      rw [hH.next b g hge] at this; cases this
  have hI' : Inv Gf w' ⟨st.sl, st.bx, if h = 2 then hp' else st.hp.adv hp'.next⟩ a.tmps := {
    slots := fun k => RelS.ev hev' (fun j i => hK _ rfl) (fun _ _ _ _ _ h => h) (hI.slots k)
    boxes := fun k g cs hb => by
      obtain ⟨blk, h1, h2, h3⟩ := hI.boxes k g cs hb
      have hk := hkept blk (by rw [h2]; rfl)
      exact ⟨blk, h1, by rw [hk.2.2.2.2, h2], h3.ev hev' hk.2.1 fun i => hK _ rfl⟩
    heap := fun b g cs hb => by
      by_cases h2 : h = 2
      · simp only [h2, if_true] at hb
        obtain ⟨blk, e1, e2, e3⟩ := hH.heap b g cs hb
        refine ⟨blk, e1, ?_, e3.ev hev rfl fun i => hback _ _ (by simp) (by simp [back, h2])⟩
        rw [hnk blk (by rw [e2]; simp), e2]; simp [back, h2]
      · simp only [h2, if_false] at hb
        obtain ⟨blk, e1, e2, e3⟩ := hI.heap b g cs hb
        have hk := hkept blk (by rw [e2]; simp [keepN, h2])
        exact ⟨blk, hf.mu _ _ _ e1, by rw [hk.2.2.2.2, e2], e3.ev hev' hk.2.1 fun i => hK _ (by simp [keepN, h2])⟩
    next := fun b g hb => hH.next b g (by
      have hb' : (if h = 2 then hp' else st.hp.adv hp'.next).next ≤ b := hb
      split at hb' <;> exact hb')
    hlt := fun b g cs hb => by
      by_cases h2 : h = 2
      · simp only [h2, if_true] at hb ⊢
        exact hH.hlt b g cs hb
      · simp only [h2, if_false] at hb ⊢
        obtain ⟨blk, e1, e2, e3⟩ := hI.heap b g cs hb
        exact hmono b g blk e1
    new := fun b hb => by
      obtain ⟨h1, h2⟩ := hH.new b hb
      exact ⟨by rw [hnk b (by rw [h1]; simp), h1]; rfl, h2⟩
    vars := fun b hb => by
      by_cases hk : keepN h (G.Om b) = true
      · have hq := hkept b hk
        rw [hq.2.2.2.2] at hb
        show G'.I b = 0
        rw [hq.2.2.2.1]
        exact hI.vars b hb
      · have e : Gf.Om b = back h d (G'.Om b) := by simp [Gf, Gh.join, hk]
        rw [e] at hb
        rcases hb with ⟨k, g, hb⟩ | ⟨k, g, hb⟩
        · exact (back_box hb).elim
        · exact hH.vars b (.inr ⟨k, g, (back_obj hb).1⟩)
    lps := hI.lps }
  refine ⟨Gf, ?_, hfr, put_size _ _ _, put_defers _ _ _⟩
  unfold after
  rw [hdn]
  refine hI'.put o.dst hd (fun k hk => ?_) (fun k g off e => absurd e (hl k g off))
  have hdk : d = k := by simp [d, hk]
  subst hdk
  exact hs d Gf hev (fun j i => hback _ _ (by simp) (by simp [back]))
theorem resK_rel {ti : TI} {y : AV} {s : SV} {v : Value} (hr : resK ti y some = some s) {G' : Gh} (h : ResR G' w' y v) :
    (∀ d Gf, Ev G' w' Gf w' → (∀ j i, Keeps G' w' Gf w' (.sl 0 j i) (.sl d j i)) → RelS Gf w' d s v) ∧ ∀ k g off, s ≠ .lp k g off := by
  unfold resK at hr
  split at hr
  · obtain ⟨u, hu, hr⟩ := Option.bind_eq_some_iff.mp hr
    cases hr
    rw [asSc_some hu] at h
    have h' : RelR G' w' (.sc u) v := h
    cases h' with
    | sc _ h1 => exact ⟨fun _ _ _ _ => ⟨rfl, h1⟩, by simp⟩
  · obtain ⟨u, hu, hr⟩ := Option.bind_eq_some_iff.mp hr
    cases hr
    cases y with
    | tup l =>
      simp only [chkTup] at hu
      split at hu
      · rename_i hn
        have e : (List.range ti.size).map (nthA (.tup l)) = l := by
          apply List.ext_getElem?
          intro i
          by_cases hi : i < ti.size
          · rw [List.getElem?_map, List.getElem?_range hi]
            have : i < l.length := by omega
            simp [nthA, this]
          · rw [List.getElem?_eq_none (by simp; omega), List.getElem?_eq_none (by omega)]
        rw [e]
        obtain ⟨vs, h1, h2, h3⟩ := h
        exact ⟨fun d Gf he hk => ⟨vs, h1, h2, fun j x cc hx hc => RelV.ev he (fun i => hk j i) (h3 j x cc hx hc)⟩, by simp⟩
      · cases hu
    | _ => cases hu
  · obtain ⟨u, hu, hr⟩ := Option.bind_eq_some_iff.mp hr
    cases hr
    refine ⟨fun d Gf he hk => ?_, by simp⟩
    have h' : RelV G' w' (.sl 0 0 ·) y v := by
      cases y <;> first | exact h | cases hu
    exact RelV.ev he (fun i => hk 0 i) h'
theorem op_callK {R : Orc} (hR : Sound c R) (hI : Inv G w st a.tmps) (hd : Dst o a) (h : Nat) {ti : TI} {f : FuncId} {caps : List AV} {cvs : List Value} {xs : List Operand} {r : SV × BE × Hp}
    (hr : callK c R h ti f caps (xs.map (evS st.sl)) st.hp k3 = some r) (hcl : caps.length = cvs.length) (hcaps : ∀ (i : Nat) (x : AV) (v : Value), caps[i]? = some x → cvs[i]? = some v → RelR G w x v)
    (hdn : dnOp h o st.sl = st.sl) (hexec : (execOp a.eval o).run c.P w = .ok (.enter f (xs.map a.eval ++ cvs).toArray) w) : o.wp c.P a w (Aft G w a (after h o st r.1 r.2.1 r.2.2)) Q := by
  unfold callK at hr
  obtain ⟨ys, hys, hr⟩ := Option.bind_eq_some_iff.mp hr
  have hfr : Fr G w (G.rel (fore h)) w := Fr.rel (fore_rho h)
  obtain ⟨hl, hargs⟩ := toAs_rel hI hys
  have hA : ∀ (i : Nat) (x : AV) (v : Value), (ys.map ro ++ caps)[i]? = some x → (xs.map a.eval ++ cvs)[i]? = some v → ArgR (G.rel (fore h)) w x v := by
    intro i x v hx hv p
    by_cases hi : i < ys.length
    · rw [List.getElem?_append_left (by simpa using hi)] at hx
      rw [List.getElem?_append_left (by simp; omega)] at hv
      obtain ⟨y, hy, rfl⟩ := list_map_get _ _ _ _ hx
      obtain ⟨q, hq, hrel⟩ := hargs i y hy
      rw [List.getElem?_map, hq] at hv
      cases hv
      exact RelV.ro hfr.ev p hrel
    · rw [List.getElem?_append_right (by simp; omega)] at hx
      rw [List.getElem?_append_right (by simp; omega)] at hv
      simp only [List.length_map, ← hl] at hx hv
      exact (((hcaps _ x v hx hv).ev hfr.ev).c (p 0)).v
  have hlen : (ys.map ro ++ caps).length = (xs.map a.eval ++ cvs).length := by simp [hl, hcl]
  have key : ∀ (hp0 hp' : Hp) (y : AV) (s : SV), R f (ys.map ro ++ caps) hp0 = some (y, hp') → HpI (G.rel (fore h)) w hp0 → resK ti y some = some s →
      o.wp c.P a w (Aft G w a (after h o st s none (if h = 2 then hp' else st.hp.adv hp'.next))) Q := by
    intro hp0 hp' y s hrun hH hs
    unfold Oper.wp
    rw [hexec, Oper.upon_enter]
    refine (hR f _ _ y hp' hrun _ w _ hH hlen hA).mono fun e w' hg => ?_
    obtain ⟨v, G', rfl, hf, hH', hres⟩ := hg
    obtain ⟨h1, h2⟩ := resK_rel hs hres
    exact aft_call hI h hdn hd hf hH' h1 h2
  split at hr
  · rename_i h2
    obtain ⟨⟨y, hp'⟩, hrun, hr⟩ := Option.bind_eq_some_iff.mp hr
    rw [resK_nat] at hr
    obtain ⟨s, hs, hr⟩ := Option.bind_eq_some_iff.mp hr
    cases hr
    have := key st.hp hp' y s hrun (hI.hpI.rel (fore_rho h) (by simp [fore, keepN, h2]) (by simp [fore, keepN, h2])) hs
    rw [if_pos h2] at this
    exact this
  · rename_i h2
    obtain ⟨⟨y, hp'⟩, hrun, hr⟩ := Option.bind_eq_some_iff.mp hr
    rw [resK_nat] at hr
    obtain ⟨s, hs, hr⟩ := Option.bind_eq_some_iff.mp hr
    cases hr
    have := key st.hp.emp hp' y s hrun (hI.hpI.pure (fore_rho h)) hs
    rw [if_neg h2] at this
    exact this

/-! ### which function is called -/
theorem run_callFunc {P : Program} {f : FuncId} {fn : Func} (hf : P.funcs[f]? = some fn) (hn : (fn.name == "runtime.NumGoroutine") = false) {b : Code} (hb : fn.body = some b) (args : Array Value) (w : World) :
    (callFunc f args).run P w = .ok (.enter f args) w := by
  have hn' : ¬ fn.name = "runtime.NumGoroutine" := by simpa using hn
  simp [callFunc, hf, hn', hb]
end
end Go.Proofs.Ytmnefpfbgadnkaa.AI
