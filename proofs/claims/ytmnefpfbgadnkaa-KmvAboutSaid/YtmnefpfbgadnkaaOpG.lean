/- Parts of tuples, function values, what is converted, lengths. -/
import Derived.Test.YtmnefpfbgadnkaaOpF
namespace Go.Proofs.Ytmnefpfbgadnkaa.AI
open Go
set_option linter.unusedVariables false
set_option linter.unusedSimpArgs false

section
variable {c : Cx} {G : Gh} {w : World} {st : St} {a : Act} {o : Oper} {Q : Exit → Act → World → Prop}
theorem op_extract (hI : Inv G w st a.tmps) (hd : Dst o a) (h : Nat) {t i : Nat} (hop : o.op = .extract (.tmp t) i) {l : List AV} {y : AV} (hl : slot st.sl t = .tp l) (hy : l[i]? = some y) {s : SV}
    (hs : (∃ v, y = .sc v ∧ s = .sv v) ∨ s = .av y) : o.wp c.P a w (Aft G w a (after h o st s none st.hp)) Q := by
  have hxr := hI.slots t
  rw [hl] at hxr
  obtain ⟨vs, hv, u, hu, hyu⟩ := extract_rel hxr hy
  have hrun : (execOp a.eval o).run c.P w = .ok (.value u) w := by
    have he : a.eval (.tmp t) = .tuple vs.toArray := hv
    simp only [execOp, hop, he, Instr.extract]
    simp [hu]
  refine wp_value hrun ?_
  have hdn : dnOp h o st.sl = (t, .tp (l.set i (ro y))) :: st.sl := by simp [dnOp, hop, dnX, hl, hy]
  unfold after
  rw [hdn]
  -- the slot that is lowered, under whatever names of owners
  have low : ∀ (G' : Gh), Ev G w G' w → (∀ j q, j ≠ i → Keeps G w G' w (.sl t j q) (.sl t j q)) → RelS G' w t (.tp (l.set i (ro y))) (a.tmps.getD t undef) := by
    intro G' he hk
    obtain ⟨vs', e1, e2, e3⟩ := hxr
    refine ⟨vs', e1, by simp [e2], fun j x u' hx hu' => ?_⟩
    by_cases e : i = j
    · subst e
      rw [List.getElem?_set_self (List.getElem?_eq_some_iff.mp hy).1] at hx
      cases hx
      exact (e3 i y u' hy hu').ro he _
    · rw [List.getElem?_set_ne e] at hx
      exact (e3 j x u' hx hu').ev he (fun q => hk j q (fun e' => e e'.symm))
  cases hdst : o.dst with
  | none =>
    refine ⟨G, ?_, Fr.refl G w, rfl, rfl⟩
    exact {
      slots := fun k => by
        show RelS G w k (slot ((t, .tp (l.set i (ro y))) :: st.sl) k) _
        rw [slot_put]
        split
        · rename_i e; subst e; exact low G (Ev.refl G w) (fun j q _ b hb => ⟨rfl, rfl, hb⟩)
        · exact hI.slots k
      boxes := hI.boxes
      heap := hI.heap
      next := hI.next
      hlt := hI.hlt
      new := hI.new
      vars := hI.vars
      lps := fun j k g off e => by
        have e' : slot ((t, .tp (l.set i (ro y))) :: st.sl) j = .lp k g off := e
        rw [slot_put] at e'
        split at e'
        · cases e'
        · exact hI.lps j k g off e' }
  | some d =>
    have hdd := hd d hdst
    have hr := mvX_rho t i d
    have he : Ev G w (G.rel (mvX t i d)) w := (Fr.rel hr).ev
    obtain ⟨hn, hvars⟩ := hI.relNew hr
    have keep : ∀ p q, mvX t i d p = q → Keeps G w (G.rel (mvX t i d)) w p q := fun p q hpq b hb => ⟨rfl, rfl, by simp [Gh.rel, hb, hpq]⟩
    refine ⟨G.rel (mvX t i d), ?_, Fr.rel hr, put_size _ _ _, put_defers _ _ _⟩
    exact {
      slots := fun k => by
        show RelS _ w k (slot ((d, s) :: (t, .tp (l.set i (ro y))) :: st.sl) k) _
        rw [slot_put, tmps_put a d _ hdd]
        split
        · rename_i e; subst e
          have hmv := RelV.ev he (p := fun q => .sl t i q) (q := fun q => .sl d 0 q) (fun q => keep _ _ (by simp [mvX])) hyu
          rcases hs with ⟨v, rfl, rfl⟩ | rfl
          · have hmv' : RelR _ w (.sc v) u := hmv
            cases hmv' with
            | sc _ h1 => exact ⟨rfl, h1⟩
          · exact hmv
        · rw [slot_put]
          split
          · rename_i e; subst e
            exact low _ he (fun j q hj => keep _ _ (by simp [mvX, hj]))
          · rename_i hne
            refine RelS.ev he (k := k) (k' := k) (fun j q => keep _ _ ?_) (fun _ _ _ _ _ h => h) (hI.slots k)
            have : k ≠ t := fun e => hne e.symm
            simp [mvX, this]
      boxes := fun j g cs h => by
        obtain ⟨blk, h1, h2, h3⟩ := hI.boxes j g cs h
        exact ⟨blk, h1, by simp [Gh.rel, h2, mvX], h3.ev he rfl fun i => keep _ _ rfl⟩
      heap := fun j g cs h => by
        obtain ⟨blk, h1, h2, h3⟩ := hI.heap j g cs h
        exact ⟨blk, h1, by simp [Gh.rel, h2, mvX], h3.ev he rfl fun i => keep _ _ rfl⟩
      next := hI.next
      hlt := hI.hlt
      new := hn
      vars := hvars
      lps := fun j k g off e => by
        have e' : slot ((d, s) :: (t, .tp (l.set i (ro y))) :: st.sl) j = .lp k g off := e
        rw [slot_put] at e'
        split at e'
        · rcases hs with ⟨v, _, rfl⟩ | rfl <;> cases e'
        · rw [slot_put] at e'
          split at e'
          · cases e'
          · exact hI.lps j k g off e' }

/-! ### function values -/
theorem toA_rel {k : Nat} {s : SV} {x : AV} {v : Value} (h : RelS G w k s v) (hx : toA s = some x) : RelV G w (.sl k 0 ·) x v := by
  cases s with
  | sv u => cases hx; obtain ⟨rfl, h1⟩ := h; exact RelR.sc _ h1
  | av y => cases hx; exact h
  | _ => cases hx
theorem toAs_rel (hI : Inv G w st a.tmps) : ∀ {xs : List Operand} {l : List AV}, toAs (xs.map (evS st.sl)) = some l →
    l.length = xs.length ∧ ∀ (i : Nat) (x : AV), l[i]? = some x → ∃ o, xs[i]? = some o ∧ RelV G w (.sl (num o) 0 ·) x (a.eval o)
  | [], l, h => by simp only [List.map_nil, toAs] at h; cases h; exact ⟨rfl, fun i x hx => by simp at hx⟩
  | y :: ys, l, h => by
    simp only [List.map_cons, toAs] at h
    obtain ⟨x, hx, h⟩ := Option.bind_eq_some_iff.mp h
    obtain ⟨l', hl', h⟩ := Option.bind_eq_some_iff.mp h
    cases h
    obtain ⟨h1, h2⟩ := toAs_rel hI hl'
    refine ⟨by simp [h1], fun i x' hx' => ?_⟩
    cases i with
    | zero => simp at hx'; subst hx'; exact ⟨y, rfl, toA_rel (evR hI y) hx⟩
    | succ i => simp at hx'; obtain ⟨o, ho, hr⟩ := h2 i x' hx'; exact ⟨o, by simpa using ho, hr⟩

/-! ### what is converted -/
theorem conv_noBytes {P : Program} {s d : TypeId} {z v : Value} (hz : cvV P s d v = some z) (w : World) : (convert s d v).run P w = .ok z w ∧ z.oneCell' = true :=
  ⟨pureOf_run (one_some hz).1 w, (one_some hz).2⟩
theorem srcA_sl {p : Nat → Ow} {sz : Nat} {x : AV} {v : Value} {l : List AV} (h : RelV G w p x v) (hl : srcA sz x = some l) :
    (v = .slice none 0 0 ∧ l = []) ∨
    (∃ A n cap, v = .slice (some A) n cap ∧ RelR G w (.sl sz l) v) := by
  cases x with
  | sl s cs =>
    simp only [srcA] at hl
    split at hl
    · rename_i e; subst e; cases hl
      obtain ⟨A, n, cap, e, _⟩ := sl_form (relV_sl h)
      exact .inr ⟨A, n, cap, e, relV_sl h⟩
    · cases hl
  | us s cs =>
    simp only [srcA] at hl
    split at hl
    · rename_i e; subst e; cases hl
      obtain ⟨A, n, cap, e, _⟩ := sl_form (relV_us h)
      exact .inr ⟨A, n, cap, e, relV_us h⟩
    · cases hl
  | sc u =>
    simp only [srcA] at hl
    split at hl
    · cases hl; cases h; exact .inl ⟨rfl, rfl⟩
    · cases hl
  | _ => simp [srcA] at hl
end
end Go.Proofs.Ytmnefpfbgadnkaa.AI
