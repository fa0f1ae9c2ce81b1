/- THE ABSTRACT MACHINE IS SOUND: whatever 'run' answers, the program's function answers. -/
import Derived.Test.YtmnefpfbgadnkaaFin
namespace Go.Proofs.Ytmnefpfbgadnkaa.AI
open Go
set_option linter.unusedVariables false
set_option linter.unusedSimpArgs false

/-- Every operation's place is a temporary of the frame. -/
def dstB (N : Nat) : Code → Bool
  | .region _ ops _ => ops.toList.all fun o => match o.dst with | some d => Nat.blt d N | none => true
  | .seq a b => dstB N a && dstB N b
  | .cond _ a b => dstB N a && dstB N b
  | .block _ b => dstB N b
  | .loop b => dstB N b
  | _ => true
def ItOk (N : Nat) : It → Prop
  | .code c => dstB N c = true
  | .inBlock _ => True
  | .inLoop b => dstB N b = true
  | .ops _ _ _ _ _ => False
def toItem : It → Item
  | .code c => .code c
  | .inBlock i => .inBlock i
  | .inLoop b => .inLoop b
  | .ops _ ops is _ _ => .inRegion ops is
theorem popTo_exit {N : Nat} {id : Nat} : ∀ {k k' : List It}, popTo id k = some k' → (∀ it ∈ k, ItOk N it) → exitTo id (k.map toItem) = some (k'.map toItem) ∧ ∀ it ∈ k', ItOk N it
  | [], k', h, _ => by simp [popTo] at h
  | .inBlock j :: k, k', h, hk => by
    simp only [popTo] at h
    by_cases e : j = id
    · rw [if_pos e] at h; cases h
      subst e
      exact ⟨by simp [exitTo, toItem], fun it hi => hk it (by simp [hi])⟩
    · rw [if_neg e] at h
      obtain ⟨h1, h2⟩ := popTo_exit h fun it hi => hk it (by simp [hi])
      have hne : (j == id) = false := by simpa using e
      exact ⟨by simp only [List.map_cons, toItem, exitTo, hne]; exact h1, h2⟩
  | .code c :: k, k', h, hk => by
    obtain ⟨h1, h2⟩ := popTo_exit (k := k) h fun it hi => hk it (by simp [hi])
    exact ⟨h1, h2⟩
  | .inLoop b :: k, k', h, hk => by
    obtain ⟨h1, h2⟩ := popTo_exit (k := k) h fun it hi => hk it (by simp [hi])
    exact ⟨h1, h2⟩
  | .ops r ops is d acc :: k, k', h, hk => (show False from hk (.ops r ops is d acc) (by simp)).elim

section
variable {c : Cx} {R : Orc} {G : Gh} {w : World}
/-- What is forgotten is not asked for. -/
theorem Inv.mask {st : St} {t : Array Value} (hI : Inv G w st t) (m : Option (List Nat)) : Inv G w (AI.mask m st) t := by
  cases m with
  | none => exact hI
  | some live =>
    have hb : ∀ k g cs, getB (maskB st.bx live) k = some (g, cs) → getB st.bx k = some (g, cs) := by
      intro k g cs h
      rw [getB_maskB] at h
      split at h
      · exact h
      · cases h
    exact {
      slots := fun k => by
        show RelS G w k (slot (maskS (maskB st.bx live) st.sl live) k) _
        rw [slot_maskS]
        split
        · have h := hI.slots k
          cases hs : slot st.sl k with
          | lp j g off =>
            simp only [okLp]
            split
            · rw [hs] at h; exact h
            · trivial
          | _ => rw [hs] at h; exact h
        · trivial
      boxes := fun k g cs h => hI.boxes k g cs (hb k g cs h)
      heap := hI.heap
      next := hI.next
      hlt := hI.hlt
      new := hI.new
      vars := hI.vars
      lps := fun j k g off h => by
        have h' : slot (maskS (maskB st.bx live) st.sl live) j = .lp k g off := h
        show ∃ g' cs, getB (maskB st.bx live) k = some (g', cs) ∧ g ≤ g'
        rw [slot_maskS] at h'
        split at h'
        · cases hs : slot st.sl j with
          | lp j' g' off' =>
            rw [hs] at h'
            simp only [okLp] at h'
            split at h'
            · rename_i q hq
              cases h'
              obtain ⟨g', cs, h1, h2⟩ := hI.lps j k g off hs
              rw [hq]
              have := hb k q.1 q.2 hq
              rw [h1] at this
              cases this
              exact ⟨_, _, rfl, h2⟩
            · cases h'
          | _ => rw [hs] at h'; cases h'
        · cases h' }
/-- The drawn order leaves memory alone. -/
theorem Inv.world {w' : World} {st : St} {t : Array Value} (hI : Inv G w st t) (hw : w'.heap = w.heap) : Inv G w' st t := by
  have he : Ev G w G w' := ⟨fun b i _ => by simp [World.cell?, hw], fun _ => Nat.le_refl _, fun _ _ _ h => h⟩
  have hk : ∀ p, Keeps G w G w' p p := fun p b hb => ⟨by rw [hw], rfl, hb⟩
  exact {
    slots := fun k => RelS.ev he (fun j i => hk _) (fun _ _ _ _ _ h => h) (hI.slots k)
    boxes := fun k g cs h => by
      obtain ⟨blk, h1, h2, h3⟩ := hI.boxes k g cs h
      exact ⟨blk, h1, h2, h3.ev he (by rw [hw]) fun i => hk _⟩
    heap := fun k g cs h => by
      obtain ⟨blk, h1, h2, h3⟩ := hI.heap k g cs h
      exact ⟨blk, h1, h2, h3.ev he (by rw [hw]) fun i => hk _⟩
    next := hI.next
    hlt := hI.hlt
    new := fun b hb => hI.new b (by rw [hw] at hb; exact hb)
    vars := hI.vars
    lps := hI.lps }
theorem Fr.world {w' : World} (hw : w'.heap = w.heap) (hr : Rest w w') : Fr G w G w' :=
  ⟨by rw [hw]; exact Nat.le_refl _, fun b i _ => by simp [World.cell?, hw], fun _ => Nat.le_refl _, fun _ _ _ h => h, fun b _ _ => ⟨by rw [hw], rfl, rfl⟩, hr⟩
theorem vw_inv {st st' : St} {t : Array Value} (hv : st.vw = st'.vw) (hI : Inv G w st t) : Inv G w st' t := by
  have h1 : slot st'.sl = slot st.sl := (congrArg Vw.sl hv).symm
  have h2 : getB st'.bx = getB st.bx := (congrArg Vw.bx hv).symm
  have h3 : st'.hp = st.hp := (congrArg Vw.hp hv).symm
  exact {
    slots := by rw [h1]; exact hI.slots
    boxes := by rw [h2]; exact hI.boxes
    heap := by rw [h3]; exact hI.heap
    next := by rw [h3]; exact hI.next
    hlt := by rw [h3]; exact hI.hlt
    new := hI.new
    vars := hI.vars
    lps := by rw [h1, h2]; exact hI.lps }
/-- A region. -/
theorem region_ok (hc : Ok c) (hR : Sound c R) (hS : Bodies c R) {f : FuncId} {r : Nat} {ops : Array Oper} {d : Bool} {st st' : St} {accs : List (Nat × Fp)} {a : Act} (hI : Inv G w st a.tmps)
    (hd : ∀ o ∈ ops, Dst o a) (hrun : vRun c R f r ops (List.range ops.size) st.vw = some (st'.vw, accs)) (hok : d = true → drawOk ops accs.reverse = true) :
    (Code.region r ops d).wp c.P (fun e a' w' => e = .normal ∧ ∃ G', Inv G' w' st' a'.tmps ∧ Fr G w G' w' ∧ a'.tmps.size = a.tmps.size ∧ a'.defers = a.defers) a w := by
  have conv : ∀ {w0 : World} (_ : Fr G w G w0) (a' : Act) (w' : World), AftV G w0 a st'.vw a' w' → ∃ G', Inv G' w' st' a'.tmps ∧ Fr G w G' w' ∧ a'.tmps.size = a.tmps.size ∧ a'.defers = a.defers := by
    rintro w0 hf a' w' ⟨G', ⟨s, hs, hI'⟩, h2, h3, h4⟩
    exact ⟨G', vw_inv hs hI', hf.trans h2, h3, h4⟩
  cases d with
  | false =>
    exact wp_region (ops_ok hc hR hS _ G w a _ _ _ hrun ⟨st, rfl, hI⟩ hd fun a' w' h => ⟨rfl, conv (Fr.refl G w) a' w' h⟩)
  | true =>
    have hdr := hok rfl
    unfold drawOk at hdr
    have hdeps : depsB ops = true := by
      cases h : depsB ops with
      | true => rfl
      | false => rw [h] at hdr; cases hdr
    have hpairs : ∀ p ∈ accs.reverse, ∀ q ∈ accs.reverse, (!(decide (p.1 < q.1)) || ((ancTab ops.toList []).getD q.1 []).contains p.1 || !(clash p.2 q.2)) = true := by
      intro p hp q hq
      rw [hdeps, Bool.true_and] at hdr
      exact List.all_eq_true.mp (List.all_eq_true.mp hdr p hp) q hq
    have hw : ({ w with drawn := w.drawn + 1 } : World).heap = w.heap := rfl
    refine wp_region_any hc.mixed (any_ok hc hR hS hdeps ops.size (List.range ops.size) (Array.replicate ops.size false) G { w with drawn := w.drawn + 1 } a st.vw st'.vw accs (by simp) (fun i => ?_) (fun i hi => List.mem_range.mp hi) (by simp)
      List.pairwise_lt_range (fun j o d hj _ _ => ?_) hrun (fun x Fx y Fy hx hy hxy => ?_) ⟨st, rfl, hI.world hw⟩ hd fun a' w' h => ⟨rfl, conv (Fr.world hw ⟨rfl, rfl, rfl⟩) a' w' h⟩)
    · rw [List.mem_range]
      by_cases h : i < ops.size <;> simp [Array.getD, h]
    · exfalso
      by_cases h : j < ops.size <;> simp [Array.getD, h] at hj
    · have := hpairs (x, Fx) (by simpa using hx) (y, Fy) (by simpa using hy)
      simp only [hxy, decide_true, Bool.not_true, Bool.false_or, Bool.or_eq_true] at this
      rcases this with h | h
      · exact .inl (by simpa using h)
      · exact .inr (apart_of (by simpa using h))
theorem dst_ok {N : Nat} {r : Nat} {ops : Array Oper} {d : Bool} (h : dstB N (.region r ops d) = true) {a : Act} (hN : N ≤ a.tmps.size) : ∀ o ∈ ops, Dst o a := by
  intro o ho k hk
  simp only [dstB] at h
  have := List.all_eq_true.mp h o (by simpa using ho)
  rw [hk] at this
  have hlt : k < N := by simpa [Nat.blt_eq] using this
  exact Nat.lt_of_lt_of_le hlt hN
/-- What is left, from a state on. -/
def Leaves (P : Program) (f : FuncId) (G : Gh) (w : World) (y : AV) (hp : Hp) (m : Machine) (cs : List Frame) : Prop :=
  ∃ v G' w' fr, Steps P m (lone fr cs w') ∧ fr.fn = f ∧ fr.leaving P w' (.returned v) ∧ Fr G w G' w' ∧ HpI G' w' hp ∧ ResR G' w' y v
theorem Leaves.of {P : Program} {f : FuncId} {G G1 : Gh} {w w1 : World} {y : AV} {hp : Hp} {m m1 : Machine} {cs : List Frame} (hs : Steps P m m1) (hf : Fr G w G1 w1) (h : Leaves P f G1 w1 y hp m1 cs) : Leaves P f G w y hp m cs := by
  obtain ⟨v, G', w', fr, h1, h2, h3, h4, h5, h6⟩ := h
  exact ⟨v, G', w', fr, hs.trans h1, h2, h3, hf.trans h4, h5, h6⟩
theorem go_ok (hc : Ok c) (hR : Sound c R) (hS : Bodies c R) {f : FuncId} {fn : Func} (hF : c.F f = some fn) {N : Nat} : ∀ (n : Nat) (its : List It) (st : St) (y : AV) (hp : Hp), goC c R f n its st = some (y, hp) → (∀ it ∈ its, ItOk N it) →
    ∀ (G : Gh) (w : World) (a : Act), Inv G w st a.tmps → N ≤ a.tmps.size → a.defers = [] → ∀ (b : Frame) (cs : List Frame), b.fn = f → b.kind = .normal → Leaves c.P f G w y hp (lone (b.at a (its.map toItem)) cs w) cs := by
  intro n
  induction n using Nat.strongRecOn with
  | _ n ih =>
  intro its st y hp hgo hits G w a hI hN hdef b cs hb hk
  cases n with
  | zero => simp [goC] at hgo
  | succ n =>
  have hP := hc.F f fn hF
  have ends : ∀ (todo : List Item), fin c f st = some (y, hp) → Steps c.P (lone (b.at a (its.map toItem)) cs w) (lone { b.at a todo with mode := .returning } cs w) → Leaves c.P f G w y hp (lone (b.at a (its.map toItem)) cs w) cs := by
    intro todo hfin hs
    obtain ⟨v, G', h1, h2, h3, h4⟩ := fin_ok hc hF hI hfin
    exact ⟨v, G', w, _, hs, hb, ⟨rfl, hdef, hk, fn, by rw [← hP]; exact congrArg _ hb, h1⟩, h2, h3, h4⟩
  have on : ∀ (its' : List It), goC c R f n its' st = some (y, hp) → (∀ it ∈ its', ItOk N it) → step c.P (lone (b.at a (its.map toItem)) cs w) = .next (lone (b.at a (its'.map toItem)) cs w) → Leaves c.P f G w y hp (lone (b.at a (its.map toItem)) cs w) cs := by
    intro its' hgo' hits' hs
    exact Leaves.of (.one hs) (Fr.refl G w) (ih n (Nat.lt_succ_self n) its' st y hp hgo' hits' G w a hI hN hdef b cs hb hk)
  simp only [goC] at hgo
  match its, hgo, hits, ends, on with
  | [], hgo, hits, ends, on => exact ends _ hgo (.one step_end)
  | .inBlock id :: k, hgo, hits, ends, on => exact on _ hgo (fun it hi => hits it (by simp [hi])) step_inBlock
  | .inLoop body :: k, hgo, hits, ends, on =>
    exact on (.code body :: .inLoop body :: k) hgo (fun it hi => by
      simp only [List.mem_cons] at hi
      rcases hi with rfl | rfl | hi
      · exact hits (.inLoop body) (by simp)
      · exact hits (.inLoop body) (by simp)
      · exact hits it (by simp [hi])) step_inLoop
  | .code .skip :: k, hgo, hits, ends, on => exact on _ hgo (fun it hi => hits it (by simp [hi])) step_skip
  | .code (.label l) :: k, hgo, hits, ends, on => exact on _ hgo (fun it hi => hits it (by simp [hi])) step_label
  | .code .ret :: k, hgo, hits, ends, on => exact ends _ hgo (.one step_ret)
  | .code (.seq x z) :: k, hgo, hits, ends, on =>
    have h := hits (.code (.seq x z)) (by simp)
    simp only [ItOk, dstB, Bool.and_eq_true] at h
    exact on (.code x :: .code z :: k) hgo (fun it hi => by
      simp only [List.mem_cons] at hi
      rcases hi with rfl | rfl | hi
      · exact h.1
      · exact h.2
      · exact hits it (by simp [hi])) step_seq
  | .code (.block id x) :: k, hgo, hits, ends, on =>
    exact on (.code x :: .inBlock id :: k) hgo (fun it hi => by
      simp only [List.mem_cons] at hi
      rcases hi with rfl | rfl | hi
      · exact hits (.code (.block id x)) (by simp)
      · trivial
      · exact hits it (by simp [hi])) step_block
  | .code (.loop x) :: k, hgo, hits, ends, on =>
    have hgo : goC c R f n (.inLoop x :: k) st = some (y, hp) := hgo
    cases n with
    | zero => simp [goC] at hgo
    | succ n =>
      simp only [goC, stepF] at hgo
      have hits' : ∀ it ∈ .code x :: .inLoop x :: k, ItOk N it := fun it hi => by
        simp only [List.mem_cons] at hi
        rcases hi with rfl | rfl | hi
        · exact hits (.code (.loop x)) (by simp)
        · exact hits (.code (.loop x)) (by simp)
        · exact hits it (by simp [hi])
      exact Leaves.of (.one step_loop) (Fr.refl G w) (ih n (by omega) _ st y hp hgo hits' G w a hI hN hdef b cs hb hk)
  | .code (.exit id) :: k, hgo, hits, ends, on =>
    simp only [stepF] at hgo
    obtain ⟨k', hk', hgo⟩ := Option.bind_eq_some_iff.mp hgo
    obtain ⟨h1, h2⟩ := popTo_exit (N := N) hk' (fun it hi => hits it (by simp [hi]))
    exact on _ hgo h2 (step_exit h1)
  | .code (.cond x p q) :: k, hgo, hits, ends, on =>
    simp only [stepF] at hgo
    obtain ⟨u, hu, hgo⟩ := Option.bind_eq_some_iff.mp hgo
    obtain ⟨t, ht, hgo⟩ := Option.bind_eq_some_iff.mp hgo
    have hx := (ev_sv hI (asSV_eq hu)).1
    rw [asB_some ht] at hx
    have h := hits (.code (.cond x p q)) (by simp)
    simp only [ItOk, dstB, Bool.and_eq_true] at h
    have hs := step_cond (P := c.P) (b := b) (k := k.map toItem) (cs := cs) (w := w) (x := p) (y := q) hx
    cases t with
    | true =>
      exact on (.code p :: k) hgo (fun it hi => by
        simp only [List.mem_cons] at hi
        rcases hi with rfl | hi
        · exact h.1
        · exact hits it (by simp [hi])) hs
    | false =>
      exact on (.code q :: k) hgo (fun it hi => by
        simp only [List.mem_cons] at hi
        rcases hi with rfl | hi
        · exact h.2
        · exact hits it (by simp [hi])) hs
  | .code (.region r ops d) :: k, hgo, hits, ends, on =>
    simp only [stepF] at hgo
    obtain ⟨n', st', accs, h1, h2, h3, h4⟩ := ops_v n _ d [] k _ _ hgo
    have hdst := dst_ok (hits (.code (.region r ops d)) (by simp)) hN
    have hwp := region_ok hc hR hS (d := d) (hI.mask (c.M f r)) hdst h2 (fun e => by simpa using h3 e)
    obtain ⟨e, a', w', ⟨he, G', i1, i2, i3, i4⟩, harr⟩ := hwp b (k.map toItem) cs
    subst he
    exact Leaves.of harr i2 (ih n' (by omega) k st' y hp h4 (fun it hi => hits it (by simp [hi])) G' w' a' i1 (by rw [i3]; exact hN) (by rw [i4]; exact hdef) b cs hb hk)
  | .ops r ops is d acc :: k, hgo, hits, ends, on => exact (show False from hits (.ops r ops is d acc) (by simp)).elim
  | .code (.rangeFunc _ _ _ _) :: k, hgo, hits, ends, on => simp [stepF] at hgo
  | .code (.scope _) :: k, hgo, hits, ends, on => simp [stepF] at hgo
  | .code (.goto _) :: k, hgo, hits, ends, on => simp [stepF] at hgo
  | .code (.refuse _) :: k, hgo, hits, ends, on => simp [stepF] at hgo

/-! ### the start -/
theorem init_ok (hc : Ok c) : ∀ (i : Nat) (ts : List TypeId) (xs : List AV) (l : Slots), initK c i ts xs some = some l →
    ∀ k, slot l k = .un ∨ ∃ x, xs[k - i]? = some x ∧ i ≤ k ∧ (slot l k = .av x ∨ ∃ v, x = .sc v ∧ slot l k = .sv v)
  | i, [], [], l, h, k => by simp only [initK] at h; cases h; exact .inl rfl
  | i, [], x :: xs, l, h, k => by
    simp only [initK] at h
    rw [initK_nat] at h
    obtain ⟨l', h1, h2⟩ := Option.bind_eq_some_iff.mp h
    cases h2
    rw [slot_put]
    by_cases e : i = k
    · subst e; rw [if_pos rfl]; exact .inr ⟨x, by simp, Nat.le_refl _, .inl rfl⟩
    · rw [if_neg e]
      rcases init_ok hc (i + 1) [] xs l' h1 k with h | ⟨x', h, h', h''⟩
      · exact .inl h
      · refine .inr ⟨x', ?_, by omega, h''⟩
        rw [show k - i = (k - (i + 1)) + 1 by omega]; simpa using h
  | i, t :: ts, [], l, h, k => by simp [initK] at h
  | i, t :: ts, x :: xs, l, h, k => by
    simp only [initK] at h
    have rest : ∀ (l' : Slots) (s : SV), initK c (i + 1) ts xs some = some l' → (s = .av x ∨ ∃ v, x = .sc v ∧ s = .sv v) → l = (i, s) :: l' →
        slot l k = .un ∨ ∃ x', (x :: xs)[k - i]? = some x' ∧ i ≤ k ∧ (slot l k = .av x' ∨ ∃ v, x' = .sc v ∧ slot l k = .sv v) := by
      rintro l' s h1 hs rfl
      rw [slot_put]
      by_cases e : i = k
      · subst e; rw [if_pos rfl]; exact .inr ⟨x, by simp, Nat.le_refl _, hs⟩
      · rw [if_neg e]
        rcases init_ok hc (i + 1) ts xs l' h1 k with h | ⟨x', h, h', h''⟩
        · exact .inl h
        · refine .inr ⟨x', ?_, by omega, h''⟩
          rw [show k - i = (k - (i + 1)) + 1 by omega]; simpa using h
    split at h
    · split at h
      · obtain ⟨v, hv, h⟩ := Option.bind_eq_some_iff.mp h
        rw [initK_nat] at h
        obtain ⟨l', h1, h2⟩ := Option.bind_eq_some_iff.mp h
        cases h2
        exact rest l' _ h1 (.inr ⟨v, asSc_some hv, rfl⟩) rfl
      · rw [initK_nat] at h
        obtain ⟨l', h1, h2⟩ := Option.bind_eq_some_iff.mp h
        cases h2
        exact rest l' _ h1 (.inl rfl) rfl
    · cases h
/-- What a context's functions must be. -/
def DstOk (c : Cx) : Prop := ∀ f fn b, c.F f = some fn → fn.body = some b → dstB fn.ntmps b = true
theorem start_ok (hc : Ok c) (hD : DstOk c) (hR : Sound c R) (hS : Bodies c R) {f : FuncId} {xs : List AV} {hp hp' : Hp} {y : AV} {n : Nat} (hr : startK c f xs hp (goC c R f n) = some (y, hp')) (G : Gh) (w : World) (vs : List Value) (hH : HpI G w hp) (hlen : xs.length = vs.length)
    (hargs : ∀ (i : Nat) (x : AV) (v : Value), xs[i]? = some x → vs[i]? = some v → ArgR G w x v) : Calls c.P f vs.toArray w (Gives G w y hp') := by
  unfold startK at hr
  cases hF : c.F f with
  | none => rw [hF] at hr; cases hr
  | some fn =>
    rw [hF] at hr
    simp only at hr
    cases hb : fn.body with
    | none => rw [hb] at hr; cases hr
    | some body =>
      rw [hb] at hr
      simp only at hr
      rw [initK_nat] at hr
      obtain ⟨l, hl, hr⟩ := Option.bind_eq_some_iff.mp hr
      let a : Act := { tmps := vs.toArray ++ Array.replicate (fn.ntmps - vs.toArray.size) undef, defers := [] }
      have hget : ∀ k v, vs[k]? = some v → a.tmps.getD k undef = v := by
        intro k v hk
        have hlt : k < vs.length := (List.getElem?_eq_some_iff.mp hk).1
        simp only [a, Array.getD_eq_getD_getElem?]
        rw [Array.getElem?_append_left (by simpa using hlt), List.getElem?_toArray, hk]; rfl
      have hI : Inv G w ⟨l, [], hp⟩ a.tmps := {
        slots := fun k => by
          show RelS G w k (slot l k) _
          rcases init_ok hc 0 _ _ _ hl k with h | ⟨x, h1, h2, h3⟩
          · rw [h]; trivial
          · rw [Nat.sub_zero] at h1
            obtain ⟨v, hv⟩ := get_of_len hlen h1
            have hrel := hargs k x v h1 hv
            rw [hget k v hv]
            rcases h3 with h3 | ⟨u, rfl, h3⟩
            · rw [h3]; exact hrel _
            · rw [h3]
              have hr' : RelR G w (.sc u) v := hrel (fun _ => .fr)
              cases hr' with
              | sc _ h1 => exact ⟨rfl, h1⟩
        boxes := fun k g cs h => by simp [getB] at h
        heap := hH.heap
        next := hH.next
        hlt := hH.hlt
        new := hH.new
        vars := hH.vars
        lps := fun j k g off h => by
          have h' : slot l j = .lp k g off := h
          rcases init_ok hc 0 _ _ _ hl j with e | ⟨x, h1, h2, e | ⟨v, _, e⟩⟩ <;> rw [e] at h' <;> cases h' }
      intro cs
      let b : Frame := { (default : Frame) with fn := f, kind := .normal }
      have hP := hc.F f fn hF
      have henter : Frame.enter c.P f vs.toArray .normal = b.at a [.code body] := by
        simp [Frame.enter, Frame.at, hP, hb, b, a]
      have := go_ok hc hR hS hF (N := fn.ntmps) n [.code body] ⟨l, [], hp⟩ y hp' hr (fun it hi => by
        simp only [List.mem_singleton] at hi
        subst hi
        exact hD f fn body hF hb) G w a hI (by simp [a]; omega) rfl b cs rfl rfl
      obtain ⟨v, G', w', fr, h1, h2, h3, h4, h5, h6⟩ := this
      refine ⟨.returned v, w', fr, ⟨v, G', rfl, h4, h5, h6⟩, ?_, h2, h3⟩
      rw [henter]
      exact h1
theorem runN_body : ∀ n, Bodies c (runN c n)
  | 0, f, xs, hp, r, h => by simp [runN] at h
  | n + 1, f, xs, hp, r, h => by
    simp only [runN, startK] at h
    cases hF : c.F f with
    | none => rw [hF] at h; cases h
    | some fn =>
      rw [hF] at h
      simp only at h
      cases hb : fn.body with
      | none => rw [hb] at h; cases h
      | some b => exact ⟨fn, b, rfl, hb⟩
theorem runN_sound (hc : Ok c) (hD : DstOk c) : ∀ n, Sound c (runN c n)
  | 0 => fun f xs hp y hp' h => by simp [runN] at h
  | n + 1 => fun f xs hp y hp' h G w vs hH hl ha => start_ok hc hD (runN_sound hc hD n) (runN_body n) h G w vs hH hl ha
/-- WHAT THE ABSTRACT MACHINE ANSWERS, THE PROGRAM ANSWERS. -/
theorem run_sound (hc : Ok c) (hD : DstOk c) {f : FuncId} {xs : List AV} {hp hp' : Hp} {y : AV} (h : run c f xs hp = some (y, hp')) {G : Gh} {w : World} {vs : List Value} (hH : HpI G w hp) (hl : xs.length = vs.length)
    (ha : ∀ (i : Nat) (x : AV) (v : Value), xs[i]? = some x → vs[i]? = some v → ArgR G w x v) : Calls c.P f vs.toArray w (Gives G w y hp') := by
  obtain ⟨n, hn⟩ := run_some.mp h
  exact runN_sound hc hD n f xs hp y hp' hn G w vs hH hl ha
end
end Go.Proofs.Ytmnefpfbgadnkaa.AI
