/- Operations that compute: one lemma a kind. -/
import Derived.Test.YtmnefpfbgadnkaaOpA
import Derived.Lib.SliceRun
namespace Go.Proofs.Ytmnefpfbgadnkaa.AI
open Go
set_option linter.unusedVariables false
set_option linter.unusedSimpArgs false

theorem pureOf_run {α : Type} {P : Program} : ∀ {s : Sem α} {x : α}, pureOf P s = some x → ∀ w, s.run P w = .ok x w := by
  intro s
  induction s with
  | pure a => intro x h w; simp only [pureOf] at h; cases h; rfl
  | program k ih => intro x h w; simp only [pureOf] at h; simp only [Sem.run]; exact ih P h w
  | mark m k ih => intro x h w; simp only [pureOf] at h; simp only [Sem.run]; exact ih h w
  | load _ _ _ _ => intro x h; cases h
  | store _ _ _ _ _ => intro x h; cases h
  | new _ _ _ => intro x h; cases h
  | shape _ _ _ => intro x h; cases h
  | freeze _ _ _ _ => intro x h; cases h
  | frozen _ _ _ => intro x h; cases h
  | getObj _ _ _ => intro x h; cases h
  | setObj _ _ _ _ => intro x h; cases h
  | choose _ _ _ => intro x h; cases h
  | sys _ _ _ => intro x h; cases h
  | halt _ => intro x h; cases h
theorem one_some {o : Option Value} {z : Value} (h : one o = some z) : o = some z ∧ z.oneCell' = true := by
  unfold one at h
  obtain ⟨y, hy, h⟩ := Option.bind_eq_some_iff.mp h
  split at h
  · cases h; exact ⟨hy, by assumption⟩
  · cases h
theorem asB_some {v : Value} {b : Bool} (h : asB v = some b) : v = .bool b := by
  cases v <;> simp [asB] at h
  rw [h]
theorem asI_some {v : Value} {n : Int} (h : asI v = some n) : ∃ k, v = .int k n := by
  cases v <;> simp [asI] at h
  exact ⟨_, by rw [h]⟩
theorem asStr_some {v : Value} {s : ByteArray} (h : asStr v = some s) : v = .string s := by
  cases v <;> simp [asStr] at h
  rw [h]
theorem isNil_eq {v : Value} (h : isNil v = true) : v = .slice none 0 0 := by
  unfold isNil at h
  split at h
  · rfl
  · cases h
theorem asSc_some {x : AV} {v : Value} (h : asSc x = some v) : x = .sc v := by
  cases x <;> simp [asSc] at h
  rw [h]
theorem getSc_some {cs : List AV} {i : Nat} {v : Value} (h : getSc cs i = some v) : cs[i]? = some (.sc v) := by
  unfold getSc at h
  obtain ⟨x, hx, h⟩ := Option.bind_eq_some_iff.mp h
  rw [hx, asSc_some h]

section
variable {c : Cx} {G : Gh} {w : World} {st : St} {a : Act} {o : Oper} {Q : Exit → Act → World → Prop}
abbrev Dst (o : Oper) (a : Act) : Prop := ∀ k, o.dst = some k → k < a.tmps.size

/-- A scalar result. -/
theorem wp_sv (hI : Inv G w st a.tmps) (h : Nat) (ho : dnOp h o st.sl = dnAll (downs h o) st.sl) (hd : Dst o a) {z : Value} (h1 : z.oneCell' = true)
    (hr : (execOp a.eval o).run c.P w = .ok (.value z) w) : o.wp c.P a w (Aft G w a (after h o st (.sv z) none st.hp)) Q :=
  wp_value hr (aft_value hI h ho hd (fun _ => ⟨rfl, h1⟩) (fun _ _ _ e => by cases e))

theorem op_move (hI : Inv G w st a.tmps) (hd : Dst o a) (h : Nat) {x : Operand} {k : TK} (hop : o.op = .move x) :
    o.wp c.P a w (Aft G w a (after h o st (if h = 1 then nrm k (evS st.sl x) else nrm k (evS st.sl x).ro) none st.hp)) Q := by
  have hr : (execOp a.eval o).run c.P w = .ok (.value (a.eval x)) w := by simp only [execOp, hop]; rfl
  refine wp_value hr ?_
  split
  · rename_i h1
    exact aft_hand hI x k h (by simp [dnOp, downs, hop, h1]) hd
  · rename_i h1
    refine aft_value hI h (by simp [dnOp, hop]) hd (fun j => nrm_rel (RelS.ro (Ev.refl G w) j (fun _ _ _ _ _ h => h) (evR hI x))) (fun j g off e => lp_ok hI (ro_lp.mp (nrm_lp.mp e)))
theorem op_assign (hI : Inv G w st a.tmps) (hd : Dst o a) (h : Nat) {x : Operand} {k : TK} (hop : o.op = .assign x) :
    o.wp c.P a w (Aft G w a (after h o st (nrm k (evS st.sl x)) none st.hp)) Q := by
  have hr : (execOp a.eval o).run c.P w = .ok (.value (a.eval x)) w := by simp only [execOp, hop]; rfl
  exact wp_value hr (aft_hand hI x k h (by simp [dnOp, downs, hop]) hd)
theorem op_pick (hI : Inv G w st a.tmps) (hd : Dst o a) (h : Nat) {x y z : Operand} (hop : o.op = .pick x y z) {r : SV × BE × Hp}
    (hr : (pickK (evS st.sl x) (evS st.sl y) (evS st.sl z) fun s => some (s, none, st.hp)) = some r) :
    o.wp c.P a w (Aft G w a (after h o st r.1 r.2.1 r.2.2)) Q := by
  unfold pickK at hr
  obtain ⟨v, hv, hr⟩ := Option.bind_eq_some_iff.mp hr
  obtain ⟨t, ht, hr⟩ := Option.bind_eq_some_iff.mp hr
  obtain ⟨hx, _⟩ := ev_sv hI (asSV_eq hv)
  rw [asB_some ht] at hx
  have hrun : (execOp a.eval o).run c.P w = .ok (.value (if t then a.eval y else a.eval z)) w := by
    simp only [execOp, hop, hx, asBool]; cases t <;> rfl
  refine wp_value hrun ?_
  split at hr
  · rename_i u u' hy hz
    cases hr
    obtain ⟨e1, o1⟩ := ev_sv hI hy
    obtain ⟨e2, o2⟩ := ev_sv hI hz
    refine aft_value hI h (by simp [dnOp, hop]) hd (fun _ => ?_) (fun _ _ _ e => by cases e)
    rw [e1, e2]
    cases t
    · exact ⟨rfl, o2⟩
    · exact ⟨rfl, o1⟩
  · cases t
    · cases hr
      exact aft_value hI h (by simp [dnOp, hop]) hd (fun j => RelS.ro (Ev.refl G w) j (fun _ _ _ _ _ h => h) (evR hI z)) (fun j g off e => lp_ok hI (ro_lp.mp e))
    · cases hr
      exact aft_value hI h (by simp [dnOp, hop]) hd (fun j => RelS.ro (Ev.refl G w) j (fun _ _ _ _ _ h => h) (evR hI y)) (fun j g off e => lp_ok hI (ro_lp.mp e))

theorem allSc_rel : ∀ {cs : List AV} {vs l : List Value} {p : Nat → Ow}, cs.length = vs.length → (∀ (i : Nat) (x : AV) (c : Value), cs[i]? = some x → vs[i]? = some c → RelC G w (p i) x c) →
    allSc cs = some l → vs = l
  | [], vs, l, p, hl, h, h' => by
    simp only [allSc] at h'; cases h'
    exact List.length_eq_zero_iff.mp hl.symm
  | x :: r, [], l, p, hl, h, h' => by simp at hl
  | x :: r, v :: vs, l, p, hl, h, h' => by
    have hx := h 0 x v rfl rfl
    cases x with
    | sc u =>
      cases hx
      simp only [allSc] at h'
      cases hr : allSc r with
      | none => rw [hr] at h'; cases h'
      | some l' =>
        rw [hr] at h'; cases h'
        have := allSc_rel (p := fun i => p (i + 1)) (by simpa using hl) (fun i x c hx hc => h (i + 1) x c (by simpa using hx) (by simpa using hc)) hr
        rw [this]
    | _ => simp [allSc] at h'
theorem concA_rel {p : Nat → Ow} {x : AV} {v u : Value} (h : RelV G w p x v) (hc : concA x = some u) : v = u := by
  cases x with
  | sc z =>
    simp only [concA] at hc; cases hc
    cases h; rfl
  | agg cs =>
    obtain ⟨vs, rfl, h2, h3⟩ := h
    simp only [concA] at hc
    cases hl : allSc cs with
    | none => rw [hl] at hc; cases hc
    | some l => rw [hl] at hc; cases hc; rw [allSc_rel h2 h3 hl]
  | _ => simp [concA] at hc
theorem concS_rel (hI : Inv G w st a.tmps) {x : Operand} {u : Value} (hc : concS (evS st.sl x) = some u) : a.eval x = u := by
  have h := evR hI x
  cases hs : evS st.sl x with
  | sv v => rw [hs] at h hc; simp only [concS] at hc; cases hc; exact h.1
  | av y => rw [hs] at h hc; exact concA_rel h hc
  | _ => rw [hs] at hc; simp [concS] at hc
theorem run_bin {op : BinOp} {t : TypeId} {x y : Operand} {u v z : Value} (hz : binV c.P op t x y u v = some z) (w : World) :
    (do eqGuard op t x y u v; Go.binOp op t u v : Sem Value).run c.P w = .ok z w ∧ z.oneCell' = true :=
  ⟨pureOf_run (one_some hz).1 w, (one_some hz).2⟩
theorem nilA_rel {p : Nat → Ow} {x : AV} {v : Value} {n : Bool} (h : RelV G w p x v) (hn : nilA x = some n) :
    (∃ A N C, v = .slice (some A) N C ∧ n = false) ∨ (∃ N C, v = .slice none N C ∧ n = true) := by
  cases x with
  | sl s cs => cases hn; cases h <;> exact .inl ⟨_, _, _, rfl, rfl⟩
  | us s cs => cases hn; obtain ⟨b, _, ht⟩ := h; obtain ⟨n, cap, arr, e, h1, _⟩ := ht.ex; exact .inl ⟨_, _, _, h1, rfl⟩
  | ms b g off l => cases hn; cases h; exact .inl ⟨_, _, _, rfl, rfl⟩
  | sc u =>
    cases h
    cases v <;> simp [nilA] at hn
    rename_i A N C _
    cases A
    · exact .inr ⟨_, _, rfl, (Option.some.inj hn).symm⟩
    · cases hn
  | _ => simp [nilA] at hn
theorem run_eql_nil {P : Program} {t e : TypeId} (h : P.underlying t = some (.slice e)) (x y : Operand) (A : Option Addr) (N C : Nat) (w : World) :
    (do eqGuard .eql t x y (.slice A N C) nil0; Go.binOp .eql t (.slice A N C) nil0 : Sem Value).run P w = .ok (.bool A.isNone) w := by
  have h1 : eqGuard .eql t x y (.slice A N C) nil0 = pure () := rfl
  rw [h1, pure_bind]
  simp only [Go.binOp, nil0]
  simp [Op.equal, Op.maxDepth, Lib.run_equalIn_slice_nil w 9999 t e A N C 0 0 h]
theorem run_neq_nil {P : Program} {t e : TypeId} (h : P.underlying t = some (.slice e)) (x y : Operand) (A : Option Addr) (N C : Nat) (w : World) :
    (do eqGuard .neq t x y (.slice A N C) nil0; Go.binOp .neq t (.slice A N C) nil0 : Sem Value).run P w = .ok (.bool (!A.isNone)) w := by
  have h1 : eqGuard .neq t x y (.slice A N C) nil0 = pure () := rfl
  rw [h1, pure_bind]
  simp only [Go.binOp, nil0]
  simp [Op.equal, Op.maxDepth, Lib.run_equalIn_slice_nil w 9999 t e A N C 0 0 h]
theorem op_bin (hc : Ok c) (hI : Inv G w st a.tmps) (hd : Dst o a) (h : Nat) {op : BinOp} {t yt : TypeId} {x y : Operand} (hop : o.op = .binOp op t x y yt) {r : SV × BE × Hp}
    (hr : (binK c op t x y (evS st.sl x) (evS st.sl y) fun s => some (s, none, st.hp)) = some r) : o.wp c.P a w (Aft G w a (after h o st r.1 r.2.1 r.2.2)) Q := by
  have key : ∀ u v z, a.eval x = u → a.eval y = v → binV c.P op t x y u v = some z → o.wp c.P a w (Aft G w a (after h o st (.sv z) none st.hp)) Q := by
    intro u v z hu hv hz
    obtain ⟨h1, h2⟩ := run_bin hz w
    refine wp_sv hI h (by simp [dnOp, hop]) hd h2 ?_
    simp only [execOp, hop, hu, hv]
    rw [Sem.run_bind, h1]; rfl
  have hxr := evR hI x
  have hyr := evR hI y
  unfold binK at hr
  split at hr
  · rename_i u v hx hy
    obtain ⟨z, hz, hr⟩ := Option.bind_eq_some_iff.mp hr
    cases hr
    exact key u v z (ev_sv hI hx).1 (ev_sv hI hy).1 hz
  · rename_i u v hx hy
    have hyv := (ev_sv hI hy).1
    rw [hx] at hxr
    split at hr
    · rename_i hn
      have hv := isNil_eq hn
      subst hv
      split at hr
      · rename_i ti hti
        split at hr
        · rename_i e he
          obtain ⟨n, hn', hr⟩ := Option.bind_eq_some_iff.mp hr
          obtain ⟨d, hd1, hd2⟩ := (hc.tt t ti (tn_some hti).1).und
          rw [he] at hd2
          have hd2 : d = .slice e := hd2
          subst hd2
          have hform : ∃ A N C, a.eval x = .slice A N C ∧ n = A.isNone := by
            rcases nilA_rel hxr hn' with ⟨A, N, C, h1, rfl⟩ | ⟨N, C, h1, rfl⟩
            · exact ⟨_, _, _, h1, rfl⟩
            · exact ⟨_, _, _, h1, rfl⟩
          obtain ⟨A, N, C, hA, rfl⟩ := hform
          cases op <;> simp only at hr <;> cases hr
          · refine wp_sv hI h (by simp [dnOp, hop]) hd rfl ?_
            simp only [execOp, hop, hA, hyv]
            rw [Sem.run_bind]
            have := run_eql_nil hd1 x y A N C w
            unfold nil0 at this
            rw [this]; rfl
          · refine wp_sv hI h (by simp [dnOp, hop]) hd rfl ?_
            simp only [execOp, hop, hA, hyv]
            rw [Sem.run_bind]
            have := run_neq_nil hd1 x y A N C w
            unfold nil0 at this
            rw [this]; rfl
        · cases hr
      · cases hr
    · obtain ⟨v', hv', hr⟩ := Option.bind_eq_some_iff.mp hr
      obtain ⟨z, hz, hr⟩ := Option.bind_eq_some_iff.mp hr
      cases hr
      exact key v' v z (concA_rel hxr hv') hyv hz
  · rename_i u v hx hy
    rw [hx] at hxr
    rw [hy] at hyr
    obtain ⟨v', hv', hr⟩ := Option.bind_eq_some_iff.mp hr
    obtain ⟨w', hw', hr⟩ := Option.bind_eq_some_iff.mp hr
    obtain ⟨z, hz, hr⟩ := Option.bind_eq_some_iff.mp hr
    cases hr
    exact key v' w' z (concA_rel hxr hv') (concA_rel hyr hw') hz
  · cases hr
theorem op_un (hI : Inv G w st a.tmps) (hd : Dst o a) (h : Nat) {op : UnOp} {t : TypeId} {x : Operand} (hop : o.op = .unOp op t x) {r : SV × BE × Hp}
    (hr : ((asSV (evS st.sl x)).bind fun v => (unV c.P op v).bind fun z => some (SV.sv z, (none : BE), st.hp)) = some r) : o.wp c.P a w (Aft G w a (after h o st r.1 r.2.1 r.2.2)) Q := by
  obtain ⟨v, hv, hr⟩ := Option.bind_eq_some_iff.mp hr
  obtain ⟨z, hz, hr⟩ := Option.bind_eq_some_iff.mp hr
  cases hr
  obtain ⟨hx, _⟩ := ev_sv hI (asSV_eq hv)
  refine wp_sv hI h (by simp [dnOp, hop]) hd (one_some hz).2 ?_
  simp only [execOp, hop, hx]
  rw [Sem.run_bind, pureOf_run (one_some hz).1 w]; rfl
theorem op_index (hI : Inv G w st a.tmps) (hd : Dst o a) (h : Nat) {t : TypeId} {x i : Operand} (hop : o.op = .index t x i) {r : SV × BE × Hp}
    (hr : ((concS (evS st.sl x)).bind fun u => (asSV (evS st.sl i)).bind fun iv => (ixV c.P t u iv).bind fun z => some (SV.sv z, (none : BE), st.hp)) = some r) :
    o.wp c.P a w (Aft G w a (after h o st r.1 r.2.1 r.2.2)) Q := by
  obtain ⟨u, hu, hr⟩ := Option.bind_eq_some_iff.mp hr
  obtain ⟨v, hv, hr⟩ := Option.bind_eq_some_iff.mp hr
  obtain ⟨z, hz, hr⟩ := Option.bind_eq_some_iff.mp hr
  cases hr
  obtain ⟨hi, _⟩ := ev_sv hI (asSV_eq hv)
  refine wp_sv hI h (by simp [dnOp, hop]) hd (one_some hz).2 ?_
  simp only [execOp, hop, hi, concS_rel hI hu]
  rw [Sem.run_bind, pureOf_run (one_some hz).1 w]; rfl
theorem op_nilCheck (hI : Inv G w st a.tmps) (hd : Dst o a) (h : Nat) {x : Operand} (hop : o.op = .nilCheck x) {r : SV × BE × Hp}
    (hr : (match evS st.sl x with
      | .lp k g off => some (SV.lp k g off, (none : BE), st.hp)
      | .av y => (nnA y).bind fun _ => some (SV.av y, none, st.hp)
      | _ => none) = some r) : o.wp c.P a w (Aft G w a (after h o st r.1 r.2.1 r.2.2)) Q := by
  have hxr := evR hI x
  split at hr
  · rename_i k g off hx
    cases hr
    rw [hx] at hxr
    obtain ⟨blk, h1, h2⟩ := hxr
    refine wp_value (v := a.eval x) (w' := w) (by simp only [execOp, hop, h2]; rfl) ?_
    exact aft_value hI h (by simp [dnOp, hop]) hd (fun _ => ⟨blk, h1, h2⟩) (fun k' g' off' e => by cases e; exact lp_ok hI hx)
  · rename_i y hx
    rw [hx] at hxr
    obtain ⟨u, hu, hr⟩ := Option.bind_eq_some_iff.mp hr
    cases hr
    have hrun : (execOp a.eval o).run c.P w = .ok (.value (a.eval x)) w := by
      have hxr' : RelC G w (.sl (num x) 0 0) y (a.eval x) := by
        rw [← relV_c (p := fun i => .sl (num x) 0 i)]
        · exact hxr
        · rintro cs rfl; simp [nnA] at hu
      simp only [execOp, hop]
      cases y with
      | ptr b g off =>
        generalize a.eval x = v at hxr' ⊢
        cases hxr'; rfl
      | fn f caps =>
        generalize a.eval x = v at hxr' ⊢
        cases hxr'; rfl
      | _ => simp [nnA] at hu
    refine wp_value hrun (aft_value hI h (by simp [dnOp, downs, hop, dnAll]) hd (fun j => ?_) (fun _ _ _ e => by cases e))
    cases y with
    | ptr b g off => exact hxr
    | fn f caps => exact hxr
    | _ => simp [nnA] at hu
  · cases hr
end
end Go.Proofs.Ytmnefpfbgadnkaa.AI
