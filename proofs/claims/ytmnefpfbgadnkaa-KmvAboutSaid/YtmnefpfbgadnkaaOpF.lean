/- Parts of tuples, function values, what is converted, lengths; loads that copy. -/
import Derived.Test.YtmnefpfbgadnkaaOpE
namespace Go.Proofs.Ytmnefpfbgadnkaa.AI
open Go
set_option linter.unusedVariables false
set_option linter.unusedSimpArgs false

section
variable {c : Cx} {G : Gh} {w : World} {st : St} {a : Act} {o : Oper} {Q : Exit → Act → World → Prop}

/-! ### lengths -/
theorem lenA_rel {p : Nat → Ow} {x : AV} {v : Value} {n : Nat} (h : RelV G w p x v) (hn : lenA x = some n) : ∃ A cap, v = .slice A n cap := by
  cases x with
  | sl s cs =>
    simp only [lenA] at hn; cases hn
    obtain ⟨A, m, cap, rfl, h2, h3, _⟩ := sl_form (relV_sl h)
    rw [many_eq h2 h3]
    exact ⟨_, _, rfl⟩
  | us s cs =>
    simp only [lenA] at hn; cases hn
    obtain ⟨A, m, cap, rfl, h2, h3, _⟩ := sl_form (relV_us h)
    rw [many_eq h2 h3]
    exact ⟨_, _, rfl⟩
  | ms b g off m =>
    simp only [lenA] at hn; cases hn
    obtain ⟨blk, cap, off', _, _, _, rfl⟩ := relM h
    exact ⟨_, _, rfl⟩
  | sc u =>
    simp only [lenA] at hn
    split at hn
    · rename_i hz
      cases hn
      have := isNil_eq hz
      subst this
      cases h
      exact ⟨_, _, rfl⟩
    · cases hn
  | _ => simp [lenA] at hn
theorem toVs_eval (hI : Inv G w st a.tmps) : ∀ {xs : List Operand} {vs : List Value}, toVs (xs.map (evS st.sl)) = some vs → xs.map a.eval = vs
  | [], vs, h => by simp only [List.map_nil, toVs] at h; cases h; rfl
  | x :: xs, vs, h => by
    simp only [List.map_cons, toVs] at h
    obtain ⟨v, hv, h⟩ := Option.bind_eq_some_iff.mp h
    obtain ⟨l, hl, h⟩ := Option.bind_eq_some_iff.mp h
    cases h
    simp [(ev_sv hI (asSV_eq hv)).1, toVs_eval hI hl]
theorem run_builtin {P : Program} {cl : Call} {b : Builtin} (hcl : cl.callee = .builtin b) (hop : o.op = .call cl) {s : Sem Next} (hs : Go.builtin b cl.argTypes o.type (cl.args.map fun | .const _ => true | _ => false) (cl.args.map a.eval) = s) (w : World) :
    (execOp a.eval o).run P w = s.run P w := by
  simp only [execOp, hop, resolve, hcl]
  rw [← hs]
  simp [invoke]
  rfl
theorem run_len_slice {P : Program} {t e : TypeId} (ht : P.underlying t = some (.slice e)) (A : Option Addr) (n cap : Nat) (ts : Array TypeId) (hts : ts[0]? = some t) (ty : TypeId) (w : World) :
    (Builtin.len_ ts ty #[.slice A n cap]).run P w = .ok (.int .i64 n) w := by
  simp [Builtin.len_, hts, run_underlying ht, goInt]

/-! ### loads -/
theorem RelR.s {x : AV} {v : Value} (h : RelR G w x v) (k : Nat) : RelS G w k (.av x) v := (h.c (.sl k 0 0)).v
/-- A load that copies, from cells that are known. -/
theorem load_copy {P : Program} {t : TypeId} {ti : TI} (ht : TOk P t ti) (hk : isTu ti.k = false) {cs : List AV} {vs : List Value} {A : Addr} {off : Nat}
    (hlen : cs.length = vs.length) (hcell : ∀ (k : Nat) (u : Value), vs[k]? = some u → w.cell? (A.add k) = some u) (hrel : ∀ (k : Nat) (x : AV) (u : Value), cs[k]? = some x → vs[k]? = some u → RelR G w (ro1 x) u)
    {r : SV × List AV} (hr : (loadK ti 0 cs off fun s l => some (s, l)) = some r) :
    r.2 = cs ∧ ∃ v, (Instr.loadAt t (.pointer (some (A.add off)))).run P w = .ok v w ∧ (∀ k, RelS G w k r.1 v) ∧ ∀ k g off, r.1 ≠ .lp k g off := by
  have hadd : ∀ j, (A.add off).add j = A.add (off + j) := by
    intro j
    unfold Addr.add
    by_cases h1 : off = 0 <;> by_cases h2 : j = 0 <;> simp [h1, h2, Nat.add_assoc]
  have hz := ht.sizeOf hk w
  have ha := ht.isAgg hk w
  unfold loadK at hr
  split at hr
  · rename_i hsc
    obtain ⟨v, hv, hr⟩ := Option.bind_eq_some_iff.mp hr
    cases hr
    have hx := getSc_some hv
    obtain ⟨u, hu⟩ := get_of_len hlen hx
    have hru := hrel _ _ _ hx hu
    have hag : isAg ti.k = false := by cases hkk : ti.k <;> rw [hkk] at hsc <;> first | rfl | cases hsc
    refine ⟨rfl, u, ?_, fun k => ?_, fun _ _ _ e => by cases e⟩
    · simp [Instr.loadAt, Instr.sureAddr, loadVar, ha, hag, hcell _ _ hu]
    · cases hru with
      | sc _ h1 => exact ⟨rfl, h1⟩
  · split at hr
    · rename_i hsc hag
      obtain ⟨l, hl, hr⟩ := Option.bind_eq_some_iff.mp hr
      simp only [show ¬ (0 = 1) by decide, if_false] at hr
      cases hr
      obtain ⟨hle, rfl⟩ := getN_some hl
      refine ⟨rfl, .agg ((vs.drop off).take ti.size).toArray, ?_, fun k => ⟨(vs.drop off).take ti.size, rfl, by simp [hlen], fun i x u hx hu => ?_⟩, fun _ _ _ e => by cases e⟩
      · have hload := run_loadCells_list (P := P) (w := w) (A.add off) ((vs.drop off).take ti.size) (fun j v hj => by
          rw [hadd]
          rw [List.getElem?_take] at hj
          split at hj
          · exact hcell (off + j) v (by rw [← hj]; simp)
          · cases hj)
        have hll : ((vs.drop off).take ti.size).length = ti.size := by simp; omega
        rw [hll] at hload
        simp [Instr.loadAt, Instr.sureAddr, loadVar, ha, hag, hz, hload]
      · obtain ⟨y, hy, rfl⟩ := list_map_get _ _ _ _ hx
        rw [List.getElem?_take] at hy hu
        split at hy
        · rename_i hq
          simp only [hq, if_true] at hu
          exact (hrel (off + i) y u (by rw [← hy]; simp) (by rw [← hu]; simp)).c _
        · cases hy
    · rename_i hsc hag
      obtain ⟨x, hx, hr⟩ := Option.bind_eq_some_iff.mp hr
      simp only [show ¬ (0 = 1) by decide, if_false] at hr
      cases hr
      have hx : cs[off]? = some x := hx
      obtain ⟨u, hu⟩ := get_of_len hlen hx
      have hag' : isAg ti.k = false := by simpa using hag
      refine ⟨rfl, u, ?_, fun k => (hrel _ _ _ hx hu).s k, fun _ _ _ e => by cases e⟩
      simp [Instr.loadAt, Instr.sureAddr, loadVar, ha, hag', hcell _ _ hu]
/-- The cells of a box, an object, as a list. -/
theorem cellsR_list {blk : Nat} {p : Nat → Ow} {cs : List AV} (h : CellsR G w blk p cs) :
    ∃ vs : List Value, cs.length = vs.length ∧ (∀ (off k : Nat) (u : Value), vs[off + k]? = some u → w.cell? ((⟨blk, off, none⟩ : Addr).add k) = some u) ∧
      ∀ (k : Nat) (x : AV) (u : Value), cs[k]? = some x → vs[k]? = some u → RelC G w (p k) x u := by
  obtain ⟨arr, e, h1, h2, h3⟩ := h
  refine ⟨arr.toList, by simp [h2], fun off k u hu => ?_, fun k x u hx hu => h3 k x u hx (by simpa using hu)⟩
  rw [addr_add, cell_of_heap h1]
  simpa using hu
theorem op_load0 (hc : Ok c) (hI : Inv G w st a.tmps) (hd : Dst o a) (h : Nat) (h1 : h ≠ 1) {t : TypeId} {ti : TI} (hti : c.tn t = some ti) {x : Operand} (hop : o.op = .load t x) {r : SV × BE × Hp}
    (hr : loadOpK h ti (evS st.sl x) (getB st.bx) st.hp k3 = some r) : o.wp c.P a w (Aft G w a (after h o st r.1 r.2.1 r.2.2)) Q := by
  have hdo : dnOp h o st.sl = dnAll (downs h o) st.sl := by simp [dnOp, hop]
  have ht := hc.tt t ti (tn_some hti).1
  have hk := (tn_some hti).2
  have hl0 : ∀ {R : Type} (cs : List AV) (off : Nat) (K : SV → List AV → Option R), loadK ti h cs off K = loadK ti 0 cs off K := by
    intro R cs off K
    unfold loadK
    simp [h1]
  have hxr := evR hI x
  have fin : ∀ (s : SV) (v : Value), (∃ A : Addr, a.eval x = .pointer (some A) ∧ (Instr.loadAt t (.pointer (some A))).run c.P w = .ok v w) → (∀ k, RelS G w k s v) → (∀ k g off, s ≠ .lp k g off) →
      o.wp c.P a w (Aft G w a (after h o st s none st.hp)) Q := by
    rintro s v ⟨A, hA, hrun⟩ hs hl
    refine wp_value (v := v) (w' := w) ?_ (aft_value hI h hdo hd hs (fun k g off e => absurd e (hl k g off)))
    simp only [execOp, hop, hA]
    rw [Sem.run_bind, hrun]; rfl
  unfold loadOpK at hr
  split at hr
  · rename_i k g off hx
    rw [hx] at hxr
    obtain ⟨blk, hla, hv⟩ := hxr
    split at hr
    · rename_i g' cs hgb
      split at hr
      · rename_i hg
        subst hg
        obtain ⟨blk', b1, b2, b3⟩ := hI.boxes k g cs hgb
        rw [hla] at b1; cases b1
        rw [hl0, loadK_nat] at hr
        obtain ⟨q, hq, hr⟩ := Option.bind_eq_some_iff.mp hr
        have hr' : some (q.1, (none : BE), st.hp) = some r := by first | exact hr | (rw [← hr, if_neg h1])
        cases hr'
        obtain ⟨vs, v1, v2, v3⟩ := cellsR_list b3
        obtain ⟨_, v, hrun, hs, hl⟩ := load_copy (P := c.P) ht hk (A := ⟨blk, 0, none⟩) v1 (fun k u hu => v2 0 k u (by simpa using hu)) (fun k x u hx hu => (v3 k x u hx hu).ro) hq
        rw [addr_add, Nat.zero_add] at hrun
        exact fin _ v ⟨_, hv, hrun⟩ hs hl
      · cases hr
    · cases hr
  · rename_i cs hx
    rw [hx] at hxr
    rw [if_neg h1, hl0, loadK_nat] at hr
    obtain ⟨q, hq, hr⟩ := Option.bind_eq_some_iff.mp hr
    cases hr
    obtain ⟨b, o', vs, hv, h2, h3, h4, h5⟩ := hxr
    obtain ⟨_, v, hrun, hs, hl⟩ := load_copy (P := c.P) ht hk (A := ⟨b, o', none⟩) h2.symm (fun k u hu => by rw [addr_add]; exact h4 k u hu) (fun k x u hx hu => by rw [ro1_of_r (h5 k x u hx hu)]; exact h5 k x u hx hu) hq
    rw [addr_add, Nat.add_zero] at hrun
    exact fin _ v ⟨_, hv, hrun⟩ hs hl
  · rename_i y hx
    rw [hx] at hxr
    obtain ⟨p, hp, hr⟩ := Option.bind_eq_some_iff.mp hr
    obtain ⟨cs, hcs, hr⟩ := Option.bind_eq_some_iff.mp hr
    rw [hl0, loadK_nat] at hr
    obtain ⟨q, hq, hr⟩ := Option.bind_eq_some_iff.mp hr
    have hr' : some (q.1, (none : BE), st.hp) = some r := by first | exact hr | (rw [← hr, if_neg h1])
    cases hr'
    have hy := getPtr_some hp
    subst hy
    obtain ⟨blk, m1, hv⟩ := relP (p := fun i => .sl (num x) 0 i) hxr
    unfold Hp.rd at hcs
    obtain ⟨e, he, hcs⟩ := Option.bind_eq_some_iff.mp hcs
    split at hcs
    · rename_i hg
      have hcs' : e.2 = cs := Option.some.inj hcs
      have he' : st.hp.get p.1 = some (p.2.1, cs) := by rw [he, ← hg, ← hcs']
      obtain ⟨blk', b1, b2, b3⟩ := hI.heap p.1 p.2.1 cs he'
      rw [m1] at b1; cases b1
      obtain ⟨vs, v1, v2, v3⟩ := cellsR_list b3
      obtain ⟨_, v, hrun, hs, hl⟩ := load_copy (P := c.P) ht hk (A := ⟨blk, 0, none⟩) v1 (fun k u hu => v2 0 k u (by simpa using hu)) (fun k x u hx hu => (v3 k x u hx hu).ro) hq
      rw [addr_add, Nat.zero_add] at hrun
      exact fin _ v ⟨_, hv, hrun⟩ hs hl
    · cases hcs
  · cases hr

/-! ### tuples -/
theorem extract_rel {l : List AV} {t i : Nat} {x : AV} {v : Value} (h : RelS G w t (.tp l) v) (hx : l[i]? = some x) :
    ∃ vs : List Value, v = .tuple vs.toArray ∧ ∃ u, vs[i]? = some u ∧ RelV G w (.sl t i ·) x u := by
  obtain ⟨vs, rfl, h2, h3⟩ := h
  obtain ⟨u, hu⟩ := get_of_len h2 hx
  exact ⟨vs, rfl, u, hu, h3 i x u hx hu⟩
/-- What slot t's part i held is slot d's. -/
def mvX (t i d : Nat) : Ow → Ow
  | .sl k j q => if k = t ∧ j = i then .sl d 0 q else .sl k j q
  | p => p
theorem mvX_rho (t i d : Nat) : Rho (mvX t i d) where
  fr := rfl
  oth := rfl
  box p k g h := by
    cases p <;> simp only [mvX] at h <;> first | exact h | (split at h <;> cases h)
  obj p k g h := by
    cases p <;> simp only [mvX] at h <;> first | exact h | (split at h <;> cases h)
end
end Go.Proofs.Ytmnefpfbgadnkaa.AI
