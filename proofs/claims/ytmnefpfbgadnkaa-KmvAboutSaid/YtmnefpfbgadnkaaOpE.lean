/- Slicing, parts of tuples, function values, what is converted. -/
import Derived.Test.YtmnefpfbgadnkaaOpD
namespace Go.Proofs.Ytmnefpfbgadnkaa.AI
open Go
set_option linter.unusedVariables false
set_option linter.unusedSimpArgs false

section
variable {c : Cx} {G : Gh} {w : World} {st : St} {a : Act} {o : Oper} {Q : Exit → Act → World → Prop}

theorem run_bound {P : Program} {lo hi : Nat} {k : IntKind} {z : Int} (code : BoundsCode) (h0 : 0 ≤ z) (h1 : z ≤ (hi : Int)) (w : World) :
    (Instr.sliceBound (.int k z) hi code).run P w = .ok z.toNat w := by
  simp [Instr.sliceBound, asIntOf, h0, h1]
/-- The bounds of a slice expression. -/
theorem run_bounds {P : Program} {n cap l h m : Nat} {lo hi mx : Option Value} (hcap : n ≤ cap) (hm : bound 0 n mx n = some m) (hh : bound 0 m hi n = some h) (hl : bound 0 h lo 0 = some l)
    (hmx : mx.isSome = true → hi.isSome = true) (w : World) : ∃ m', h ≤ m' ∧ (Instr.sliceBounds true n cap lo hi mx).run P w = .ok (l, h, m') w := by
  rcases bound_some hm with ⟨rfl, rfl⟩ | ⟨k1, z1, rfl, a1, b1, rfl⟩
  · rcases bound_some hh with ⟨rfl, rfl⟩ | ⟨k2, z2, rfl, a2, b2, rfl⟩
    · rcases bound_some hl with ⟨rfl, rfl⟩ | ⟨k3, z3, rfl, a3, b3, rfl⟩
      · exact ⟨cap, hcap, by simp [Instr.sliceBounds]⟩
      · exact ⟨cap, hcap, by simp [Instr.sliceBounds, run_bound (lo := 0) _ (by omega) b3]⟩
    · rcases bound_some hl with ⟨rfl, rfl⟩ | ⟨k3, z3, rfl, a3, b3, rfl⟩
      · exact ⟨cap, by omega, by simp [Instr.sliceBounds, run_bound (lo := 0) (hi := cap) _ (show 0 ≤ z2 by omega) (by omega)]⟩
      · exact ⟨cap, by omega, by simp [Instr.sliceBounds, run_bound (lo := 0) (hi := cap) _ (show 0 ≤ z2 by omega) (by omega), run_bound (lo := 0) _ (show 0 ≤ z3 by omega) b3]⟩
  · rcases bound_some hh with ⟨rfl, rfl⟩ | ⟨k2, z2, rfl, a2, b2, rfl⟩
    · exact absurd (hmx rfl) (by simp)
    · have e1 := fun code => run_bound (P := P) (lo := 0) (hi := cap) (k := k1) (z := z1) code (by omega) (by omega) w
      have e2 := fun code => run_bound (P := P) (lo := 0) (hi := z1.toNat) (k := k2) (z := z2) code (by omega) b2 w
      rcases bound_some hl with ⟨rfl, rfl⟩ | ⟨k3, z3, rfl, a3, b3, rfl⟩
      · exact ⟨z1.toNat, by omega, by simp [Instr.sliceBounds, e1, e2]⟩
      · have e3 := fun code => run_bound (P := P) (lo := 0) (hi := z2.toNat) (k := k3) (z := z3) code (by omega) b3 w
        exact ⟨z1.toNat, by omega, by simp [Instr.sliceBounds, e1, e2, e3]⟩
theorem bound_le {lo hi d n : Nat} {v : Option Value} (h : bound lo hi v d = some n) (hd : d ≤ hi) : n ≤ hi := by
  rcases bound_some h with ⟨_, rfl⟩ | ⟨k, z, _, _, h2, rfl⟩
  · exact hd
  · omega
theorem sl_part {s n cap l h m' : Nat} {A : Addr} {cs : List AV} (hv : RelR G w (.sl s cs) (.slice (some A) n cap)) (hl : l ≤ h) (hh : h ≤ n) (hm : h ≤ m') :
    RelR G w (.sl s ((cs.drop (l * s)).take ((h - l) * s))) (.slice (if m' = l then some A else some (A.add (l * s))) (h - l) (m' - l)) := by
  obtain ⟨A', n', cap', e, h2, h3, h4, h5⟩ := sl_form hv
  cases e
  by_cases h0 : h - l = 0
  · rw [h0]
    simp only [Nat.zero_mul, List.take_zero]
    split
    · exact .sl0 _ _ _ h2
    · exact .sl0 _ _ _ h2
  · obtain ⟨b, o, vs, rfl, hI, hvl, hcell, hrel⟩ := h5 (by omega)
    rw [if_neg (by omega), addr_add]
    have hmul : l * s + (h - l) * s = h * s := by rw [← Nat.add_mul]; congr 1; omega
    have hns : h * s ≤ n * s := Nat.mul_le_mul_right s hh
    refine .sl s _ (h - l) (m' - l) b (o + l * s) ((vs.drop (l * s)).take ((h - l) * s)) h2 (by omega) ?_ (by omega) (by omega) ?_ (fun q c hc => ?_) (fun q x c hx hc => ?_)
    · simp; omega
    · simp [hvl]
    · rw [List.getElem?_take] at hc
      split at hc
      · rw [Nat.add_assoc]; exact hcell (l * s + q) c (by rw [← hc]; simp)
      · cases hc
    · rw [List.getElem?_take] at hc hx
      split at hc
      · rename_i hq
        simp only [hq, if_true] at hx
        exact hrel (l * s + q) x c (by rw [← hx]; simp) (by rw [← hc]; simp)
      · cases hc
theorem cap_ok {s n cap : Nat} {A : Addr} {cs : List AV} (hv : RelR G w (.sl s cs) (.slice (some A) n cap)) : n ≤ cap := by
  obtain ⟨A', n', cap', e, h2, h3, h4, h5⟩ := sl_form hv
  cases e
  rcases h4 with h4 | h4 <;> omega
theorem run_slice_sl {P : Program} {t e : TypeId} {ei : TI} (ht : P.underlying t = some (.slice e)) (hz : ∀ w, (sizeOf e).run P w = .ok ei.size w) {s : Nat} {cs : List AV} {v : Value} (hs : s = ei.size)
    (hv : RelR G w (.sl s cs) v) {lo hi mx : Option Value} {l h m N : Nat} (hN : N = if s = 1 then cs.length else cs.length / s) (hm : bound 0 N mx N = some m)
    (hh : bound 0 m hi N = some h) (hl : bound 0 h lo 0 = some l) (hmx : mx.isSome = true → hi.isSome = true) :
    ∃ v', (Instr.sliceAt t v lo hi mx).run P w = .ok v' w ∧ RelR G w (.sl s ((cs.drop (l * s)).take ((h - l) * s))) v' := by
  obtain ⟨A, n, cap, rfl, h2, h3, h4, h5⟩ := sl_form hv
  rw [many_eq h2 h3] at hN
  rw [hN] at hm hh
  have hm1 : m ≤ n := bound_le hm (Nat.le_refl _)
  have hcap := cap_ok hv
  obtain ⟨m', hm', hb⟩ := run_bounds (P := P) hcap hm hh hl hmx w
  have hhn : h ≤ n := by
    rcases bound_some hh with ⟨_, rfl⟩ | ⟨k, z, _, _, h2, rfl⟩ <;> omega
  have hlh : l ≤ h := bound_le hl (Nat.zero_le _)
  refine ⟨_, ?_, sl_part hv hlh hhn hm'⟩
  simp only [Instr.sliceAt, Instr.slice]
  subst hs
  simp [run_underlying ht, hb, hz]
theorem run_bounds0 {P : Program} {l h m : Nat} {lo hi mx : Option Value} (hm : bound 0 (0 : Nat) mx 0 = some m) (hh : bound 0 m hi 0 = some h) (hl : bound 0 h lo 0 = some l)
    (hmx : mx.isSome = true → hi.isSome = true) (w : World) : ∃ m', (Instr.sliceBounds true 0 0 lo hi mx).run P w = .ok (0, 0, m') w ∧ m' = 0 := by
  have h1 : m = 0 := by have := bound_le hm (Nat.le_refl _); omega
  subst h1
  have h2 : h = 0 := by have := bound_le hh (Nat.le_refl _); omega
  subst h2
  have h3 : l = 0 := by have := bound_le hl (Nat.le_refl _); omega
  subst h3
  rcases bound_some hm with ⟨rfl, _⟩ | ⟨k1, z1, rfl, a1, b1, _⟩
  · rcases bound_some hh with ⟨rfl, _⟩ | ⟨k2, z2, rfl, a2, b2, _⟩ <;> rcases bound_some hl with ⟨rfl, _⟩ | ⟨k3, z3, rfl, a3, b3, _⟩
    · exact ⟨0, by simp [Instr.sliceBounds], rfl⟩
    · have e3 : z3 = 0 := by omega
      subst e3
      exact ⟨0, by simp [Instr.sliceBounds, Instr.sliceBound, asIntOf], rfl⟩
    · have e3 : z2 = 0 := by omega
      subst e3
      exact ⟨0, by simp [Instr.sliceBounds, Instr.sliceBound, asIntOf], rfl⟩
    · have e2 : z2 = 0 := by omega
      have e3 : z3 = 0 := by omega
      subst e2; subst e3
      exact ⟨0, by simp [Instr.sliceBounds, Instr.sliceBound, asIntOf], rfl⟩
  · rcases bound_some hh with ⟨rfl, _⟩ | ⟨k2, z2, rfl, a2, b2, _⟩
    · exact absurd (hmx rfl) (by simp)
    · have e1 : z1 = 0 := by omega
      have e2 : z2 = 0 := by omega
      subst e1; subst e2
      rcases bound_some hl with ⟨rfl, _⟩ | ⟨k3, z3, rfl, a3, b3, _⟩
      · exact ⟨0, by simp [Instr.sliceBounds, Instr.sliceBound, asIntOf], rfl⟩
      · have e3 : z3 = 0 := by omega
        subst e3
        exact ⟨0, by simp [Instr.sliceBounds, Instr.sliceBound, asIntOf], rfl⟩
theorem slcA_rel {P : Program} {t e : TypeId} {ei : TI} (ht : P.underlying t = some (.slice e)) (hz : ∀ w, (sizeOf e).run P w = .ok ei.size w) {p : Nat → Ow} {x y : AV} {v : Value}
    (hv : RelV G w p x v) {lo hi mx : Option Value} (hmx : mx.isSome = true → hi.isSome = true) (hy : slcA ei.size x lo hi mx = some y) :
    ∃ v', (Instr.sliceAt t v lo hi mx).run P w = .ok v' w ∧ RelR G w y v' := by
  cases x with
  | sl s cs =>
    simp only [slcA] at hy
    split at hy
    · rename_i hs
      obtain ⟨m, hm, hy⟩ := Option.bind_eq_some_iff.mp hy
      obtain ⟨h, hh, hy⟩ := Option.bind_eq_some_iff.mp hy
      obtain ⟨l, hl, hy⟩ := Option.bind_eq_some_iff.mp hy
      cases hy
      exact run_slice_sl ht hz hs (relV_sl hv) rfl hm hh hl hmx
    · cases hy
  | us s cs =>
    simp only [slcA] at hy
    split at hy
    · rename_i hs
      obtain ⟨m, hm, hy⟩ := Option.bind_eq_some_iff.mp hy
      obtain ⟨h, hh, hy⟩ := Option.bind_eq_some_iff.mp hy
      obtain ⟨l, hl, hy⟩ := Option.bind_eq_some_iff.mp hy
      cases hy
      exact run_slice_sl ht hz hs (relV_us hv) rfl hm hh hl hmx
    · cases hy
  | sc u =>
    simp only [slcA] at hy
    split at hy
    · rename_i hn
      have := isNil_eq hn
      subst this
      obtain ⟨m, hm, hy⟩ := Option.bind_eq_some_iff.mp hy
      obtain ⟨h, hh, hy⟩ := Option.bind_eq_some_iff.mp hy
      obtain ⟨l, hl, hy⟩ := Option.bind_eq_some_iff.mp hy
      cases hy
      cases hv
      obtain ⟨m', hb, rfl⟩ := run_bounds0 (P := P) hm hh hl hmx w
      refine ⟨nil0, ?_, .sc _ rfl⟩
      simp only [Instr.sliceAt, Instr.slice]
      simp [run_underlying ht, hb, hz, nil0]
    · cases hy
  | _ => simp [slcA] at hy
theorem asSV_opV {ev : Operand → SV} {x : Option Operand} {v : Option Value} (h : opV ev x = some v) : (x = none ∧ v = none) ∨ ∃ o u, x = some o ∧ v = some u ∧ ev o = .sv u := by
  cases x with
  | none => simp only [opV] at h; cases h; exact .inl ⟨rfl, rfl⟩
  | some o =>
    simp only [opV] at h
    obtain ⟨u, hu, h⟩ := Option.bind_eq_some_iff.mp h
    cases h
    exact .inr ⟨o, u, rfl, rfl, asSV_eq hu⟩
theorem opV_eval (hI : Inv G w st a.tmps) {x : Option Operand} {v : Option Value} (h : opV (evS st.sl) x = some v) : x.map a.eval = v := by
  rcases asSV_opV h with ⟨rfl, rfl⟩ | ⟨o, u, rfl, rfl, hu⟩
  · rfl
  · simp [(ev_sv hI hu).1]
theorem opV_isSome {ev : Operand → SV} {x : Option Operand} {v : Option Value} (h : opV ev x = some v) : v.isSome = x.isSome := by
  rcases asSV_opV h with ⟨rfl, rfl⟩ | ⟨o, u, rfl, rfl, _⟩ <;> rfl
theorem op_slice (hc : Ok c) (hI : Inv G w st a.tmps) (hd : Dst o a) (h : Nat) {t : TypeId} {ti : TI} (hti : c.tn t = some ti) {x : Operand} {lo hi mx : Option Operand} (hop : o.op = .slice t x lo hi mx) {r : SV × BE × Hp}
    (hmx : (mx.isSome && !hi.isSome) = false)
    (hr : ((opV (evS st.sl) lo).bind fun l => (opV (evS st.sl) hi).bind fun u => (opV (evS st.sl) mx).bind fun m => sliceK c h ti t (evS st.sl x) l u m fun s => some (s, (none : BE), st.hp)) = some r) :
    o.wp c.P a w (Aft G w a (after h o st r.1 r.2.1 r.2.2)) Q := by
  obtain ⟨l, hl, hr⟩ := Option.bind_eq_some_iff.mp hr
  obtain ⟨u, hu, hr⟩ := Option.bind_eq_some_iff.mp hr
  obtain ⟨m, hm, hr⟩ := Option.bind_eq_some_iff.mp hr
  have hmx' : m.isSome = true → u.isSome = true := by
    rw [opV_isSome hm, opV_isSome hu]
    intro h1
    rw [h1] at hmx
    simpa using hmx
  have el := opV_eval hI hl
  have eu := opV_eval hI hu
  have em := opV_eval hI hm
  have hdo : dnOp h o st.sl = dnAll (downs h o) st.sl := by simp [dnOp, hop]
  obtain ⟨d, hd1, hd2⟩ := (hc.tt t ti (tn_some hti).1).und
  have hxr := evR hI x
  unfold sliceK at hr
  split at hr
  · rename_i e hk
    rw [hk] at hd2
    have hd2 : d = .slice e := hd2
    subst hd2
    split at hr
    · rename_i ei hei
      have hz := (hc.tt e ei (tn_some hei).1).sizeOf (tn_some hei).2
      split at hr
      · rename_i y hx
        rw [hx] at hxr
        split at hr
        · obtain ⟨p, hp, hr⟩ := Option.bind_eq_some_iff.mp hr
          obtain ⟨m', hm', hr⟩ := Option.bind_eq_some_iff.mp hr
          obtain ⟨h', hh', hr⟩ := Option.bind_eq_some_iff.mp hr
          obtain ⟨l', hl', hr⟩ := Option.bind_eq_some_iff.mp hr
          cases hr
          have hy := getMs_some hp
          subst hy
          obtain ⟨blk, cap, off', m1, m2, m4, m3⟩ := relM (p := fun i => .sl (num x) 0 i) hxr
          obtain ⟨m'', hm'', hb⟩ := run_bounds (P := c.P) m2 hm' hh' hl' hmx' w
          have hlh := bound_le hl' (Nat.zero_le _)
          have hhn : h' ≤ p.2.2.2 := by
            have := bound_le hm' (Nat.le_refl _)
            rcases bound_some hh' with ⟨_, rfl⟩ | ⟨k, z, _, _, h2, rfl⟩ <;> omega
          by_cases he : m'' = l'
          · refine wp_value (v := .slice (some ⟨blk, off', none⟩) (h' - l') (m'' - l')) (w' := w) ?_ (aft_value hI h hdo hd (fun j => RelR.ms _ _ _ _ _ blk _ m1 (by omega) (by omega)) (fun _ _ _ e => by cases e))
            simp only [execOp, hop, m3, el, eu, em, Instr.sliceAt, Instr.slice]
            simp [run_underlying hd1, hb, hz, he]
          · refine wp_value (v := .slice (some ⟨blk, off' + l' * ei.size, none⟩) (h' - l') (m'' - l')) (w' := w) ?_ (aft_value hI h hdo hd (fun j => RelR.ms _ _ _ _ _ blk _ m1 (by omega) (fun hpos => by rw [m4 (by omega)])) (fun _ _ _ e => by cases e))
            simp only [execOp, hop, m3, el, eu, em, Instr.sliceAt, Instr.slice]
            simp [run_underlying hd1, hb, hz, he, addr_add]
        · obtain ⟨z, hz', hr⟩ := Option.bind_eq_some_iff.mp hr
          cases hr
          obtain ⟨v', hv1, hv2⟩ := slcA_rel hd1 hz (p := fun i => .sl (num x) 0 i) hxr hmx' hz'
          refine wp_value (v := v') (w' := w) ?_ (aft_value hI h hdo hd (fun j => (hv2.c (.sl j 0 0)).v) (fun _ _ _ e => by cases e))
          simp only [execOp, hop, el, eu, em]
          rw [Sem.run_bind, hv1]; rfl
      · cases hr
    · cases hr
  · split at hr
    · rename_i v hx
      obtain ⟨z, hz, hr⟩ := Option.bind_eq_some_iff.mp hr
      cases hr
      have hv := (ev_sv hI hx).1
      refine wp_sv hI h hdo hd (one_some hz).2 ?_
      have hk : ti.k = TK.sc := by assumption
      have hrun : (Instr.sliceAt t v l u m).run c.P w = (Instr.slice t v l u m).run c.P w := by
        simp only [Instr.sliceAt, Sem.run_bind, run_underlying hd1, Result.andThen_ok]
        rw [hk] at hd2
        cases d <;> first | rfl | (have := hd2 _ rfl; cases this)
      simp only [execOp, hop, el, eu, em, hv]
      rw [Sem.run_bind, hrun, pureOf_run (one_some hz).1 w]; rfl
    · cases hr
  · cases hr
end
end Go.Proofs.Ytmnefpfbgadnkaa.AI
