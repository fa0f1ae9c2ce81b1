/- Operations on slices, tuples, function values; what is computed of lengths and bytes. -/
import Derived.Test.YtmnefpfbgadnkaaOpC
namespace Go.Proofs.Ytmnefpfbgadnkaa.AI
open Go
set_option linter.unusedVariables false
set_option linter.unusedSimpArgs false

section
variable {c : Cx} {G : Gh} {w : World} {st : St} {a : Act} {o : Oper} {Q : Exit → Act → World → Prop}
theorem many_eq {s n l : Nat} (hs : 0 < s) (h : l = n * s) : (if s = 1 then l else l / s) = n := by
  subst h
  split
  · subst_vars; simp
  · exact Nat.mul_div_cancel n hs
theorem idx_some {n i : Nat} {v : Value} (h : idx n v = some i) : ∃ k z, v = .int k z ∧ 0 ≤ z ∧ z < (n : Int) ∧ z.toNat = i := by
  unfold idx at h
  obtain ⟨z, hz, h2⟩ := Option.bind_eq_some_iff.mp h
  clear h
  obtain ⟨k, rfl⟩ := asI_some hz
  split at h2
  · cases h2; exact ⟨k, z, rfl, by omega, by omega, rfl⟩
  · cases h2
theorem getN_some {cs l : List AV} {i n : Nat} (h : getN cs i n = some l) : i + n ≤ cs.length ∧ l = (cs.drop i).take n := by
  unfold getN at h
  split at h
  · cases h; exact ⟨by assumption, rfl⟩
  · cases h
/-- A slice that may be read: its cells. -/
theorem sl_form {s : Nat} {cs : List AV} {v : Value} (h : RelR G w (.sl s cs) v) :
    ∃ A n cap, v = .slice (some A) n cap ∧ 0 < s ∧ cs.length = n * s ∧ (n = 0 ∨ n ≤ cap) ∧ (0 < n → ∃ (b o : Nat) (vs : List Value), A = ⟨b, o, none⟩ ∧ o + n * s ≤ G.I b ∧ vs.length = cs.length ∧
      (∀ (k : Nat) (c : Value), vs[k]? = some c → w.cell? ⟨b, o + k, none⟩ = some c) ∧ ∀ (k : Nat) (x : AV) (c : Value), cs[k]? = some x → vs[k]? = some c → RelR G w x c) := by
  cases h with
  | sl0 _ A cap hs => exact ⟨A, 0, cap, rfl, hs, by simp, .inl rfl, fun h => absurd h (by omega)⟩
  | sl _ _ n cap b o vs h1 h2 h3 h4 h5 h6 h7 h8 => exact ⟨_, n, cap, rfl, h1, h3, .inr h4, fun _ => ⟨b, o, vs, rfl, h5, h6, h7, h8⟩⟩
theorem sl_idx {s i : Nat} {cs l : List AV} {v : Value} (h : RelR G w (.sl s cs) v) {iv : Value} (hi : idx (if s = 1 then cs.length else cs.length / s) iv = some i) (hl : getN cs (i * s) s = some l) :
    ∃ A n cap k z, v = .slice (some A) n cap ∧ iv = .int k z ∧ 0 ≤ z ∧ z < (n : Int) ∧ z.toNat = i ∧ ∀ j, RelS G w j (.rv l) (.pointer (some (A.add (i * s)))) := by
  obtain ⟨A, n, cap, rfl, h2, h3, h4, h5⟩ := sl_form h
  rw [many_eq h2 h3] at hi
  obtain ⟨k, z, rfl, hz0, hz1, hz2⟩ := idx_some hi
  obtain ⟨hle, rfl⟩ := getN_some hl
  refine ⟨A, n, cap, k, z, rfl, rfl, hz0, hz1, hz2, fun j => ?_⟩
  obtain ⟨b, o, vs, rfl, hI, hvl, hcell, hrel⟩ := h5 (by omega)
  refine ⟨b, o + i * s, (vs.drop (i * s)).take s, by rw [addr_add], by simp [hvl], fun q hq => ?_, fun q c hc => ?_, fun q x c hx hc => ?_⟩
  · simp at hq
    have : i * s + s ≤ n * s := by omega
    omega
  · rw [List.getElem?_take] at hc
    split at hc
    · rw [Nat.add_assoc]; exact hcell (i * s + q) c (by rw [← hc]; simp)
    · cases hc
  · rw [List.getElem?_take] at hc hx
    split at hc
    · rename_i hq
      simp only [hq, if_true] at hx
      exact hrel (i * s + q) x c (by rw [← hx]; simp) (by rw [← hc]; simp)
    · cases hc
theorem relV_sl {p : Nat → Ow} {s : Nat} {cs : List AV} {v : Value} (h : RelV G w p (.sl s cs) v) : RelR G w (.sl s cs) v := h
theorem relV_us {p : Nat → Ow} {s : Nat} {cs : List AV} {v : Value} (h : RelV G w p (.us s cs) v) : RelR G w (.sl s cs) v := by
  obtain ⟨b, _, ht⟩ := h; exact ht.ro
theorem idxA_rel {p : Nat → Ow} {sz : Nat} {x : AV} {v iv : Value} {l : List AV} (h : RelV G w p x v) (hl : idxA sz x iv = some l) :
    ∃ A n cap k z, v = .slice (some A) n cap ∧ iv = .int k z ∧ 0 ≤ z ∧ z < (n : Int) ∧ ∀ j, RelS G w j (.rv l) (.pointer (some (A.add (z.toNat * sz)))) := by
  cases x with
  | sl s cs =>
    simp only [idxA] at hl
    split at hl
    · rename_i e; subst e
      obtain ⟨i, hi, hl⟩ := Option.bind_eq_some_iff.mp hl
      obtain ⟨A, n, cap, k, z, e1, e2, e3, e4, e5, e6⟩ := sl_idx (relV_sl h) hi hl
      exact ⟨A, n, cap, k, z, e1, e2, e3, e4, fun j => by rw [e5]; exact e6 j⟩
    · cases hl
  | us s cs =>
    simp only [idxA] at hl
    split at hl
    · rename_i e; subst e
      obtain ⟨i, hi, hl⟩ := Option.bind_eq_some_iff.mp hl
      obtain ⟨A, n, cap, k, z, e1, e2, e3, e4, e5, e6⟩ := sl_idx (relV_us h) hi hl
      exact ⟨A, n, cap, k, z, e1, e2, e3, e4, fun j => by rw [e5]; exact e6 j⟩
    · cases hl
  | _ => simp [idxA] at hl
theorem run_indexAt_slice {P : Program} {t e : TypeId} {ei : TI} (ht : P.underlying t = some (.slice e)) (hz : ∀ w, (sizeOf e).run P w = .ok ei.size w) (A : Addr) (n cap : Nat) (k : IntKind) (z : Int)
    (h0 : 0 ≤ z) (h1 : z < (n : Int)) (w : World) : (Instr.indexAt t (.slice (some A) n cap) (.int k z)).run P w = .ok (.pointer (some (A.add (z.toNat * ei.size)))) w := by
  simp [Instr.indexAt, asIntOf, run_underlying ht, h0, h1, hz]
theorem run_indexAt_array {P : Program} {t e : TypeId} {ei : TI} {n : Nat} (ht : P.underlying t = some (.array n e)) (hz : ∀ w, (sizeOf e).run P w = .ok ei.size w) (A : Addr) (k : IntKind) (z : Int)
    (h0 : 0 ≤ z) (h1 : z < (n : Int)) (w : World) : (Instr.indexAt t (.pointer (some A)) (.int k z)).run P w = .ok (.pointer (some (A.add (z.toNat * ei.size)))) w := by
  simp [Instr.indexAt, asIntOf, run_underlying ht, h0, h1, hz, Instr.sureAddr]
theorem op_indexAddr (hc : Ok c) (hI : Inv G w st a.tmps) (hd : Dst o a) (h : Nat) {t : TypeId} {ti : TI} (hti : c.tn t = some ti) {x i : Operand} (hop : o.op = .indexAddr t x i) {r : SV × BE × Hp}
    (hr : (indexAddrK c h ti (evS st.sl x) (evS st.sl i) fun s => some (s, (none : BE), st.hp)) = some r) : o.wp c.P a w (Aft G w a (after h o st r.1 r.2.1 r.2.2)) Q := by
  have hdo : dnOp h o st.sl = dnAll (downs h o) st.sl := by simp [dnOp, hop]
  have hdn : downs h o = [] := by simp [downs, hop]
  unfold indexAddrK at hr
  split at hr
  · rename_i iv hi
    obtain ⟨hiv, _⟩ := ev_sv hI hi
    obtain ⟨d, hd1, hd2⟩ := (hc.tt t ti (tn_some hti).1).und
    split at hr
    · rename_i e hk
      rw [hk] at hd2
      have hd2 : d = .slice e := hd2
      subst hd2
      split at hr
      · rename_i ei hei
        have hz := (hc.tt e ei (tn_some hei).1).sizeOf (tn_some hei).2
        split at hr
        · rename_i y hx
          have hxr := evR hI x
          rw [hx] at hxr
          split at hr
          · obtain ⟨p, hp, hr⟩ := Option.bind_eq_some_iff.mp hr
            obtain ⟨j, hj, hr⟩ := Option.bind_eq_some_iff.mp hr
            cases hr
            have hy := getMs_some hp
            subst hy
            obtain ⟨blk, cap, off', m1, m2, m4, m3⟩ := relM (p := fun i => .sl (num x) 0 i) hxr
            obtain ⟨k, z, rfl, z0, z1, rfl⟩ := idx_some hj
            have m5 := m4 (by omega)
            subst m5
            refine wp_value (v := .pointer (some ⟨blk, p.2.2.1 + z.toNat * ei.size, none⟩)) (w' := w) ?_ (aft_value hI h hdo hd (fun j => RelR.ptr _ _ _ blk m1) (fun _ _ _ e => by cases e))
            simp only [execOp, hop, m3, hiv]
            rw [Sem.run_bind, run_indexAt_slice hd1 hz _ _ _ k z z0 z1, addr_add]; rfl
          · obtain ⟨l, hl, hr⟩ := Option.bind_eq_some_iff.mp hr
            cases hr
            obtain ⟨A, n, cap, k, z, e1, rfl, z0, z1, e5⟩ := idxA_rel (p := fun i => .sl (num x) 0 i) hxr hl
            refine wp_value (v := .pointer (some (A.add (z.toNat * ei.size)))) (w' := w) ?_ (aft_value hI h hdo hd e5 (fun _ _ _ e => by cases e))
            simp only [execOp, hop, e1, hiv]
            rw [Sem.run_bind, run_indexAt_slice hd1 hz _ _ _ k z z0 z1]; rfl
        · cases hr
      · cases hr
    · rename_i n e hk
      rw [hk] at hd2
      have hd2 : d = .array n e := hd2
      subst hd2
      split at hr
      · rename_i ei hei
        have hz := (hc.tt e ei (tn_some hei).1).sizeOf (tn_some hei).2
        have key : ∀ j s', idx n iv = some j → shift (j * ei.size) (evS st.sl x) = some s' → o.wp c.P a w (Aft G w a (after h o st s' none st.hp)) Q := by
          intro j s' hj hs
          obtain ⟨k, z, rfl, z0, z1, rfl⟩ := idx_some hj
          refine wp_shift hI hd h (by simp [dnOp, downs, hop, dnAll]) hdn hs (fun A hA => ?_)
          simp only [execOp, hop, hA, hiv]
          rw [Sem.run_bind, run_indexAt_array hd1 hz A k z z0 z1]; rfl
        split at hr
        · rename_i k' g off hx
          obtain ⟨j, hj, hr⟩ := Option.bind_eq_some_iff.mp hr
          cases hr
          exact key j _ hj (by rw [hx]; rfl)
        · rename_i cs hx
          obtain ⟨j, hj, hr⟩ := Option.bind_eq_some_iff.mp hr
          cases hr
          exact key j _ hj (by rw [hx]; rfl)
        · rename_i y hx
          obtain ⟨p, hp, hr⟩ := Option.bind_eq_some_iff.mp hr
          obtain ⟨j, hj, hr⟩ := Option.bind_eq_some_iff.mp hr
          cases hr
          exact key j _ hj (by rw [hx, getPtr_some hp]; rfl)
        · cases hr
      · cases hr
    · cases hr
  · cases hr

/-! ### parts of slices -/
theorem bound_some {lo hi : Nat} {v : Option Value} {d n : Nat} (h : bound lo hi v d = some n) :
    (v = none ∧ n = d) ∨ ∃ k z, v = some (.int k z) ∧ (lo : Int) ≤ z ∧ z ≤ (hi : Int) ∧ z.toNat = n := by
  cases v with
  | none => simp only [bound] at h; cases h; exact .inl ⟨rfl, rfl⟩
  | some v =>
    simp only [bound] at h
    obtain ⟨z, hz, h2⟩ := Option.bind_eq_some_iff.mp h
    clear h
    obtain ⟨k, rfl⟩ := asI_some hz
    split at h2
    · cases h2; exact .inr ⟨k, z, rfl, by omega, by omega, rfl⟩
    · cases h2
end
end Go.Proofs.Ytmnefpfbgadnkaa.AI
