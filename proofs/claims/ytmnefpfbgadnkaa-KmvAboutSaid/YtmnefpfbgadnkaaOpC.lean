/- Operations on addresses, slices and tuples. -/
import Derived.Test.YtmnefpfbgadnkaaOpB
namespace Go.Proofs.Ytmnefpfbgadnkaa.AI
open Go
set_option linter.unusedVariables false
set_option linter.unusedSimpArgs false

section
variable {c : Cx} {G : Gh} {w : World} {st : St} {a : Act} {o : Oper} {Q : Exit → Act → World → Prop}
theorem addr_add (b off n : Nat) : (⟨b, off, none⟩ : Addr).add n = ⟨b, off + n, none⟩ := by
  unfold Addr.add; split
  · subst_vars; simp
  · simp
theorem getPtr_some {x : AV} {p : Nat × Nat × Nat} (h : getPtr x = some p) : x = .ptr p.1 p.2.1 p.2.2 := by
  cases x <;> simp [getPtr] at h
  subst h; rfl
theorem getMs_some {x : AV} {p : Nat × Nat × Nat × Nat} (h : getMs x = some p) : x = .ms p.1 p.2.1 p.2.2.1 p.2.2.2 := by
  cases x <;> simp [getMs] at h
  subst h; rfl
theorem relP {b g off : Nat} {p : Nat → Ow} {v : Value} (h : RelV G w p (.ptr b g off) v) : ∃ blk, G.mu b g = some blk ∧ v = .pointer (some ⟨blk, off, none⟩) := by
  have h' : RelR G w (.ptr b g off) v := h
  cases h' with
  | ptr _ _ _ blk h2 => exact ⟨blk, h2, rfl⟩
theorem relM {b g off n : Nat} {p : Nat → Ow} {v : Value} (h : RelV G w p (.ms b g off n) v) : ∃ blk cap off', G.mu b g = some blk ∧ n ≤ cap ∧ (0 < n → off' = off) ∧ v = .slice (some ⟨blk, off', none⟩) n cap := by
  have h' : RelR G w (.ms b g off n) v := h
  cases h' with
  | ms _ _ _ _ cap blk off' h2 h3 h4 => exact ⟨blk, cap, off', h2, h3, h4, rfl⟩

/-- An address, moved on by some cells. -/
def shift (n : Nat) : SV → Option SV
  | .lp k g off => some (.lp k g (off + n))
  | .rv cs => some (.rv (cs.drop n))
  | .av (.ptr b g off) => some (.av (.ptr b g (off + n)))
  | _ => none
theorem shift_rel {n : Nat} {s s' : SV} {k : Nat} {v : Value} (hs : shift n s = some s') (h : RelS G w k s v) :
    ∃ A : Addr, v = .pointer (some A) ∧ ∀ j, RelS G w j s' (.pointer (some (A.add n))) := by
  cases s with
  | lp k' g off =>
    cases hs
    obtain ⟨blk, h1, rfl⟩ := h
    exact ⟨_, rfl, fun j => ⟨blk, h1, by rw [addr_add]⟩⟩
  | rv cs =>
    cases hs
    obtain ⟨b, o, vs, rfl, h2, h3, h4, h5⟩ := h
    refine ⟨_, rfl, fun j => ⟨b, o + n, vs.drop n, by rw [addr_add], by simp [h2], fun i hi => by rw [Nat.add_assoc]; exact h3 (n + i) (by simp at hi; omega), fun i c hc => ?_, fun i x c hx hc => ?_⟩⟩
    · rw [Nat.add_assoc]; exact h4 (n + i) c (by rw [← hc]; simp)
    · exact h5 (n + i) x c (by rw [← hx]; simp) (by rw [← hc]; simp)
  | av x =>
    cases x with
    | ptr b g off =>
      cases hs
      obtain ⟨blk, h1, rfl⟩ := relP (p := fun i => .sl k 0 i) h
      exact ⟨_, rfl, fun j => by rw [addr_add]; exact RelR.ptr b g _ blk h1⟩
    | _ => cases hs
  | _ => cases hs
theorem shift_lp {n : Nat} {s : SV} {k g off : Nat} (hs : shift n s = some (.lp k g off)) : ∃ off', s = .lp k g off' := by
  cases s with
  | lp k' g' off' => cases hs; exact ⟨off', rfl⟩
  | rv cs => cases hs
  | av x => cases x <;> cases hs
  | _ => cases hs
theorem wp_shift (hI : Inv G w st a.tmps) (hd : Dst o a) (h : Nat) (ho : dnOp h o st.sl = st.sl) (hdo : downs h o = []) {x : Operand} {n : Nat} {s' : SV}
    (hs : shift n (evS st.sl x) = some s')
    (hr : ∀ A : Addr, a.eval x = .pointer (some A) → (execOp a.eval o).run c.P w = .ok (.value (.pointer (some (A.add n)))) w) :
    o.wp c.P a w (Aft G w a (after h o st s' none st.hp)) Q := by
  obtain ⟨A, hA, hj⟩ := shift_rel hs (evR hI x)
  refine wp_value (hr A hA) (aft_value hI h (by rw [ho, hdo]; rfl) hd hj (fun k g off e => ?_))
  subst e
  obtain ⟨off', hx⟩ := shift_lp hs
  exact lp_ok hI hx
theorem op_fieldAddr (hc : Ok c) (hI : Inv G w st a.tmps) (hd : Dst o a) (h : Nat) {t : TypeId} {ti : TI} (hti : c.tn t = some ti) {x : Operand} {f : Nat} (hop : o.op = .fieldAddr t x f) {r : SV × BE × Hp}
    (hr : (fieldAddrK c ti (evS st.sl x) f fun s => some (s, (none : BE), st.hp)) = some r) : o.wp c.P a w (Aft G w a (after h o st r.1 r.2.1 r.2.2)) Q := by
  unfold fieldAddrK at hr
  split at hr
  · rename_i fs hk
    split at hr
    · rename_i fo ft hfs
      split at hr
      · rename_i fi hfi
        split at hr
        · cases hr
        · rename_i hsz
          obtain ⟨d, hd1, hd2⟩ := (hc.tt t ti (tn_some hti).1).und
          rw [hk] at hd2
          obtain ⟨fields, rfl, hfl⟩ := hd2
          obtain ⟨fl, hfl1, hfl2⟩ := list_map_get _ _ _ _ (show (fields.toList.map fun f => (f.offset, f.type))[f]? = some (fo, ft) by rw [hfl]; exact hfs)
          have hfl1' : fields[f]? = some fl := by simpa using hfl1
          cases hfl2
          have key : ∀ s', shift fl.offset (evS st.sl x) = some s' → o.wp c.P a w (Aft G w a (after h o st s' none st.hp)) Q := by
            intro s' hs
            refine wp_shift hI hd h (by simp [dnOp, downs, hop, dnAll]) (by simp [downs, hop]) hs (fun A hA => ?_)
            have hsize := (hc.tt fl.type fi (tn_some hfi).1).sizeOf (tn_some hfi).2 w
            simp only [execOp, hop, Instr.fieldAt, hA, Instr.sureAddr, fieldPlace]
            simp [run_underlying hd1, hfl1', hsize, hsz]
          split at hr
          · rename_i k g off hx
            cases hr
            exact key _ (by rw [hx]; rfl)
          · rename_i cs hx
            cases hr
            exact key _ (by rw [hx]; rfl)
          · rename_i y hx
            obtain ⟨p, hp, hr⟩ := Option.bind_eq_some_iff.mp hr
            cases hr
            exact key _ (by rw [hx, getPtr_some hp]; rfl)
          · cases hr
      · cases hr
    · cases hr
  · cases hr
end
end Go.Proofs.Ytmnefpfbgadnkaa.AI
