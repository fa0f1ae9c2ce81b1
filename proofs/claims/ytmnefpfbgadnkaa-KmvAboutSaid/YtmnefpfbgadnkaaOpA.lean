/- Operations that compute, and those that hand on what a slot holds: the relation is kept. -/
import Derived.Test.YtmnefpfbgadnkaaMem
namespace Go.Proofs.Ytmnefpfbgadnkaa.AI
open Go
set_option linter.unusedVariables false
set_option linter.unusedSimpArgs false

def num : Operand → Nat
  | .tmp t => t
  | _ => 0
/-- What holds behind an operation. -/
def Aft (G : Gh) (w : World) (a : Act) (st' : St) (a' : Act) (w' : World) : Prop :=
  ∃ G', Inv G' w' st' a'.tmps ∧ Fr G w G' w' ∧ a'.tmps.size = a.tmps.size ∧ a'.defers = a.defers

section
variable {c : Cx} {G : Gh} {w : World} {st : St} {a : Act} {P : Program} {o : Oper} {Q : Exit → Act → World → Prop}
theorem wp_value {v : Value} {w' : World} {K : Act → World → Prop} (hr : (execOp a.eval o).run P w = .ok (.value v) w') (hk : K (a.put o.dst v) w') : o.wp P a w K Q := by
  unfold Oper.wp; rw [hr]; exact hk
theorem wp_skipv {w' : World} {K : Act → World → Prop} (hr : (execOp a.eval o).run P w = .ok .skip w') (hk : K (a.put o.dst undef) w') : o.wp P a w K Q := by
  unfold Oper.wp; rw [hr]; exact hk
theorem evR (hI : Inv G w st a.tmps) (x : Operand) : RelS G w (num x) (evS st.sl x) (a.eval x) := by
  cases x with
  | tmp t => exact hI.slots t
  | const v =>
    simp only [evS, num, Act.eval]
    split
    · rename_i cs
      split
      · rename_i hall
        refine ⟨cs.toList, by simp, by simp, fun i x c hx hc => ?_⟩
        obtain ⟨y, hy, rfl⟩ := list_map_get _ _ _ _ hx
        have e : y = c := by rw [hy] at hc; exact Option.some.inj hc
        subst e
        exact RelR.sc y (List.all_eq_true.mp hall y (List.mem_of_getElem? hy))
      · trivial
    · trivial
    · rename_i h1 h2
      refine ⟨rfl, ?_⟩
      cases v <;> first | rfl | exact (h1 _ rfl).elim | exact (h2 _ rfl).elim
  | global g => trivial
  | func f => exact RelR.fn f [] [] rfl (by intro k x c hx; simp at hx)
theorem ev_sv (hI : Inv G w st a.tmps) {x : Operand} {v : Value} (h : evS st.sl x = .sv v) : a.eval x = v ∧ v.oneCell' = true := by
  have := evR hI x
  rw [h] at this
  exact ⟨this.1, this.2⟩
theorem asSV_eq {s : SV} {v : Value} (h : asSV s = some v) : s = .sv v := by
  cases s <;> simp [asSV] at h
  rw [h]

theorem Inv.dn (hI : Inv G w st a.tmps) (ts : List Nat) : Inv G w ⟨dnAll ts st.sl, st.bx, st.hp⟩ a.tmps where
  slots k := by
    have h := hI.slots k
    show RelS G w k (slot (dnAll ts st.sl) k) _
    rw [slot_dnAll]
    split
    · exact RelS.ro (Ev.refl G w) k (fun _ _ _ _ _ h => h) h
    · exact h
  boxes := hI.boxes
  heap := hI.heap
  next := hI.next
  hlt := hI.hlt
  new := hI.new
  vars := hI.vars
  lps j k g off h := by
    have h' : slot (dnAll ts st.sl) j = .lp k g off := h
    rw [slot_dnAll] at h'
    split at h'
    · exact hI.lps j k g off (ro_lp.mp h')
    · exact hI.lps j k g off h'
theorem Inv.put (hI : Inv G w st a.tmps) (d : Option Nat) (hd : ∀ k, d = some k → k < a.tmps.size) {s : SV} {v : Value} (hs : ∀ k, d = some k → RelS G w k s v)
    (hl : ∀ k g off, s = .lp k g off → ∃ g' cs, getB st.bx k = some (g', cs) ∧ g ≤ g') : Inv G w ⟨putS st.sl d s, st.bx, st.hp⟩ (a.put d v).tmps := by
  cases d with
  | none => exact hI
  | some d =>
    exact {
      slots := fun k => by
        show RelS G w k (slot ((d, s) :: st.sl) k) _
        rw [slot_put, tmps_put a d v (hd d rfl)]
        split
        · rename_i e; subst e; exact hs d rfl
        · exact hI.slots k
      boxes := hI.boxes
      heap := hI.heap
      next := hI.next
      hlt := hI.hlt
      new := hI.new
      vars := hI.vars
      lps := fun j k g off h => by
        have h' : slot ((d, s) :: st.sl) j = .lp k g off := h
        rw [slot_put] at h'
        split at h'
        · exact hl k g off h'
        · exact hI.lps j k g off h' }
/-- An operation that only computes. -/
theorem aft_value (hI : Inv G w st a.tmps) (h : Nat) (ho : dnOp h o st.sl = dnAll (downs h o) st.sl) (hd : ∀ k, o.dst = some k → k < a.tmps.size) {s : SV} {v : Value}
    (hs : ∀ k, RelS G w k s v) (hl : ∀ k g off, s = .lp k g off → ∃ g' cs, getB st.bx k = some (g', cs) ∧ g ≤ g') :
    Aft G w a (after h o st s none st.hp) (a.put o.dst v) w := by
  refine ⟨G, ?_, Fr.refl G w, put_size _ _ _, put_defers _ _ _⟩
  unfold after
  rw [ho]
  exact (hI.dn (downs h o)).put o.dst hd (fun k _ => hs k) hl

/-! ### handing on -/
/-- What slot t held is slot d's. -/
def mvR (t d : Nat) : Ow → Ow
  | .sl k j i => if k = t then .sl d j i else .sl k j i
  | p => p
theorem mvR_rho (t d : Nat) : Rho (mvR t d) where
  fr := rfl
  oth := rfl
  box p k g h := by
    cases p <;> simp only [mvR] at h <;> first | exact h | (split at h <;> cases h)
  obj p k g h := by
    cases p <;> simp only [mvR] at h <;> first | exact h | (split at h <;> cases h)
theorem Inv.relNew (hI : Inv G w st a.tmps) {f : Ow → Ow} (hf : Rho f) : (∀ b, w.heap.size ≤ b → (G.rel f).Om b = .fr ∧ (G.rel f).I b = 0) ∧
    (∀ b, (∃ k g, (G.rel f).Om b = .box k g) ∨ (∃ k g, (G.rel f).Om b = .obj k g) → (G.rel f).I b = 0) := by
  refine ⟨fun b hb => ⟨?_, (hI.new b hb).2⟩, fun b hb => hI.vars b ?_⟩
  · simp [Gh.rel, (hI.new b hb).1, hf.fr]
  · rcases hb with ⟨k, g, h⟩ | ⟨k, g, h⟩
    · exact .inl ⟨k, g, hf.box _ _ _ h⟩
    · exact .inr ⟨k, g, hf.obj _ _ _ h⟩
theorem nrm_rel {k : TK} {j : Nat} {s : SV} {v : Value} (h : RelS G w j s v) : RelS G w j (nrm k s) v := by
  cases s with
  | sv u =>
    simp only [nrm]
    split
    · exact h
    · obtain ⟨rfl, h1⟩ := h
      exact RelR.sc _ h1
  | _ => exact h
theorem nrm_lp {k : TK} {s : SV} {j g off : Nat} : nrm k s = .lp j g off ↔ s = .lp j g off := by
  cases s <;> simp only [nrm]
  split <;> simp
theorem aft_move (hI : Inv G w st a.tmps) (t d : Nat) (k : TK) (hd : d < a.tmps.size) (ts : List Nat) (hts : t ∈ ts) :
    Aft G w a ⟨(d, nrm k (slot st.sl t)) :: dnAll ts st.sl, st.bx, st.hp⟩ (a.put (some d) (a.tmps.getD t undef)) w := by
  have hr := mvR_rho t d
  have he : Ev G w (G.rel (mvR t d)) w := (Fr.rel hr).ev
  refine ⟨G.rel (mvR t d), ?_, Fr.rel hr, put_size _ _ _, put_defers _ _ _⟩
  obtain ⟨hn, hv⟩ := hI.relNew hr
  exact {
    slots := fun j => by
      show RelS _ w j (slot ((d, nrm k (slot st.sl t)) :: dnAll ts st.sl) j) _
      rw [slot_put, tmps_put a d _ hd]
      split
      · rename_i e; subst e
        refine nrm_rel (RelS.ev he (k := t) (k' := d) (fun j i b hb => ⟨rfl, rfl, ?_⟩) (fun _ _ _ _ _ h => h) (hI.slots t))
        simp [Gh.rel, hb, mvR]
      · rw [slot_dnAll]
        split
        · exact RelS.ro he (k := j) j (fun _ _ _ _ _ h => h) (hI.slots j)
        · rename_i hne
          refine RelS.ev he (k := j) (k' := j) (fun j' i b hb => ⟨rfl, rfl, ?_⟩) (fun _ _ _ _ _ h => h) (hI.slots j)
          have : j ≠ t := by rintro rfl; exact hne hts
          simp [Gh.rel, hb, mvR, this]
    boxes := fun j g cs h => by
      obtain ⟨blk, h1, h2, h3⟩ := hI.boxes j g cs h
      exact ⟨blk, h1, by simp [Gh.rel, h2, mvR], h3.ev he rfl fun i b hb => ⟨rfl, rfl, by simp [Gh.rel, hb, mvR]⟩⟩
    heap := fun j g cs h => by
      obtain ⟨blk, h1, h2, h3⟩ := hI.heap j g cs h
      exact ⟨blk, h1, by simp [Gh.rel, h2, mvR], h3.ev he rfl fun i b hb => ⟨rfl, rfl, by simp [Gh.rel, hb, mvR]⟩⟩
    next := hI.next
    hlt := hI.hlt
    new := hn
    vars := hv
    lps := fun i j g off h => by
      have h' : slot ((d, nrm k (slot st.sl t)) :: dnAll ts st.sl) i = .lp j g off := h
      rw [slot_put] at h'
      split at h'
      · exact hI.lps t j g off (nrm_lp.mp h')
      · rw [slot_dnAll] at h'
        split at h'
        · exact hI.lps i j g off (ro_lp.mp h')
        · exact hI.lps i j g off h' }
theorem num_tok {x : Operand} (hx : ∀ t, x ≠ .tmp t) (hI : Inv G w st a.tmps) (k : Nat) : RelS G w k (evS st.sl x) (a.eval x) := by
  have h := evR hI x
  cases x with
  | tmp t => exact absurd rfl (hx t)
  | const v =>
    revert h
    simp only [evS, num, Act.eval]
    split
    · split
      · rintro ⟨vs, h1, h2, h3⟩
        refine ⟨vs, h1, h2, fun i x c hx hc => ?_⟩
        have := h3 i x c hx hc
        obtain ⟨y, hy, rfl⟩ := list_map_get _ _ _ _ hx
        exact this
      · exact id
    · exact id
    · exact id
  | global g => trivial
  | func f => exact RelR.fn f [] [] rfl (by intro k x c hx; simp at hx)
theorem evS_lp {sl : Slots} {x : Operand} {k g off : Nat} (h : evS sl x = .lp k g off) : ∃ t, x = .tmp t ∧ slot sl t = .lp k g off := by
  cases x with
  | tmp t => exact ⟨t, rfl, h⟩
  | const v =>
    simp only [evS] at h
    split at h
    · split at h <;> cases h
    · cases h
    · cases h
  | global g => cases h
  | func f => cases h
theorem lp_ok (hI : Inv G w st a.tmps) {x : Operand} {k g off : Nat} (h : evS st.sl x = .lp k g off) : ∃ g' cs, getB st.bx k = some (g', cs) ∧ g ≤ g' := by
  obtain ⟨t, rfl, ht⟩ := evS_lp h
  exact hI.lps t k g off ht
/-- A slot's content, handed on (op: move, assign). -/
theorem aft_hand (hI : Inv G w st a.tmps) (x : Operand) (k : TK) (h : Nat) (ho : dnOp h o st.sl = dnAll (tmpsOf [x]) st.sl) (hd : ∀ k, o.dst = some k → k < a.tmps.size) :
    Aft G w a (after h o st (nrm k (evS st.sl x)) none st.hp) (a.put o.dst (a.eval x)) w := by
  unfold after
  rw [ho]
  cases hdst : o.dst with
  | none => exact ⟨G, hI.dn _, Fr.refl G w, rfl, rfl⟩
  | some d =>
    by_cases hx : ∃ t, x = .tmp t
    · obtain ⟨t, rfl⟩ := hx
      exact aft_move hI t d k (hd d hdst) _ (by simp [tmpsOf])
    · have hx' : ∀ t, x ≠ .tmp t := fun t e => hx ⟨t, e⟩
      have hto : tmpsOf [x] = [] := by cases x <;> first | rfl | exact absurd rfl (hx' _)
      rw [hto]
      refine ⟨G, ?_, Fr.refl G w, put_size _ _ _, put_defers _ _ _⟩
      exact hI.put (some d) (fun k hk => by cases hk; exact hd d hdst) (fun k _ => nrm_rel (num_tok hx' hI k)) (fun j g off e => lp_ok hI (nrm_lp.mp e))
end
end Go.Proofs.Ytmnefpfbgadnkaa.AI
