/- Small laws on the relation: reading alone, slots, new names of owners. -/
import Derived.Test.YtmnefpfbgadnkaaRel
namespace Go.Proofs.Ytmnefpfbgadnkaa.AI
open Go
set_option linter.unusedVariables false
set_option linter.unusedSimpArgs false

theorem cell_of_heap {w : World} {b : Nat} {arr : Array Value} {e : TypeId} {fz : Nat × Nat} (h : w.heap[b]? = some (.cells arr e fz)) (i : Nat) : w.cell? ⟨b, i, none⟩ = arr[i]? := by
  simp [World.cell?, h]
theorem list_map_get {α β : Type} (f : α → β) (l : List α) (i : Nat) (y : β) (h : (l.map f)[i]? = some y) : ∃ x, l[i]? = some x ∧ f x = y := by
  rw [List.getElem?_map] at h
  cases hx : l[i]? with
  | none => rw [hx] at h; cases h
  | some x => rw [hx] at h; cases h; exact ⟨x, rfl, rfl⟩
theorem get_of_len {α β : Type} {l : List α} {m : List β} (h : l.length = m.length) {i : Nat} {x : α} (hx : l[i]? = some x) : ∃ y, m[i]? = some y := by
  have : i < m.length := by rw [← h]; exact (List.getElem?_eq_some_iff.mp hx).1
  exact ⟨m[i], List.getElem?_eq_getElem this⟩

/-- Owned or not: a slice may be read. -/
theorem TokR.ro {G : Gh} {w : World} {sz : Nat} {cs : List AV} {v : Value} {b : Nat} (h : TokR G w sz cs v b) : RelR G w (.sl sz cs) v := by
  obtain ⟨n, cap, arr, e, rfl, h2, h3, h4, h5, h6, h7, h9⟩ := h.ex
  by_cases hn : n = 0
  · subst hn
    have : cs = [] := List.length_eq_zero_iff.mp (by simpa using h3)
    subst this
    exact .sl0 sz _ cap h2
  · have hle : cs.length ≤ arr.size := by rw [h3, h7]; exact Nat.mul_le_mul_right sz h4
    refine .sl sz cs n cap b 0 (arr.toList.take cs.length) h2 (by omega) h3 h4 (by omega) (by simp; omega) (fun k c hk => ?_) (fun k x c hx hc => ?_)
    · rw [Nat.zero_add, cell_of_heap h6]
      rw [List.getElem?_take] at hk
      split at hk
      · simpa using hk
      · cases hk
    · obtain ⟨c', hc', hr⟩ := h9 k x hx
      rw [List.getElem?_take] at hc
      split at hc
      · have : arr[k]? = some c := by simpa using hc
        rw [this] at hc'; cases hc'; exact hr
      · cases hc
theorem RelC.ro {G : Gh} {w : World} {p : Ow} {x : AV} {v : Value} (h : RelC G w p x v) : RelR G w (ro1 x) v := by
  cases x with
  | us sz cs => obtain ⟨b, _, ht⟩ := h; exact ht.ro
  | agg _ => exact h.elim
  | tup _ => exact h.elim
  | sc _ => exact h
  | sl _ _ => exact h
  | ptr _ _ _ => exact h
  | ms _ _ _ _ => exact h
  | fn _ _ => exact h
  | map _ => exact h
theorem RelR.c {G : Gh} {w : World} {x : AV} {v : Value} (h : RelR G w x v) (p : Ow) : RelC G w p x v := by
  cases h with
  | sc v h => exact .sc v h
  | sl0 sz a cap h => exact .sl0 sz a cap h
  | sl sz cs n cap b o vs h1 h2 h3 h4 h5 h6 h7 h8 => exact RelR.sl sz cs n cap b o vs h1 h2 h3 h4 h5 h6 h7 h8
  | ptr b g off blk h => exact RelR.ptr b g off blk h
  | ms b g off n cap blk off' h h' h'' => exact RelR.ms b g off n cap blk off' h h' h''
  | fn f caps vs h h' => exact RelR.fn f caps vs h h'
  | map b blk h => exact RelR.map b blk h
theorem ro1_of_r {G : Gh} {w : World} {x : AV} {v : Value} (h : RelR G w x v) : ro1 x = x := by cases h <;> rfl
theorem RelR.ne_agg {G : Gh} {w : World} {x : AV} {v : Value} (h : RelR G w x v) : ∀ cs, x ≠ .agg cs := by cases h <;> intro cs h <;> cases h
theorem RelC.ne_agg {G : Gh} {w : World} {p : Ow} {x : AV} {v : Value} (h : RelC G w p x v) : ∀ cs, x ≠ .agg cs := by
  rintro cs rfl; exact h
theorem ro_of_ne {x : AV} (hx : ∀ cs, x ≠ .agg cs) : ro x = ro1 x := by
  cases x <;> first | rfl | exact absurd rfl (hx _)
theorem ro1_ne {x : AV} (hx : ∀ cs, x ≠ .agg cs) : ∀ cs, ro1 x ≠ .agg cs := by
  cases x <;> intro cs h <;> first | exact absurd rfl (hx _) | cases h
theorem RelC.v {G : Gh} {w : World} {p : Nat → Ow} {x : AV} {v : Value} (h : RelC G w (p 0) x v) : RelV G w p x v := by
  rw [relV_c h.ne_agg]; exact h
theorem RelV.ro {G G' : Gh} {w w' : World} (he : Ev G w G' w') {p : Nat → Ow} (q : Nat → Ow) {x : AV} {v : Value} (h : RelV G w p x v) : RelV G' w' q (AI.ro x) v := by
  rcases agg_or x with ⟨cs, rfl⟩ | hx
  · obtain ⟨vs, h1, h2, h3⟩ := h
    refine ⟨vs, h1, by simpa using h2, fun i x c hx hc => ?_⟩
    obtain ⟨y, hy, rfl⟩ := list_map_get _ _ _ _ hx
    exact ((h3 i y c hy hc).ro.ev he).c _
  · rw [relV_c hx] at h
    rw [ro_of_ne hx]
    exact ((h.ro.ev he).c (q 0)).v
theorem RelS.ro {G G' : Gh} {w w' : World} (he : Ev G w G' w') {k : Nat} (k' : Nat) {s : SV} {v : Value}
    (hl : ∀ a g off x, s = .lp a g off → G.la a g = some x → G'.la a g = some x) (h : RelS G w k s v) : RelS G' w' k' s.ro v := by
  cases s with
  | sv u => exact h
  | av x => exact RelV.ro he _ h
  | tp l =>
    obtain ⟨vs, h1, h2, h3⟩ := h
    refine ⟨vs, h1, by simpa using h2, fun j x c hx hc => ?_⟩
    obtain ⟨y, hy, rfl⟩ := list_map_get _ _ _ _ hx
    exact (h3 j y c hy hc).ro he _
  | lp a g off =>
    obtain ⟨blk, h1, h2⟩ := h
    exact ⟨blk, hl a g off blk rfl h1, h2⟩
  | rv cs =>
    obtain ⟨b, o, vs, h1, h2, h3, h4, h5⟩ := h
    refine ⟨b, o, vs, h1, h2, fun i hi => Nat.lt_of_lt_of_le (h3 i hi) (he.imm b), fun k c hk => ?_, fun k x c hx hc => (h5 k x c hx hc).ev he⟩
    have hlt : k < vs.length := (List.getElem?_eq_some_iff.mp hk).1
    rw [he.cells b (o + k) (h3 k (by omega))]
    exact h4 k c hk
  | un => trivial
  | ud => exact h

/-! ### slots -/
theorem slot_put (l : Slots) (d : Nat) (s : SV) (k : Nat) : slot ((d, s) :: l) k = if d = k then s else slot l k := by
  simp only [slot]
  by_cases e : d = k
  · subst e; simp [beq_self]
  · simp [beq_ne e, e]
theorem getB_put (l : Boxes) (d g : Nat) (cs : List AV) (k : Nat) : getB (setB l d g cs) k = if d = k then some (g, cs) else getB l k := by
  simp only [setB, getB]
  by_cases e : d = k
  · subst e; simp [beq_self]
  · simp [beq_ne e, e]
theorem tmps_put (a : Act) (d : Nat) (v : Value) (hd : d < a.tmps.size) (k : Nat) : ((a.put (some d) v).tmps).getD k undef = if d = k then v else a.tmps.getD k undef := by
  simp only [Act.put]
  by_cases e : d = k
  · subst e
    simp [Array.getD, hd]
  · simp only [Array.getD_eq_getD_getElem?, e, if_false]
    rw [Array.getElem?_setIfInBounds_ne e]
theorem put_size (a : Act) (d : Option Nat) (v : Value) : (a.put d v).tmps.size = a.tmps.size := by
  cases d <;> simp [Act.put]
theorem put_defers (a : Act) (d : Option Nat) (v : Value) : (a.put d v).defers = a.defers := by
  cases d <;> rfl
/-- Lowered slots: each is as it was, or may be read alone. -/
theorem slot_dn (t : Nat) (l : Slots) (k : Nat) : slot (dn t l) k = if t = k then (slot l k).ro else slot l k := by
  unfold dn
  rw [slot_put]
  by_cases e : t = k
  · subst e; simp
  · simp [e]
theorem ro1_ro1 (x : AV) : ro1 (ro1 x) = ro1 x := by cases x <;> rfl
theorem ro_ro (x : AV) : ro (ro x) = ro x := by
  cases x with
  | agg cs => simp [ro, List.map_map, Function.comp_def, ro1_ro1]
  | _ => rfl
theorem SV.ro_ro (s : SV) : s.ro.ro = s.ro := by
  cases s with
  | av x => simp [SV.ro, AI.ro_ro]
  | tp l => simp [SV.ro, List.map_map, Function.comp_def, AI.ro_ro]
  | _ => rfl
theorem slot_dnAll (ts : List Nat) : ∀ (l : Slots) (k : Nat), slot (dnAll ts l) k = if k ∈ ts then (slot l k).ro else slot l k := by
  induction ts with
  | nil => intro l k; simp [dnAll]
  | cons t ts ih =>
    intro l k
    have : dnAll (t :: ts) l = dnAll ts (dn t l) := rfl
    rw [this, ih, slot_dn]
    by_cases h1 : t = k
    · subst h1
      by_cases h2 : t ∈ ts <;> simp [h2, SV.ro_ro]
    · have h1' : ¬ k = t := fun h => h1 h.symm
      by_cases h2 : k ∈ ts <;> simp [h1, h1', h2]
theorem ro_lp {s : SV} {k g off : Nat} : s.ro = .lp k g off ↔ s = .lp k g off := by
  cases s <;> simp [SV.ro]

/-! ### new names of owners -/
def Gh.rel (G : Gh) (f : Ow → Ow) : Gh := { G with Om := fun b => f (G.Om b) }
structure Rho (f : Ow → Ow) : Prop where
  fr : f .fr = .fr
  oth : f .oth = .oth
  box : ∀ p k g, f p = .box k g → p = .box k g
  obj : ∀ p k g, f p = .obj k g → p = .obj k g
theorem Fr.rel {G : Gh} {w : World} {f : Ow → Ow} (hf : Rho f) : Fr G w (G.rel f) w :=
  ⟨Nat.le_refl _, fun _ _ _ => rfl, fun _ => Nat.le_refl _, fun _ _ _ h => h, fun b _ ho => ⟨rfl, by
    simp only [Gh.rel]
    rcases ho with h | h <;> rw [h]
    · exact hf.fr
    · exact hf.oth, rfl⟩, Rest.refl w⟩
theorem keeps_rel (G : Gh) (w : World) (f : Ow → Ow) (p : Ow) : Keeps G w (G.rel f) w p (f p) := fun b hb => ⟨rfl, rfl, by simp [Gh.rel, hb]⟩
end Go.Proofs.Ytmnefpfbgadnkaa.AI
