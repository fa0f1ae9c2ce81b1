/- Operations that make or write memory. -/
import Derived.Test.YtmnefpfbgadnkaaOpG
import Derived.Laws.BytesString
namespace Go.Proofs.Ytmnefpfbgadnkaa.AI
open Go
set_option linter.unusedVariables false
set_option linter.unusedSimpArgs false

/-- A world with one block more. -/
structure New (w w' : World) (o : Obj) : Prop where
  heap : w'.heap = w.heap.push o
  rest : Rest w w'
theorem New.old {w w' : World} {o : Obj} (h : New w w' o) {b : Nat} (hb : b < w.heap.size) : w'.heap[b]? = w.heap[b]? := by
  rw [h.heap, Array.getElem?_push, if_neg (by omega)]
theorem New.at {w w' : World} {o : Obj} (h : New w w' o) : w'.heap[w.heap.size]? = some o := by
  rw [h.heap]; simp
theorem New.size {w w' : World} {o : Obj} (h : New w w' o) : w'.heap.size = w.heap.size + 1 := by
  rw [h.heap]; simp
theorem cell_of_same {w w' : World} {b : Nat} (h : w'.heap[b]? = w.heap[b]?) (i : Nat) : w'.cell? ⟨b, i, none⟩ = w.cell? ⟨b, i, none⟩ := by
  simp [World.cell?, h]
/-- The ghost with a new block's owner. -/
def Gh.add (G : Gh) (b : Nat) (L : Ow) (n : Nat) (mu la : Nat → Nat → Option Nat) : Gh :=
  ⟨fun x => if x = b then L else G.Om x, fun x => if x = b then n else G.I x, mu, la⟩

section
variable {c : Cx} {G : Gh} {w w' : World} {st : St} {a : Act} {o : Oper} {Q : Exit → Act → World → Prop}
theorem Fr.new (hI : Inv G w st a.tmps) {ob : Obj} (hw : New w w' ob) (L : Ow) (n : Nat) {mu la : Nat → Nat → Option Nat} (hmu : ∀ b g x, G.mu b g = some x → mu b g = some x) :
    Fr G w (G.add w.heap.size L n mu la) w' where
  size := by rw [hw.size]; omega
  cells b i hi := by
    have hb : b < w.heap.size := by
      rcases Nat.lt_or_ge b w.heap.size with h | h
      · exact h
      · rw [(hI.new b h).2] at hi; omega
    exact cell_of_same (hw.old hb) i
  imm b := by
    simp only [Gh.add]
    split
    · rename_i e; subst e; rw [(hI.new _ (Nat.le_refl _)).2]; omega
    · exact Nat.le_refl _
  mu := hmu
  same b hb _ := ⟨hw.old hb, by simp [Gh.add, Nat.ne_of_lt hb], by simp [Gh.add, Nat.ne_of_lt hb]⟩
  rest := hw.rest
theorem keeps_new (hI : Inv G w st a.tmps) {ob : Obj} (hw : New w w' ob) (L : Ow) (n : Nat) (mu la : Nat → Nat → Option Nat) {p : Ow} (hp : p ≠ .fr) :
    Keeps G w (G.add w.heap.size L n mu la) w' p p := by
  intro b hb
  have hlt : b < w.heap.size := by
    rcases Nat.lt_or_ge b w.heap.size with h | h
    · exact h
    · rw [(hI.new b h).1] at hb; exact absurd hb.symm hp
  exact ⟨hw.old hlt, by simp [Gh.add, Nat.ne_of_lt hlt], by simp [Gh.add, Nat.ne_of_lt hlt, hb]⟩
/-- All that stood stands beside a new block. -/
theorem Inv.beside (hI : Inv G w st a.tmps) {ob : Obj} (hw : New w w' ob) (L : Ow) (n : Nat) (hL : (∃ k g, L = .box k g) ∨ (∃ k g, L = .obj k g) → n = 0) :
    Inv (G.add w.heap.size L n G.mu G.la) w' st a.tmps := by
  have hf := Fr.new hI hw L n (mu := G.mu) (la := G.la) (fun _ _ _ h => h)
  have hk := fun {p : Ow} (hp : p ≠ .fr) => keeps_new hI hw L n G.mu G.la hp
  have hlt : ∀ b p, G.Om b = p → p ≠ .fr → b < w.heap.size := by
    intro b p hb hp
    rcases Nat.lt_or_ge b w.heap.size with h | h
    · exact h
    · rw [(hI.new b h).1] at hb; exact absurd hb.symm hp
  exact {
    slots := fun k => RelS.ev hf.ev (fun j i => hk (by simp)) (fun _ _ _ _ _ h => h) (hI.slots k)
    boxes := fun k g cs h => by
      obtain ⟨blk, h1, h2, h3⟩ := hI.boxes k g cs h
      have hb := hlt blk _ h2 (by simp)
      exact ⟨blk, h1, by simp [Gh.add, Nat.ne_of_lt hb, h2], h3.ev hf.ev (hw.old hb) fun i => hk (by simp)⟩
    heap := fun k g cs h => by
      obtain ⟨blk, h1, h2, h3⟩ := hI.heap k g cs h
      have hb := hlt blk _ h2 (by simp)
      exact ⟨blk, h1, by simp [Gh.add, Nat.ne_of_lt hb, h2], h3.ev hf.ev (hw.old hb) fun i => hk (by simp)⟩
    next := hI.next
    hlt := hI.hlt
    new := fun b hb => by
      rw [hw.size] at hb
      have hne : b ≠ w.heap.size := by omega
      simp only [Gh.add, hne, if_false]
      exact hI.new b (by omega)
    vars := fun b hb => by
      by_cases e : b = w.heap.size
      · simp only [Gh.add, e, if_true] at hb ⊢
        exact hL hb
      · simp only [Gh.add, e, if_false] at hb ⊢
        exact hI.vars b hb
    lps := hI.lps }
/-- A new box. -/
theorem aft_box (hI : Inv G w st a.tmps) (h : Nat) (ho : dnOp h o st.sl = st.sl) {d g : Nat} (hdst : o.dst = some d) (hd : d < a.tmps.size) {cs : List AV} {arr : Array Value} {e : TypeId}
    (hw : New w w' (.cells arr e (0, 0))) (hlen : arr.size = cs.length) (hrel : ∀ (i : Nat) (x : AV) (u : Value), cs[i]? = some x → arr[i]? = some u → RelR G w x u)
    (hg : g = match getB st.bx d with | some (g', _) => g' + 1 | none => 0) :
    Aft G w a (after h o st (.lp d g 0) (some (d, g, cs)) st.hp) (a.put o.dst (.pointer (some ⟨w.heap.size, 0, none⟩))) w' := by
  let la : Nat → Nat → Option Nat := fun k g' => if k = d ∧ g' = g then some w.heap.size else G.la k g'
  let G' := G.add w.heap.size (.box d g) 0 G.mu la
  have hf : Fr G w G' w' := Fr.new hI hw (.box d g) 0 (fun _ _ _ h => h)
  have hk := fun {p : Ow} (hp : p ≠ .fr) => keeps_new hI hw (.box d g) 0 G.mu la hp
  have hlt : ∀ b p, G.Om b = p → p ≠ .fr → b < w.heap.size := by
    intro b p hb hp
    rcases Nat.lt_or_ge b w.heap.size with h | h
    · exact h
    · rw [(hI.new b h).1] at hb; exact absurd hb.symm hp
  have hlp : ∀ j k g' off, slot st.sl j = .lp k g' off → ¬ (k = d ∧ g' = g) := by
    rintro j k g' off hs ⟨rfl, rfl⟩
    obtain ⟨g'', cs', h1, h2⟩ := hI.lps j k g' off hs
    rw [h1] at hg
    simp only at hg
    omega
  refine ⟨G', ?_, hf, put_size _ _ _, put_defers _ _ _⟩
  unfold after
  rw [ho, hdst]
  exact {
    slots := fun k => by
      show RelS G' w' k (slot ((d, .lp d g 0) :: st.sl) k) _
      rw [slot_put, tmps_put a d _ hd]
      split
      · exact ⟨w.heap.size, by simp [G', la, Gh.add], rfl⟩
      · refine RelS.ev hf.ev (fun j i => hk (by simp)) (fun k' g' off x hs hx => ?_) (hI.slots k)
        have := hlp k k' g' off hs
        simp [G', la, Gh.add, this, hx]
    boxes := fun k g' cs' hb => by
      have hb' : getB (setB st.bx d g cs) k = some (g', cs') := hb
      rw [getB_put] at hb'
      split at hb'
      · rename_i e; subst e
        cases hb'
        refine ⟨w.heap.size, by simp [G', la, Gh.add], by simp [G', Gh.add], arr, e, hw.at, hlen, fun i x u hx hu => ?_⟩
        exact ((hrel i x u hx hu).ev hf.ev).c _
      · rename_i hne
        obtain ⟨blk, h1, h2, h3⟩ := hI.boxes k g' cs' hb'
        have hbl := hlt blk _ h2 (by simp)
        have hne' : ¬ (k = d ∧ g' = g) := fun e => hne e.1.symm
        exact ⟨blk, by simp [G', la, Gh.add, hne', h1], by simp [G', Gh.add, Nat.ne_of_lt hbl, h2], h3.ev hf.ev (hw.old hbl) fun i => hk (by simp)⟩
    heap := fun k g' cs' hb => by
      obtain ⟨blk, h1, h2, h3⟩ := hI.heap k g' cs' hb
      have hbl := hlt blk _ h2 (by simp)
      exact ⟨blk, h1, by simp [G', Gh.add, Nat.ne_of_lt hbl, h2], h3.ev hf.ev (hw.old hbl) fun i => hk (by simp)⟩
    next := hI.next
    hlt := hI.hlt
    new := fun b hb => by
      rw [hw.size] at hb
      have hne : b ≠ w.heap.size := by omega
      simp only [G', Gh.add, hne, if_false]
      exact hI.new b (by omega)
    vars := fun b hb => by
      by_cases e : b = w.heap.size
      · simp [G', Gh.add, e]
      · simp only [G', Gh.add, e, if_false] at hb ⊢
        exact hI.vars b hb
    lps := fun j k g' off hs => by
      have hs' : slot ((d, .lp d g 0) :: st.sl) j = .lp k g' off := hs
      show ∃ g'' cs', getB (setB st.bx d g cs) k = some (g'', cs') ∧ g' ≤ g''
      rw [slot_put] at hs'
      rw [getB_put]
      split at hs'
      · cases hs'
        exact ⟨g, cs, by simp, Nat.le_refl _⟩
      · obtain ⟨g'', cs', h1, h2⟩ := hI.lps j k g' off hs'
        split
        · rename_i e; subst e
          rw [h1] at hg
          exact ⟨g, cs, rfl, by simp only at hg; omega⟩
        · exact ⟨g'', cs', h1, h2⟩ }
end
end Go.Proofs.Ytmnefpfbgadnkaa.AI
