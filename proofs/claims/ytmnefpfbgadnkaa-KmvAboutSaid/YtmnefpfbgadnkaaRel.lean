/- How an abstract state stands for slots and memory: the relation, and what keeps it. -/
import Derived.Test.YtmnefpfbgadnkaaRun
namespace Go.Proofs.Ytmnefpfbgadnkaa.AI
open Go
set_option linter.unusedVariables false
set_option linter.unusedSimpArgs false

/-- Whose a block is. -/
inductive Ow where
  | fr | oth
  | box (k g : Nat)
  | obj (b g : Nat)
  | sl (k j i : Nat)
  | bc (k g i : Nat)
  | oc (b g i : Nat)

structure Gh where
  Om : Nat → Ow
  I : Nat → Nat
  mu : Nat → Nat → Option Nat
  la : Nat → Nat → Option Nat

/-- A value of one cell that may be read alone. -/
inductive RelR (G : Gh) (w : World) : AV → Value → Prop where
  | sc (v : Value) : v.oneCell' = true → RelR G w (.sc v) v
  | sl0 (sz : Nat) (a : Addr) (cap : Nat) : 0 < sz → RelR G w (.sl sz []) (.slice (some a) 0 cap)
  | sl (sz : Nat) (cs : List AV) (n cap b o : Nat) (vs : List Value) : 0 < sz → 0 < n → cs.length = n * sz → n ≤ cap → o + n * sz ≤ G.I b → vs.length = cs.length →
      (∀ k c, vs[k]? = some c → w.cell? ⟨b, o + k, none⟩ = some c) → (∀ (k : Nat) (x : AV) (c : Value), cs[k]? = some x → vs[k]? = some c → RelR G w x c) →
      RelR G w (.sl sz cs) (.slice (some ⟨b, o, none⟩) n cap)
  | ptr (b g off blk : Nat) : G.mu b g = some blk → RelR G w (.ptr b g off) (.pointer (some ⟨blk, off, none⟩))
  | ms (b g off n cap blk off' : Nat) : G.mu b g = some blk → n ≤ cap → (0 < n → off' = off) → RelR G w (.ms b g off n) (.slice (some ⟨blk, off', none⟩) n cap)
  | fn (f : FuncId) (caps : List AV) (vs : List Value) : caps.length = vs.length →
      (∀ (k : Nat) (x : AV) (c : Value), caps[k]? = some x → vs[k]? = some c → RelR G w x c) → RelR G w (.fn f caps) (.func (.func f) #[] vs.toArray)
  | map (b blk : Nat) : G.mu b 0 = some blk → RelR G w (.map b) (.map (some blk))

/-- An owned slice: a block of its own. -/
structure TokR (G : Gh) (w : World) (sz : Nat) (cs : List AV) (v : Value) (b : Nat) : Prop where
  ex : ∃ n cap arr e, v = .slice (some ⟨b, 0, none⟩) n cap ∧ 0 < sz ∧ cs.length = n * sz ∧ n ≤ cap ∧ G.I b = n * sz ∧
    w.heap[b]? = some (.cells arr e (0, 0)) ∧ arr.size = cap * sz ∧ ∀ (k : Nat) (x : AV), cs[k]? = some x → ∃ c, arr[k]? = some c ∧ RelR G w x c

def RelC (G : Gh) (w : World) (p : Ow) (x : AV) (v : Value) : Prop :=
  match x with
  | .us sz cs => ∃ b, G.Om b = p ∧ TokR G w sz cs v b
  | .agg _ => False
  | .tup _ => False
  | x => RelR G w x v
def RelV (G : Gh) (w : World) (p : Nat → Ow) (x : AV) (v : Value) : Prop :=
  match x with
  | .agg cs => ∃ vs : List Value, v = .agg vs.toArray ∧ cs.length = vs.length ∧ ∀ (i : Nat) (x : AV) (c : Value), cs[i]? = some x → vs[i]? = some c → RelC G w (p i) x c
  | x => RelC G w (p 0) x v
def RelS (G : Gh) (w : World) (k : Nat) (s : SV) (v : Value) : Prop :=
  match s with
  | .sv u => v = u ∧ u.oneCell' = true
  | .av x => RelV G w (.sl k 0 ·) x v
  | .tp l => ∃ vs : List Value, v = .tuple vs.toArray ∧ l.length = vs.length ∧ ∀ (j : Nat) (x : AV) (c : Value), l[j]? = some x → vs[j]? = some c → RelV G w (.sl k j ·) x c
  | .lp k' g off => ∃ blk, G.la k' g = some blk ∧ v = .pointer (some ⟨blk, off, none⟩)
  | .rv cs => ∃ (b o : Nat) (vs : List Value), v = .pointer (some ⟨b, o, none⟩) ∧ vs.length = cs.length ∧ (∀ i, i < cs.length → o + i < G.I b) ∧
      (∀ (k : Nat) (c : Value), vs[k]? = some c → w.cell? ⟨b, o + k, none⟩ = some c) ∧ ∀ (k : Nat) (x : AV) (c : Value), cs[k]? = some x → vs[k]? = some c → RelR G w x c
  | .un => True
  | .ud => v = undef
/-- A block of variables. -/
def CellsR (G : Gh) (w : World) (blk : Nat) (p : Nat → Ow) (cs : List AV) : Prop :=
  ∃ arr e, w.heap[blk]? = some (.cells arr e (0, 0)) ∧ arr.size = cs.length ∧ ∀ (i : Nat) (x : AV) (c : Value), cs[i]? = some x → arr[i]? = some c → RelC G w (p i) x c

structure Inv (G : Gh) (w : World) (st : St) (tmps : Array Value) : Prop where
  slots : ∀ k, RelS G w k (slot st.sl k) (tmps.getD k undef)
  boxes : ∀ k g cs, getB st.bx k = some (g, cs) → ∃ blk, G.la k g = some blk ∧ G.Om blk = .box k g ∧ CellsR G w blk (.bc k g ·) cs
  heap : ∀ b g cs, st.hp.get b = some (g, cs) → ∃ blk, G.mu b g = some blk ∧ G.Om blk = .obj b g ∧ CellsR G w blk (.oc b g ·) cs
  next : ∀ b g, st.hp.next ≤ b → G.mu b g = none
  hlt : ∀ b g cs, st.hp.get b = some (g, cs) → b < st.hp.next
  new : ∀ b, w.heap.size ≤ b → G.Om b = .fr ∧ G.I b = 0
  vars : ∀ b, (∃ k g, G.Om b = .box k g) ∨ (∃ k g, G.Om b = .obj k g) → G.I b = 0
  lps : ∀ j k g off, slot st.sl j = .lp k g off → ∃ g' cs, getB st.bx k = some (g', cs) ∧ g ≤ g'

/-- What no operation turns. -/
def Rest (w w' : World) : Prop := w'.os = w.os ∧ w'.tape = w.tape ∧ w'.output = w.output
theorem Rest.refl (w : World) : Rest w w := ⟨rfl, rfl, rfl⟩
theorem Rest.trans {w w' w'' : World} (h : Rest w w') (h' : Rest w' w'') : Rest w w'' := ⟨h'.1.trans h.1, h'.2.1.trans h.2.1, h'.2.2.trans h.2.2⟩
/-- What is left as it was, from one moment to a later one. -/
structure Fr (G : Gh) (w : World) (G' : Gh) (w' : World) : Prop where
  size : w.heap.size ≤ w'.heap.size
  cells : ∀ b i, i < G.I b → w'.cell? ⟨b, i, none⟩ = w.cell? ⟨b, i, none⟩
  imm : ∀ b, G.I b ≤ G'.I b
  mu : ∀ b g x, G.mu b g = some x → G'.mu b g = some x
  same : ∀ b, b < w.heap.size → G.Om b = .fr ∨ G.Om b = .oth → w'.heap[b]? = w.heap[b]? ∧ G'.Om b = G.Om b ∧ G'.I b = G.I b
  rest : Rest w w'

theorem Fr.refl (G : Gh) (w : World) : Fr G w G w := ⟨Nat.le_refl _, fun _ _ _ => rfl, fun _ => Nat.le_refl _, fun _ _ _ h => h, fun _ _ _ => ⟨rfl, rfl, rfl⟩, Rest.refl w⟩
theorem Fr.trans {G G' G'' : Gh} {w w' w'' : World} (h : Fr G w G' w') (h' : Fr G' w' G'' w'') : Fr G w G'' w'' := by
  refine ⟨Nat.le_trans h.size h'.size, fun b i hi => ?_, fun b => Nat.le_trans (h.imm b) (h'.imm b), fun b g x hx => h'.mu b g x (h.mu b g x hx), fun b hb ho => ?_, h.rest.trans h'.rest⟩
  · rw [h'.cells b i (Nat.lt_of_lt_of_le hi (h.imm b)), h.cells b i hi]
  · obtain ⟨a1, a2, a3⟩ := h.same b hb ho
    obtain ⟨b1, b2, b3⟩ := h'.same b (Nat.lt_of_lt_of_le hb h.size) (by rw [a2]; exact ho)
    exact ⟨b1.trans a1, b2.trans a2, b3.trans a3⟩

/-- What 'Fr' says of memory that is read alone. -/
structure Ev (G : Gh) (w : World) (G' : Gh) (w' : World) : Prop where
  cells : ∀ b i, i < G.I b → w'.cell? ⟨b, i, none⟩ = w.cell? ⟨b, i, none⟩
  imm : ∀ b, G.I b ≤ G'.I b
  mu : ∀ b g x, G.mu b g = some x → G'.mu b g = some x
theorem Fr.ev {G G' : Gh} {w w' : World} (h : Fr G w G' w') : Ev G w G' w' := ⟨h.cells, h.imm, h.mu⟩
theorem Ev.refl (G : Gh) (w : World) : Ev G w G w := (Fr.refl G w).ev

theorem RelR.ev {G G' : Gh} {w w' : World} (he : Ev G w G' w') {x : AV} {v : Value} (h : RelR G w x v) : RelR G' w' x v := by
  induction h with
  | sc v h => exact .sc v h
  | sl0 sz a cap h => exact .sl0 sz a cap h
  | sl sz cs n cap b o vs h1 h2 h3 h4 h5 h6 h7 _ ih =>
    refine .sl sz cs n cap b o vs h1 h2 h3 h4 (Nat.le_trans h5 (he.imm b)) h6 (fun k c hk => ?_) ih
    have hlt : k < vs.length := (List.getElem?_eq_some_iff.mp hk).1
    rw [he.cells b (o + k) (by omega)]
    exact h7 k c hk
  | ptr b g off blk h => exact .ptr b g off blk (he.mu _ _ _ h)
  | ms b g off n cap blk off' h h' h'' => exact .ms b g off n cap blk off' (he.mu _ _ _ h) h' h''
  | fn f caps vs h _ ih => exact .fn f caps vs h ih
  | map b blk h => exact .map b blk (he.mu _ _ _ h)
theorem TokR.ev {G G' : Gh} {w w' : World} (he : Ev G w G' w') {sz : Nat} {cs : List AV} {v : Value} {b : Nat} (hb : w'.heap[b]? = w.heap[b]?) (hi : G'.I b = G.I b)
    (h : TokR G w sz cs v b) : TokR G' w' sz cs v b := by
  obtain ⟨n, cap, arr, e, h1, h2, h3, h4, h5, h6, h7, h9⟩ := h.ex
  refine ⟨n, cap, arr, e, h1, h2, h3, h4, hi.trans h5, hb.trans h6, h7, fun k x hk => ?_⟩
  obtain ⟨c, hc, hr⟩ := h9 k x hk
  exact ⟨c, hc, hr.ev he⟩

/-- Whatever bears the name p stays, and bears the name q. -/
def Keeps (G : Gh) (w : World) (G' : Gh) (w' : World) (p q : Ow) : Prop := ∀ b, G.Om b = p → w'.heap[b]? = w.heap[b]? ∧ G'.I b = G.I b ∧ G'.Om b = q
theorem RelC.ev {G G' : Gh} {w w' : World} (he : Ev G w G' w') {p q : Ow} (hk : Keeps G w G' w' p q) {x : AV} {v : Value} (h : RelC G w p x v) : RelC G' w' q x v := by
  cases x with
  | us sz cs =>
    obtain ⟨b, hb, ht⟩ := h
    obtain ⟨h1, h2, h3⟩ := hk b hb
    exact ⟨b, h3, ht.ev he h1 h2⟩
  | agg _ => exact h
  | tup _ => exact h
  | sc _ => exact RelR.ev he h
  | sl _ _ => exact RelR.ev he h
  | ptr _ _ _ => exact RelR.ev he h
  | ms _ _ _ _ => exact RelR.ev he h
  | fn _ _ => exact RelR.ev he h
  | map _ => exact RelR.ev he h
theorem relV_c {G : Gh} {w : World} {p : Nat → Ow} {x : AV} {v : Value} (hx : ∀ cs, x ≠ .agg cs) : RelV G w p x v = RelC G w (p 0) x v := by
  cases x <;> first | rfl | exact absurd rfl (hx _)
theorem agg_or (x : AV) : (∃ cs, x = .agg cs) ∨ ∀ cs, x ≠ .agg cs := by
  cases x <;> first | exact .inl ⟨_, rfl⟩ | exact .inr fun _ h => by cases h
theorem RelV.ev {G G' : Gh} {w w' : World} (he : Ev G w G' w') {p q : Nat → Ow} (hk : ∀ i, Keeps G w G' w' (p i) (q i)) {x : AV} {v : Value} (h : RelV G w p x v) : RelV G' w' q x v := by
  rcases agg_or x with ⟨cs, rfl⟩ | hx
  · obtain ⟨vs, h1, h2, h3⟩ := h
    exact ⟨vs, h1, h2, fun i x c hx hc => (h3 i x c hx hc).ev he (hk i)⟩
  · rw [relV_c hx] at h ⊢
    exact h.ev he (hk 0)
theorem RelS.ev {G G' : Gh} {w w' : World} (he : Ev G w G' w') {k k' : Nat} {s : SV} (hk : ∀ j i, Keeps G w G' w' (.sl k j i) (.sl k' j i))
    (hl : ∀ a g off x, s = .lp a g off → G.la a g = some x → G'.la a g = some x) {v : Value} (h : RelS G w k s v) : RelS G' w' k' s v := by
  cases s with
  | sv u => exact h
  | av x => exact RelV.ev he (hk 0) h
  | tp l =>
    obtain ⟨vs, h1, h2, h3⟩ := h
    exact ⟨vs, h1, h2, fun j x c hx hc => (h3 j x c hx hc).ev he (hk j)⟩
  | lp a g off =>
    obtain ⟨blk, h1, h2⟩ := h
    exact ⟨blk, hl a g off blk rfl h1, h2⟩
  | rv cs =>
    obtain ⟨b, o, vs, h1, h2, h3, h4, h5⟩ := h
    refine ⟨b, o, vs, h1, h2, fun i hi => Nat.lt_of_lt_of_le (h3 i hi) (he.imm b), fun k c hk => ?_, fun k x c hx hc => (h5 k x c hx hc).ev he⟩
    have hlt : k < vs.length := (List.getElem?_eq_some_iff.mp hk).1
    rw [he.cells b (o + k) (h3 k (by omega))]
    exact h4 k c hk
  | un => trivial
  | ud => exact h
theorem CellsR.ev {G G' : Gh} {w w' : World} (he : Ev G w G' w') {blk : Nat} {p q : Nat → Ow} {cs : List AV} (hb : w'.heap[blk]? = w.heap[blk]?)
    (hk : ∀ i, Keeps G w G' w' (p i) (q i)) (h : CellsR G w blk p cs) : CellsR G' w' blk q cs := by
  obtain ⟨arr, e, h1, h2, h3⟩ := h
  exact ⟨arr, e, hb.trans h1, h2, fun i x c hx hc => (h3 i x c hx hc).ev he (hk i)⟩
end Go.Proofs.Ytmnefpfbgadnkaa.AI
