/- Types' tables held against the program; what loads, stores and new variables do to memory. -/
import Derived.Test.YtmnefpfbgadnkaaInv
import Derived.Laws.CopyRow
namespace Go.Proofs.Ytmnefpfbgadnkaa.AI
open Go
set_option linter.unusedVariables false
set_option linter.unusedSimpArgs false

def DOk (d : TypeDesc) (k : TK) : Prop :=
  match k with
  | .sc => ∀ x, (d matches .struct _ | .array _ _ | .slice _) = x → x = false
  | .ot => ∀ x, (d matches .struct _ | .array _ _ | .slice _) = x → x = false
  | .tu => True
  | .sl e => d = .slice e
  | .ar n e => d = .array n e
  | .st fs => ∃ fields : Array Field, d = .struct fields ∧ fields.toList.map (fun f => (f.offset, f.type)) = fs
/-- A row of the table of types says what the program says. -/
def TOk (P : Program) (t : TypeId) (ti : TI) : Prop :=
  (isU8 ti = true → P.underlying t = some (.int .u8)) ∧ (isStr ti = true → P.underlying t = some .string) ∧
  ∃ info d, P.info? t = some info ∧ P.underlying t = some d ∧ DOk d ti.k ∧ info.bytes = ti.bytes ∧
    (isTu ti.k = false → info.size = ti.size ∧ ∃ z, info.zero = some z ∧ z.cells.toList = ti.zero ∧ ti.zero.length = ti.size ∧ ∀ v ∈ ti.zero, v.oneCell' = true)
/-- The context's tables are the program's. -/
structure Ok (c : Cx) : Prop where
  tt : ∀ t ti, c.tt t = some ti → TOk c.P t ti
  F : ∀ f fn, c.F f = some fn → c.P.funcs[f]? = some fn
  nm : ∀ f fn, c.F f = some fn → (fn.name == "runtime.NumGoroutine") = false
  X : ∀ f fn vs v, c.F f = some fn → fn.body = none → c.X f vs = some v → ∀ w, (callFunc f vs.toArray).run c.P w = .ok (.value v) w
  mixed : c.P.follows .mixedOrders = true

theorem tn_some {c : Cx} {t : TypeId} {ti : TI} (h : c.tn t = some ti) : c.tt t = some ti ∧ isTu ti.k = false := by
  unfold Cx.tn at h
  split at h
  · rename_i ti' h'
    cases hk : isTu ti'.k with
    | true => simp [hk] at h
    | false => simp [hk] at h; subst h; exact ⟨h', hk⟩
  · cases h
section
variable {P : Program} {t : TypeId} {ti : TI} {w : World}
theorem TOk.sizeOf (h : TOk P t ti) (hk : isTu ti.k = false) (w : World) : (sizeOf t).run P w = .ok ti.size w := by
  obtain ⟨_, _, info, d, h1, h2, h3, h4, h5⟩ := h
  rw [run_sizeOf w h1]
  have : P.cellsOf t = ti.size := by simp [Program.cellsOf, h1, (h5 hk).1]
  rw [this]
theorem TOk.zero (h : TOk P t ti) (hk : isTu ti.k = false) : ∃ z, z.cells.toList = ti.zero ∧ ti.zero.length = ti.size ∧ (∀ v ∈ ti.zero, v.oneCell' = true) ∧ ∀ w, (zeroValue t).run P w = .ok z w := by
  obtain ⟨_, _, info, d, h1, h2, h3, h4, h5⟩ := h
  obtain ⟨h6, z, h7, h8, h9, h10⟩ := h5 hk
  exact ⟨z, h8, h9, h10, fun w => by simp [zeroValue, typeInfo, h1, h7]⟩
theorem TOk.isAgg (h : TOk P t ti) (hk : isTu ti.k = false) (w : World) : (Go.isAgg t).run P w = .ok (isAg ti.k) w := by
  obtain ⟨_, _, info, d, h1, h2, h3, h4, h5⟩ := h
  unfold Go.isAgg
  simp only [Sem.run_bind, run_underlying h2, Result.andThen_ok]
  cases hti : ti.k with
  | sc =>
    rw [hti] at h3
    cases d <;> first | rfl | (have := h3 _ rfl; cases this)
  | ot =>
    rw [hti] at h3
    cases d <;> first | rfl | (have := h3 _ rfl; cases this)
  | tu => rw [hti] at hk; cases hk
  | sl e => rw [hti] at h3; cases h3; rfl
  | ar n e => rw [hti] at h3; cases h3; rfl
  | st fs => rw [hti] at h3; obtain ⟨fields, rfl, _⟩ := h3; rfl
theorem TOk.bytes (h : TOk P t ti) : ∃ info, P.info? t = some info ∧ info.bytes = ti.bytes := by
  obtain ⟨_, _, info, d, h1, h2, h3, h4, h5⟩ := h
  exact ⟨info, h1, h4⟩
theorem TOk.und (h : TOk P t ti) : ∃ d, P.underlying t = some d ∧ DOk d ti.k := by
  obtain ⟨_, _, info, d, h1, h2, h3, h4, h5⟩ := h
  exact ⟨d, h2, h3⟩
end

theorem RelR.one {G : Gh} {w : World} {x : AV} {v : Value} (h : RelR G w x v) : v.oneCell' = true := by
  cases h <;> first | rfl | assumption
theorem RelC.one {G : Gh} {w : World} {p : Ow} {x : AV} {v : Value} (h : RelC G w p x v) : v.oneCell' = true := by
  cases x with
  | us sz cs =>
    obtain ⟨b, _, ht⟩ := h
    obtain ⟨n, cap, arr, e, rfl, _⟩ := ht.ex
    rfl
  | agg _ => exact h.elim
  | tup _ => exact h.elim
  | sc _ => exact RelR.one h
  | sl _ _ => exact RelR.one h
  | ptr _ _ _ => exact RelR.one h
  | ms _ _ _ _ => exact RelR.one h
  | fn _ _ => exact RelR.one h
  | map _ => exact RelR.one h
theorem cells_one {v : Value} (h : v.oneCell' = true) : v.cells = #[v] := by cases v <;> first | rfl | cases h

/-- The cells of an abstract value stand for the cells of the value. -/
def RelL (G : Gh) (w : World) (p : Nat → Ow) (l : List AV) (vs : List Value) : Prop :=
  l.length = vs.length ∧ ∀ (i : Nat) (x : AV) (c : Value), l[i]? = some x → vs[i]? = some c → RelC G w (p i) x c
theorem RelL.ev {G G' : Gh} {w w' : World} (he : Ev G w G' w') {p q : Nat → Ow} (hk : ∀ i, Keeps G w G' w' (p i) (q i)) {l : List AV} {vs : List Value} (h : RelL G w p l vs) : RelL G' w' q l vs :=
  ⟨h.1, fun i x c hx hc => (h.2 i x c hx hc).ev he (hk i)⟩
theorem RelL.one {G : Gh} {w : World} {p : Nat → Ow} {l : List AV} {vs : List Value} (h : RelL G w p l vs) : ∀ v ∈ vs, v.oneCell' = true := by
  intro v hv
  obtain ⟨i, hi, rfl⟩ := List.getElem_of_mem hv
  have hl : i < l.length := by rw [h.1]; exact hi
  exact (h.2 i l[i] vs[i] (List.getElem?_eq_getElem hl) (List.getElem?_eq_getElem hi)).one
theorem RelV.cells {G : Gh} {w : World} {p : Nat → Ow} {x : AV} {v : Value} {n : Nat} {l : List AV} (h : RelV G w p x v) (hl : cellsN n x = some l) :
    l.length = n ∧ RelL G w p l v.cells.toList := by
  rcases agg_or x with ⟨cs, rfl⟩ | hx
  · obtain ⟨vs, rfl, h2, h3⟩ := h
    simp only [cellsN] at hl
    split at hl
    · cases hl
      rename_i hn
      exact ⟨hn, by simpa [Value.cells] using h2, fun i x c hx hc => h3 i x c hx (by simpa [Value.cells] using hc)⟩
    · cases hl
  · rw [relV_c hx] at h
    have h1 : cellsN n x = if n = 1 then some [x] else none := by
      cases x <;> first | rfl | exact absurd rfl (hx _) | exact h.elim
    rw [h1] at hl
    split at hl
    · cases hl
      rename_i hn
      rw [cells_one h.one]
      refine ⟨by simp [hn], by simp, fun i x c hx hc => ?_⟩
      match i, hx, hc with
      | 0, hx, hc => simp at hx hc; subst hx; subst hc; exact h
      | i + 1, hx, hc => simp at hx
    · cases hl
theorem RelS.valC {G : Gh} {w : World} {k : Nat} {s : SV} {v : Value} {n : Nat} {l : List AV} (h : RelS G w k s v) (hl : valC n s = some l) :
    l.length = n ∧ RelL G w (.sl k 0 ·) l v.cells.toList := by
  cases s with
  | sv u =>
    obtain ⟨rfl, h1⟩ := h
    simp only [AI.valC] at hl
    split at hl
    · cases hl
      rename_i hn
      rw [cells_one h1]
      refine ⟨by simp [hn], by simp, fun i x c hx hc => ?_⟩
      match i, hx, hc with
      | 0, hx, hc => simp at hx hc; subst hx; subst hc; exact .sc _ h1
      | i + 1, hx, hc => simp at hx
    · cases hl
  | av x => exact RelV.cells h hl
  | lp _ _ _ => cases hl
  | rv _ => cases hl
  | tp _ => cases hl
  | un => cases hl
  | ud => cases hl
end Go.Proofs.Ytmnefpfbgadnkaa.AI
