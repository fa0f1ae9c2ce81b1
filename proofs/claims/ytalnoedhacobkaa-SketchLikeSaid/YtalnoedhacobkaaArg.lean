/- Arguments of a law, read into the abstract machine's values. -/
import Derived.Test.YtalnoedhacobkaaFun
import Derived.ProofKit
import Derived.RowKit
import Derived.OpenShut
import Derived.ChangeOld
import Derived.SizedLaws
import Derived.Carry
namespace Go.Proofs.Ytalnoedhacobkaa.AI
open Go Go.RowKit Go.ChangeShapes Go.WideShapes Go.ChangeAt
set_option linter.unusedVariables false
set_option linter.unusedSimpArgs false

/-- Within a kind's bounds. -/
def InK (k : IntKind) (n : Int) : Prop := (Lit.int k n).wf = true
theorem InK.le {k : IntKind} {n : Int} (h : InK k n) : k.min ≤ n ∧ n ≤ k.max := by
  simpa [InK, Lit.wf] using h
theorem InK.u8 {n : Int} (h : InK .u8 n) : 0 ≤ n ∧ n < 256 := by
  have := h.le; simp [IntKind.min, IntKind.max, IntKind.signed, IntKind.bits] at this; omega
theorem InK.u16 {n : Int} (h : InK .u16 n) : 0 ≤ n ∧ n < 65536 := by
  have := h.le; simp [IntKind.min, IntKind.max, IntKind.signed, IntKind.bits] at this; omega
theorem InK.u32 {n : Int} (h : InK .u32 n) : 0 ≤ n ∧ n < 4294967296 := by
  have := h.le; simp [IntKind.min, IntKind.max, IntKind.signed, IntKind.bits] at this; omega
theorem InK.u64 {n : Int} (h : InK .u64 n) : 0 ≤ n ∧ n < 18446744073709551616 := by
  have := h.le; simp [IntKind.min, IntKind.max, IntKind.signed, IntKind.bits] at this; omega
theorem InK.i64 {n : Int} (h : InK .i64 n) : -9223372036854775808 ≤ n ∧ n < 9223372036854775808 := by
  have := h.le; simp [IntKind.min, IntKind.max, IntKind.signed, IntKind.bits] at this; omega
/-- Arguments, one by one. -/
def ArgsR (W : World) (xs : List AV) (vs : List Value) : Prop := xs.length = vs.length ∧ ∀ (i : Nat) (x : AV) (u : Value), xs[i]? = some x → vs[i]? = some u → ArgR (gh0 W) W x u
theorem ArgsR.nil (W : World) : ArgsR W [] [] := ⟨rfl, by simp⟩
theorem ArgsR.cons {W : World} {x : AV} {v : Value} {xs : List AV} {vs : List Value} (h : ArgR (gh0 W) W x v) (t : ArgsR W xs vs) : ArgsR W (x :: xs) (v :: vs) := by
  refine ⟨by simp [t.1], fun i y u hx hu => ?_⟩
  cases i with
  | zero =>
    simp at hx hu
    subst hx hu
    exact h
  | succ i => exact t.2 i y u (by simpa using hx) (by simpa using hu)
theorem law_args {c : Cx} (hc : Ok c ∧ DstOk c) {f : FuncId} {xs : List AV} {vs : List Value} {v : Value} {hp' : Hp} {W : World} (ha : ArgsR W xs vs) (h : run c f xs hp0 = some (.sc v, hp')) : Calls c.P f vs.toArray W fun e W' => e = .returned v ∧ Below W.heap.size W W' :=
  law_bool hc h ha.1 ha.2
section
variable {H : Type} {enc : TypeId × Value → H} {P : Program} {W : World} {fuel : Nat} {t e : TypeId} {cs : List Value} {y : DataW H × List MemPlace} {K : IntKind}
theorem rd_int (ht : P.underlying t = some (.int K)) (h : DataW.trod enc P W 0 (fun _ => true) true fuel t cs = some y) : ∃ n, cs = [.int K n] ∧ InK K n := by
  obtain ⟨n, h1, h2, h3⟩ := DataW.trod_int ht h
  exact ⟨n, h1, h3⟩
theorem rd_bool (ht : P.underlying t = some .bool) (h : DataW.trod enc P W 0 (fun _ => true) true fuel t cs = some y) : ∃ b : Bool, cs = [.bool b] := by
  obtain ⟨n, h1, h2⟩ := DataW.trod_bool ht h
  exact ⟨n, h1⟩
theorem relR_ints {a : Addr} {len cap : Nat} {zs : List Int} (hl : len ≤ cap) (hz : zs.length = cap) (hcell : ∀ i, i < zs.length → W.cell? (a.add i) = some (.int K (zs.getD i 0))) :
    RelR (gh0 W) W (S 0 1 (LI K (zs.take len))) (.slice (some a) len cap) := by
  have hg : ∀ i, i < zs.length → zs.getD i 0 = zs[i]?.getD 0 := fun i _ => by simp
  have := arg_sl (W := W) (a := a) (n := len) (cap := cap) (sz := 1) (cs := LI K (zs.take len)) (vs := (zs.take len).map fun n => .int K n) (by omega) (by simp; omega) (by simp) hl
    (fun i v hv => by
      simp only [List.getElem?_map, Option.map_eq_some_iff] at hv
      obtain ⟨n, hn, rfl⟩ := hv
      have hi : i < (zs.take len).length := (List.getElem?_eq_some_iff.mp hn).1
      simp at hi
      rw [hcell i (by omega)]
      rw [List.getElem?_take_of_lt (by omega)] at hn
      simp [hn])
    (fun x hx => by
      obtain ⟨n, _, rfl⟩ := List.mem_map.mp hx
      rfl)
    (fun i x v hx hv => by
      simp only [LI, List.getElem?_map, Option.map_eq_some_iff] at hx hv
      obtain ⟨n, hn, rfl⟩ := hx
      obtain ⟨m, hm, rfl⟩ := hv
      rw [hn] at hm
      cases hm
      exact .sc _ rfl)
  exact this (fun _ => .fr)
theorem rd_ints (ht : P.underlying t = some (.slice e)) (he : P.underlying e = some (.int K)) (hc : P.cellsOf e = 1) (h : DataW.trod enc P W 0 (fun _ => true) true fuel t cs = some y) :
    ∃ k l v, cs = [v] ∧ RelR (gh0 W) W (S k 1 (LI K l)) v ∧ (k = 0 ∨ (k = 2 ∧ l = [])) ∧ ∀ n ∈ l, InK K n := by
  rcases open_ints ht he hc h with ⟨hcs, _⟩ | ⟨a, len, cap, zs, hcs, _, hl, hm, hz, _, hcell, hwz⟩
  · exact ⟨2, [], _, hcs, .sc nil0 rfl, .inr ⟨rfl, rfl⟩, by simp⟩
  · exact ⟨0, zs.take len, _, hcs, relR_ints hl (by simpa using hz) hcell, .inl rfl, fun n hn => hwz n (List.mem_of_mem_take hn)⟩
theorem relR_C {x : AV} {v : Value} {p : Ow} (h : RelR (gh0 W) W x v) : RelC (gh0 W) W p x v := h.c p
theorem arg_R {x : AV} {v : Value} (h : RelR (gh0 W) W x v) : ArgR (gh0 W) W x v := fun p => (h.c (p 0)).v
/-- A struct's cells. -/
theorem arg_agg {xs : List AV} {vs : List Value} (hl : xs.length = vs.length) (h : ∀ (i : Nat) (x : AV) (v : Value), xs[i]? = some x → vs[i]? = some v → RelR (gh0 W) W x v) : ArgR (gh0 W) W (.agg xs) (.agg vs.toArray) :=
  fun p => ⟨vs, rfl, hl, fun i x v hx hv => (h i x v hx hv).c (p i)⟩
theorem cells_nil : ∀ (i : Nat) (x : AV) (v : Value), ([] : List AV)[i]? = some x → ([] : List Value)[i]? = some v → RelR (gh0 W) W x v := by simp
theorem cells_cons {x : AV} {v : Value} {xs : List AV} {vs : List Value} (h : RelR (gh0 W) W x v) (t : ∀ (i : Nat) (x : AV) (v : Value), xs[i]? = some x → vs[i]? = some v → RelR (gh0 W) W x v) :
    ∀ (i : Nat) (y : AV) (u : Value), (x :: xs)[i]? = some y → (v :: vs)[i]? = some u → RelR (gh0 W) W y u := by
  intro i y u hx hu
  cases i with
  | zero =>
    simp at hx hu
    subst hx hu
    exact h
  | succ i => exact t i y u (by simpa using hx) (by simpa using hu)
end
theorem cell_at {l : List Value} {o n : Nat} {a : Value} (h : (l.drop o).take n = [a]) : l[o]? = some a := by
  have h0 : ((l.drop o).take n)[0]? = some a := by rw [h]; rfl
  have hn : 0 < n := by
    cases n with
    | zero => simp at h
    | succ n => omega
  rw [List.getElem?_take_of_lt hn] at h0
  simpa using h0
theorem list_eq1 {l : List Value} {a0 : Value} (h : l.length = 1) (h0 : l[0]? = some a0) : l = [a0] := by
  apply List.ext_getElem?
  intro i
  match i with
  | 0 => rw [h0]; rfl
  | i + 1 => rw [List.getElem?_eq_none (by omega), List.getElem?_eq_none (by simp)]
theorem list_eq2 {l : List Value} {a0 a1 : Value} (h : l.length = 2) (h0 : l[0]? = some a0) (h1 : l[1]? = some a1) : l = [a0, a1] := by
  apply List.ext_getElem?
  intro i
  match i with
  | 0 => rw [h0]; rfl
  | 1 => rw [h1]; rfl
  | i + 2 => rw [List.getElem?_eq_none (by omega), List.getElem?_eq_none (by simp)]
theorem list_eq3 {l : List Value} {a0 a1 a2 : Value} (h : l.length = 3) (h0 : l[0]? = some a0) (h1 : l[1]? = some a1) (h2 : l[2]? = some a2) : l = [a0, a1, a2] := by
  apply List.ext_getElem?
  intro i
  match i with
  | 0 => rw [h0]; rfl
  | 1 => rw [h1]; rfl
  | 2 => rw [h2]; rfl
  | i + 3 => rw [List.getElem?_eq_none (by omega), List.getElem?_eq_none (by simp)]
theorem list_eq4 {l : List Value} {a0 a1 a2 a3 : Value} (h : l.length = 4) (h0 : l[0]? = some a0) (h1 : l[1]? = some a1) (h2 : l[2]? = some a2) (h3 : l[3]? = some a3) : l = [a0, a1, a2, a3] := by
  apply List.ext_getElem?
  intro i
  match i with
  | 0 => rw [h0]; rfl
  | 1 => rw [h1]; rfl
  | 2 => rw [h2]; rfl
  | 3 => rw [h3]; rfl
  | i + 4 => rw [List.getElem?_eq_none (by omega), List.getElem?_eq_none (by simp)]
theorem list_eq5 {l : List Value} {a0 a1 a2 a3 a4 : Value} (h : l.length = 5) (h0 : l[0]? = some a0) (h1 : l[1]? = some a1) (h2 : l[2]? = some a2) (h3 : l[3]? = some a3) (h4 : l[4]? = some a4) : l = [a0, a1, a2, a3, a4] := by
  apply List.ext_getElem?
  intro i
  match i with
  | 0 => rw [h0]; rfl
  | 1 => rw [h1]; rfl
  | 2 => rw [h2]; rfl
  | 3 => rw [h3]; rfl
  | 4 => rw [h4]; rfl
  | i + 5 => rw [List.getElem?_eq_none (by omega), List.getElem?_eq_none (by simp)]
theorem list_eq6 {l : List Value} {a0 a1 a2 a3 a4 a5 : Value} (h : l.length = 6) (h0 : l[0]? = some a0) (h1 : l[1]? = some a1) (h2 : l[2]? = some a2) (h3 : l[3]? = some a3) (h4 : l[4]? = some a4) (h5 : l[5]? = some a5) : l = [a0, a1, a2, a3, a4, a5] := by
  apply List.ext_getElem?
  intro i
  match i with
  | 0 => rw [h0]; rfl
  | 1 => rw [h1]; rfl
  | 2 => rw [h2]; rfl
  | 3 => rw [h3]; rfl
  | 4 => rw [h4]; rfl
  | 5 => rw [h5]; rfl
  | i + 6 => rw [List.getElem?_eq_none (by omega), List.getElem?_eq_none (by simp)]
theorem list_eq7 {l : List Value} {a0 a1 a2 a3 a4 a5 a6 : Value} (h : l.length = 7) (h0 : l[0]? = some a0) (h1 : l[1]? = some a1) (h2 : l[2]? = some a2) (h3 : l[3]? = some a3) (h4 : l[4]? = some a4) (h5 : l[5]? = some a5) (h6 : l[6]? = some a6) : l = [a0, a1, a2, a3, a4, a5, a6] := by
  apply List.ext_getElem?
  intro i
  match i with
  | 0 => rw [h0]; rfl
  | 1 => rw [h1]; rfl
  | 2 => rw [h2]; rfl
  | 3 => rw [h3]; rfl
  | 4 => rw [h4]; rfl
  | 5 => rw [h5]; rfl
  | 6 => rw [h6]; rfl
  | i + 7 => rw [List.getElem?_eq_none (by omega), List.getElem?_eq_none (by simp)]
theorem list_eq8 {l : List Value} {a0 a1 a2 a3 a4 a5 a6 a7 : Value} (h : l.length = 8) (h0 : l[0]? = some a0) (h1 : l[1]? = some a1) (h2 : l[2]? = some a2) (h3 : l[3]? = some a3) (h4 : l[4]? = some a4) (h5 : l[5]? = some a5) (h6 : l[6]? = some a6) (h7 : l[7]? = some a7) : l = [a0, a1, a2, a3, a4, a5, a6, a7] := by
  apply List.ext_getElem?
  intro i
  match i with
  | 0 => rw [h0]; rfl
  | 1 => rw [h1]; rfl
  | 2 => rw [h2]; rfl
  | 3 => rw [h3]; rfl
  | 4 => rw [h4]; rfl
  | 5 => rw [h5]; rfl
  | 6 => rw [h6]; rfl
  | 7 => rw [h7]; rfl
  | i + 8 => rw [List.getElem?_eq_none (by omega), List.getElem?_eq_none (by simp)]
end Go.Proofs.Ytalnoedhacobkaa.AI
