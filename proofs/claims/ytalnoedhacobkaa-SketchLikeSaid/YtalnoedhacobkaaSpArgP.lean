/- A slice of pairs, read into the abstract machine's values. -/
import Derived.Test.YtalnoedhacobkaaSpGauge
import Derived.DataElems
namespace Go.Proofs.Ytalnoedhacobkaa.AI
open Go Go.RowKit Go.ChangeShapes Go.WideShapes Go.ChangeAt
set_option linter.unusedVariables false
set_option linter.unusedSimpArgs false

theorem vlP : ∀ (l : List (Int × Int)) (x : AV), x ∈ LP l → vl x = true
  | [], x, h => by cases h
  | p :: l, x, h => by
    simp only [LP, List.mem_cons] at h
    rcases h with rfl | rfl | h
    · rfl
    · rfl
    · exact vlP l x h
def VP : List (Int × Int) → List Value
  | [] => []
  | p :: l => .int .u64 p.1 :: .int .u8 p.2 :: VP l
theorem lenVP : ∀ l, (VP l).length = 2 * l.length
  | [] => rfl
  | p :: l => by simp only [VP, List.length_cons, lenVP l]; omega
theorem getVP : ∀ (l : List (Int × Int)) (i : Nat) (v : Value), (VP l)[i]? = some v → ∃ p, l[i / 2]? = some p ∧ v = if i % 2 = 0 then .int .u64 p.1 else .int .u8 p.2
  | [], i, v, h => by simp [VP] at h
  | p :: l, 0, v, h => by
    simp only [VP, List.getElem?_cons_zero, Option.some.injEq] at h
    exact ⟨p, rfl, by simp [h]⟩
  | p :: l, 1, v, h => by
    simp only [VP, List.getElem?_cons_succ, List.getElem?_cons_zero, Option.some.injEq] at h
    exact ⟨p, rfl, by simp [h]⟩
  | p :: l, i + 2, v, h => by
    simp only [VP, List.getElem?_cons_succ] at h
    obtain ⟨q, h1, h2⟩ := getVP l i v h
    refine ⟨q, ?_, ?_⟩
    · rw [show (i + 2) / 2 = i / 2 + 1 by omega, List.getElem?_cons_succ]; exact h1
    · rw [show (i + 2) % 2 = i % 2 by omega]; exact h2
theorem relVP : ∀ (l : List (Int × Int)) (i : Nat) (x : AV) (v : Value), (LP l)[i]? = some x → (VP l)[i]? = some v → x = .sc v ∧ v.oneCell' = true
  | [], i, x, v, h, _ => by simp [LP] at h
  | p :: l, 0, x, v, h, h' => by
    simp only [LP, VP, List.getElem?_cons_zero, Option.some.injEq] at h h'
    subst h h'
    exact ⟨rfl, rfl⟩
  | p :: l, 1, x, v, h, h' => by
    simp only [LP, VP, List.getElem?_cons_succ, List.getElem?_cons_zero, Option.some.injEq] at h h'
    subst h h'
    exact ⟨rfl, rfl⟩
  | p :: l, i + 2, x, v, h, h' => by
    simp only [LP, VP, List.getElem?_cons_succ] at h h'
    exact relVP l i x v h h'
section
variable {H : Type} {enc : TypeId × Value → H} {P : Program} {W : World} {fuel : Nat} {t e tu t8 : TypeId} {cs : List Value} {y : DataW H × List MemPlace} {fs : Array Field}
theorem rd_pairs {f0 f1 : Field} (ht : P.underlying t = some (.slice e)) (he : P.underlying e = some (.struct #[f0, f1])) (h0 : P.underlying f0.type = some (.int .u64)) (h1 : P.underlying f1.type = some (.int .u8))
    (o0 : f0.offset = 0) (o1 : f1.offset = 1) (hc : P.cellsOf e = 2) (c0 : P.cellsOf f0.type = 1) (c1 : P.cellsOf f1.type = 1) (h : DataW.trod enc P W 0 (fun _ => true) true fuel t cs = some y) :
    ∃ k l v, cs = [v] ∧ RelR (gh0 W) W (S k 2 (LP l)) v ∧ ∀ p ∈ l, InI p := by
  rcases DataW.trod_slice ht h with ⟨hcs, _⟩ | ⟨a, len, cap, elems, rest, n, _, hcs, _, _, hl, _, hlen, hel, _, _⟩
  · exact ⟨2, [], _, hcs, .sc nil0 rfl, by simp⟩
  · have each : ∀ i, i < len → ∃ p : Int × Int, InI p ∧ W.cell? (a.add (i * 2)) = some (.int .u64 p.1) ∧ W.cell? (a.add (i * 2 + 1)) = some (.int .u8 p.2) := by
      intro i hi
      have hb := hel i hi
      rw [List.getElem?_eq_getElem (by omega), hc, Option.bind_eq_some_iff] at hb
      obtain ⟨cs', hcs', hy'⟩ := hb
      obtain ⟨xs, m, _, _, hcl, hxl, hf⟩ := DataW.trod_struct he hy'
      have g0 := hf 0 f0 rfl
      have g1 := hf 1 f1 rfl
      rw [o0, c0] at g0
      rw [o1, c1] at g1
      rw [hc] at hcl
      obtain ⟨y0, hy0⟩ : ∃ y, xs[0]? = some y := ⟨_, List.getElem?_eq_getElem (by rw [hxl]; simp)⟩
      obtain ⟨y1, hy1⟩ : ∃ y, xs[1]? = some y := ⟨_, List.getElem?_eq_getElem (by rw [hxl]; simp)⟩
      rw [hy0] at g0
      rw [hy1] at g1
      obtain ⟨n0, q0, w0⟩ := rd_int h0 g0
      obtain ⟨n1, q1, w1⟩ := rd_int h1 g1
      have z0 := cell_at q0
      have z1 := cell_at q1
      have hc3 := (World.cells?_some hcs').2.2
      refine ⟨(n0, n1), ⟨w0.u64, w1.u8⟩, ?_, ?_⟩
      · have := hc3 0 (by omega)
        rw [Addr.add_add, Nat.add_zero] at this
        rw [this]; exact z0
      · have := hc3 1 (by omega)
        rw [Addr.add_add] at this
        rw [this]; exact z1
    have ch : ∃ f : Nat → Int × Int, ∀ i, i < len → InI (f i) ∧ W.cell? (a.add (i * 2)) = some (.int .u64 (f i).1) ∧ W.cell? (a.add (i * 2 + 1)) = some (.int .u8 (f i).2) := by
      refine ⟨fun i => if hi : i < len then (each i hi).choose else (0, 0), fun i hi => ?_⟩
      simp only [dif_pos hi]
      exact (each i hi).choose_spec
    obtain ⟨f, hf⟩ := ch
    have hg : ∀ (i : Nat) (p : Int × Int), ((List.range len).map f)[i]? = some p → i < len ∧ p = f i := by
      intro i p hp
      rw [List.getElem?_map, Option.map_eq_some_iff] at hp
      obtain ⟨j, hj, rfl⟩ := hp
      obtain ⟨h1, h2⟩ := List.getElem?_eq_some_iff.mp hj
      simp at h1 h2
      subst h2
      exact ⟨h1, rfl⟩
    refine ⟨0, (List.range len).map f, _, hcs, ?_, ?_⟩
    · have := arg_sl (W := W) (a := a) (n := len) (cap := cap) (sz := 2) (cs := LP ((List.range len).map f)) (vs := VP ((List.range len).map f)) (by omega) (by rw [lenP]; simp; omega) (by rw [lenP, lenVP]) hl
        (fun i v hv => by
          obtain ⟨p, hp, rfl⟩ := getVP _ i v hv
          obtain ⟨hi, rfl⟩ := hg _ _ hp
          obtain ⟨_, q0, q1⟩ := hf _ hi
          by_cases hm : i % 2 = 0
          · rw [if_pos hm, ← q0]
            congr 2
            omega
          · rw [if_neg hm, ← q1]
            congr 2
            omega)
        (fun x hx => vlP _ x hx)
        (fun i x v hx hv => by
          obtain ⟨rfl, ho⟩ := relVP _ i x v hx hv
          exact .sc _ ho)
      exact this (fun _ => .fr)
    · intro p hp
      obtain ⟨i, hi, rfl⟩ := List.mem_map.mp hp
      exact (hf i (by simpa using hi)).1
end
end Go.Proofs.Ytalnoedhacobkaa.AI
