/- From a run to a statement: the ghost at the start, arguments read, what is left. -/
import Derived.Test.YtalnoedhacobkaaTab
import Derived.Below
namespace Go.Proofs.Ytalnoedhacobkaa.AI
open Go Go.RowKit
set_option linter.unusedVariables false
set_option linter.unusedSimpArgs false

/-- All that stands is another's, and stays. -/
def gh0 (W : World) : Gh where
  Om b := if b < W.heap.size then .oth else .fr
  I b := match W.heap[b]? with
    | some (.cells arr _ _) => arr.size
    | _ => 0
  mu _ _ := none
  la _ _ := none
theorem hpI0 (W : World) : HpI (gh0 W) W hp0 where
  heap b g cs h := by cases h
  next b g _ := rfl
  hlt b g cs h := by cases h
  new b hb := ⟨by simp [gh0]; omega, by simp [gh0, Array.getElem?_eq_none hb]⟩
  vars b hb := by
    exfalso
    rcases hb with ⟨k, g, h⟩ | ⟨k, g, h⟩ <;> simp only [gh0] at h <;> split at h <;> cases h
theorem fr_below {W W' : World} {G' : Gh} (h : Fr (gh0 W) W G' W') : Below W.heap.size W W' :=
  ⟨h.rest.1, h.rest.2.1, h.rest.2.2, h.size, fun k hk => (h.same k hk (.inr (by simp [gh0, hk]))).1⟩
/-- A scalar argument. -/
theorem arg_sc (W : World) (v : Value) (h : v.oneCell' = true) : ArgR (gh0 W) W (.sc v) v := fun _ => RelR.sc v h
theorem cell_lt {W : World} {b i : Nat} {c : Value} (h : W.cell? ⟨b, i, none⟩ = some c) : i < (gh0 W).I b := by
  simp only [World.cell?] at h
  simp only [gh0]
  split at h
  · rename_i arr t fz e
    rw [e]
    exact (Array.getElem?_eq_some_iff.mp (by simpa using h)).1
  · cases h
/-- A slice argument: its cells stand in memory. -/
theorem arg_sl {W : World} {a : Addr} {n cap sz : Nat} {cs : List AV} {vs : List Value} (hsz : 0 < sz) (hcs : cs.length = n * sz) (hlen : vs.length = cs.length) (hcap : n ≤ cap)
    (hcell : ∀ (i : Nat) (v : Value), vs[i]? = some v → W.cell? (a.add i) = some v) (hvl : ∀ x ∈ cs, vl x = true) (hrel : ∀ (i : Nat) (x : AV) (v : Value), cs[i]? = some x → vs[i]? = some v → RelR (gh0 W) W x v) :
    ArgR (gh0 W) W (.sl sz cs) (.slice (some a) n cap) := by
  intro p
  have key : RelR (gh0 W) W (.sl sz cs) (.slice (some a) n cap) := by
    by_cases hn : n = 0
    · subst hn
      have : cs = [] := List.length_eq_zero_iff.mp (by simpa using hcs)
      subst this
      exact .sl0 sz a cap hsz
    · obtain ⟨b, o, sp⟩ := a
      have hpos : 0 < vs.length := by rw [hlen, hcs]; exact Nat.mul_pos (Nat.pos_of_ne_zero hn) hsz
      have hsp : sp = none := by
        have h0 := hcell 0 vs[0] (List.getElem?_eq_getElem hpos)
        have e : (⟨b, o, sp⟩ : Addr).add 0 = ⟨b, o, sp⟩ := rfl
        rw [e] at h0
        simp only [World.cell?] at h0
        split at h0
        · cases sp with
          | none => rfl
          | some q => simp at h0
        · cases h0
      subst hsp
      have hc' : ∀ k c, vs[k]? = some c → W.cell? ⟨b, o + k, none⟩ = some c := fun k c hk => by rw [← addr_add]; exact hcell k c hk
      refine .sl sz cs n cap b o vs hsz (Nat.pos_of_ne_zero hn) hcs hcap ?_ hlen hc' hvl hrel
      have hl : vs.length - 1 < vs.length := by omega
      have := cell_lt (hc' (vs.length - 1) _ (List.getElem?_eq_getElem hl))
      omega
  exact (key.c (p 0)).v
/-- What a law's function answers: a truth value. -/
theorem law_bool {c : Cx} (hc : Ok c ∧ DstOk c) {f : FuncId} {xs : List AV} {vs : List Value} {v : Value} {hp' : Hp} {W : World} (h : run c f xs hp0 = some (.sc v, hp')) (hl : xs.length = vs.length)
    (ha : ∀ (i : Nat) (x : AV) (u : Value), xs[i]? = some x → vs[i]? = some u → ArgR (gh0 W) W x u) : Calls c.P f vs.toArray W fun e W' => e = .returned v ∧ Below W.heap.size W W' := by
  refine (run_sound hc.1 hc.2 h (hpI0 W) hl ha).mono fun e W' hg => ?_
  obtain ⟨u, G', rfl, hf, _, hr⟩ := hg
  have hr' : RelR G' W' (.sc v) u := hr
  cases hr' with
  | sc _ _ => exact ⟨rfl, fr_below hf⟩
end Go.Proofs.Ytalnoedhacobkaa.AI
