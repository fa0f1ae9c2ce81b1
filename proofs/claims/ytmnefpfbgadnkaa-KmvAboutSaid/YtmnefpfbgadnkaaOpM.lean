/- build, buildSlice, make, conversions, function values, lengths. -/
import Derived.Test.YtmnefpfbgadnkaaOpL
import Derived.Laws.IdiomStrings
namespace Go.Proofs.Ytmnefpfbgadnkaa.AI
open Go
set_option linter.unusedVariables false
set_option linter.unusedSimpArgs false

section
variable {c : Cx} {G : Gh} {w w' : World} {st : St} {a : Act} {o : Oper} {Q : Exit → Act → World → Prop}
/-- Cells that may be read alone, once they are lowered. -/
def LowL (G : Gh) (w : World) (l : List AV) (vs : List Value) : Prop :=
  l.length = vs.length ∧ ∀ (i : Nat) (x : AV) (u : Value), l[i]? = some x → vs[i]? = some u → RelR G w (ro1 x) u
theorem setFold (vs : List Value) : ∀ (off j : Nat) (cs : Array Value), off + j + vs.length ≤ cs.size →
    ((vs.zipIdx j).foldl (fun cs (c, j) => cs.setIfInBounds (off + j) c) cs).toList = cs.toList.take (off + j) ++ vs ++ cs.toList.drop (off + j + vs.length) := by
  induction vs with
  | nil => intro off j cs h; simp
  | cons v vs ih =>
    intro off j cs h
    simp only [List.zipIdx_cons, List.foldl_cons]
    rw [ih off (j + 1) _ (by simp at h ⊢; omega)]
    have hlt : off + j < cs.toList.length := by simp at h ⊢; omega
    rw [Array.toList_setIfInBounds]
    apply List.ext_getElem?
    intro k
    rw [put_get _ _ _ (by simp at h ⊢; omega), put_get _ _ _ (by simp at h ⊢; omega)]
    by_cases h1 : k = off + j
    · subst h1
      rw [if_neg (by omega), if_pos (by simp), List.getElem?_set_self hlt]; simp
    · rw [List.getElem?_set_ne (by omega)]
      by_cases h2 : off + (j + 1) ≤ k ∧ k < off + (j + 1) + vs.length
      · rw [if_pos h2, if_pos (by simp; omega)]
        rw [show k - (off + j) = (k - (off + (j + 1))) + 1 by omega]; simp
      · rw [if_neg h2, if_neg (by simp; omega)]
theorem fill_rel (hI : Inv G w st a.tmps) {place : Nat → Option (Nat × Nat)} : ∀ {l : List (Nat × Operand)} {cs cs' : List AV} {arr : Array Value},
    fillK place (evS st.sl) some l cs = some cs' → LowL G w cs arr.toList → ∃ arr', Instr.fill place arr (l.map fun p => (p.1, a.eval p.2)) = some arr' ∧ LowL G w cs' arr'.toList
  | [], cs, cs', arr, h, hl => by simp only [fillK] at h; cases h; exact ⟨arr, rfl, hl⟩
  | (i, x) :: r, cs, cs', arr, h, hl => by
    simp only [fillK] at h
    split at h
    · cases h
    · rename_i off n hp
      obtain ⟨vs, hvs, h⟩ := Option.bind_eq_some_iff.mp h
      obtain ⟨cs1, hcs1, h⟩ := Option.bind_eq_some_iff.mp h
      obtain ⟨hn, hrel⟩ := RelS.valC (evR hI x) hvs
      obtain ⟨hle, rfl⟩ := putN_some hcs1
      have hsz : (a.eval x).cells.size = n := by have := hrel.1; simp at this; omega
      have hlen : arr.size = cs.length := by have := hl.1; simpa using this.symm
      have hfold := setFold (a.eval x).cells.toList off 0 arr (by simp; omega)
      simp only [Nat.add_zero] at hfold
      have hlow : LowL G w (cs.take off ++ vs ++ cs.drop (off + vs.length)) ((((a.eval x).cells.zipIdx).foldl (fun cs (c, j) => cs.setIfInBounds (off + j) c) arr)).toList := by
        have e1 : ((a.eval x).cells.zipIdx).foldl (fun cs (c, j) => cs.setIfInBounds (off + j) c) arr = ((a.eval x).cells.toList.zipIdx).foldl (fun cs (c, j) => cs.setIfInBounds (off + j) c) arr := by
          rw [← Array.foldl_toList]; simp
        rw [e1, hfold]
        have hvl : vs.length = (a.eval x).cells.toList.length := hrel.1
        refine ⟨by simp; omega, fun k z u hz hu => ?_⟩
        rw [put_get _ _ _ hle] at hz
        rw [put_get _ _ _ (by simp; omega)] at hu
        rw [← hvl] at hu
        split at hz
        · rename_i hin
          rw [if_pos hin] at hu
          exact (hrel.2 _ z u hz hu).ro
        · rename_i hin
          rw [if_neg hin] at hu
          exact hl.2 k z u hz hu
      obtain ⟨arr', ha', hl'⟩ := fill_rel hI h hlow
      refine ⟨arr', ?_, hl'⟩
      simp only [List.map_cons, Instr.fill, hp]
      rw [if_neg (by simp [hsz]; omega)]
      exact ha'
theorem lowL_zero {l : List Value} (h1 : ∀ v ∈ l, v.oneCell' = true) : LowL G w (zeroA l) l := by
  refine ⟨by simp [zeroA], fun i x u hx hu => ?_⟩
  obtain ⟨y, hy, rfl⟩ := list_map_get _ _ _ _ hx
  rw [hy] at hu; cases hu
  exact .sc _ (h1 _ (List.mem_of_getElem? hy))
theorem lowL_v {cs : List AV} {arr : Array Value} (h : LowL G w cs arr.toList) (k : Nat) : RelS G w k (.av (.agg (cs.map ro1))) (.agg arr) := by
  refine ⟨arr.toList, by simp, by simpa using h.1, fun i x u hx hu => ?_⟩
  obtain ⟨y, hy, rfl⟩ := list_map_get _ _ _ _ hx
  exact (h.2 i y u hy hu).c _
theorem op_build_st (hc : Ok c) (hI : Inv G w st a.tmps) (hd : Dst o a) (h : Nat) {t : TypeId} {ti : TI} (hti : c.tn t = some ti) {ps : Array (Nat × Operand)} (hop : o.op = .build t ps) {fs : List (Nat × TypeId)} (hk : ti.k = .st fs)
    {cs : List AV} (hr : fillK (placeS c fs) (evS st.sl) some ps.toList (zeroA ti.zero) = some cs) (hall : ∀ p ∈ fs, (c.tn p.2).isSome = true) : o.wp c.P a w (Aft G w a (after h o st (.av (.agg (cs.map ro1))) none st.hp)) Q := by
  have ht := hc.tt t ti (tn_some hti).1
  obtain ⟨z, z1, z2, z3, z4⟩ := ht.zero (tn_some hti).2
  obtain ⟨d, hd1, hd2⟩ := ht.und
  rw [hk] at hd2
  obtain ⟨fields, rfl, hfl⟩ := hd2
  have hmapM : ∀ (l : List Field), (∀ f ∈ l, (c.tn f.type).isSome = true) → ∀ w, (l.mapM fun f => do pure (f.offset, ← sizeOf f.type) : Sem _).run c.P w = .ok (l.map fun f => (f.offset, ((c.tn f.type).map (·.size)).getD 0)) w := by
    intro l
    induction l with
    | nil => intro _ w; rfl
    | cons f l ih =>
      intro hl w
      rw [List.mapM_cons]
      cases hf : c.tn f.type with
      | none => have := hl f (by simp); rw [hf] at this; cases this
      | some fi =>
        have hs := (hc.tt f.type fi (tn_some hf).1).sizeOf (tn_some hf).2 w
        simp only [Sem.run_bind, hs, Result.andThen_ok, Sem.run_pure, ih (fun g hg => hl g (by simp [hg])) w, List.map_cons, hf, Option.map_some, Option.getD_some]
  have hall' : ∀ f ∈ fields.toList, (c.tn f.type).isSome = true := by
    intro f hf
    have : (f.offset, f.type) ∈ fs := by rw [← hfl]; exact List.mem_map.mpr ⟨f, hf, rfl⟩
    exact hall _ this
  have hplace : (fun i => (fields.toList.map fun f => (f.offset, ((c.tn f.type).map (·.size)).getD 0))[i]?) = placeS c fs := by
    funext i
    unfold placeS
    rw [← hfl, List.getElem?_map, List.getElem?_map]
    cases hi : fields.toList[i]? with
    | none => rfl
    | some f =>
      have := hall' f (List.mem_of_getElem? hi)
      cases hf : c.tn f.type with
      | none => rw [hf] at this; cases this
      | some fi => simp [hf]
  obtain ⟨arr, ha, hl⟩ := fill_rel hI (arr := z.cells) hr (by rw [z1]; exact lowL_zero z3)
  refine wp_value (v := .agg arr) (w' := w) ?_ (aft_value hI h (by simp [dnOp, hop]) hd (fun k => lowL_v hl k) (fun _ _ _ e => by cases e))
  simp only [execOp, hop, Instr.build]
  have hm := hmapM fields.toList hall' w
  have hm2 : (fields.mapM fun f => do pure (f.offset, ← sizeOf f.type) : Sem (Array (Nat × Nat))).run c.P w = .ok (fields.toList.map fun f => (f.offset, ((c.tn f.type).map (·.size)).getD 0)).toArray w := by
    rw [Array.mapM_eq_mapM_toList, Sem.run_map, hm]; rfl
  simp only [Sem.run_bind, z4, Result.andThen_ok, run_underlying hd1, hm2]
  have hfill : Instr.fill (fun x => ((fields.toList.map fun f => (f.offset, ((c.tn f.type).map (·.size)).getD 0)).toArray)[x]?) z.cells (ps.map fun p => (p.1, a.eval p.2)).toList = some arr := by
    rw [← ha]
    congr 1
    · rw [← hplace]; funext i; simp
    · simp
  have e1 : (Array.map (fun x => match x with | (i, x) => (i, a.eval x)) ps) = ps.map fun p => (p.1, a.eval p.2) := rfl
  rw [e1, hfill]
  rfl
end
end Go.Proofs.Ytmnefpfbgadnkaa.AI
