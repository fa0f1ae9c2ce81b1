/- Loads that take over what a variable holds. -/
import Derived.Test.YtmnefpfbgadnkaaOpJ
namespace Go.Proofs.Ytmnefpfbgadnkaa.AI
open Go
set_option linter.unusedVariables false
set_option linter.unusedSimpArgs false

section
variable {c : Cx} {G : Gh} {w w' : World} {st : St} {a : Act} {o : Oper} {Q : Exit → Act → World → Prop}
theorem map_set_get (cs : List AV) (off i : Nat) (x : AV) (hx : cs[off]? = some x) : (cs.set off (ro1 x))[i]? = if off ≤ i ∧ i < off + 1 then (cs[i]?).map ro1 else cs[i]? := by
  have hlt := (List.getElem?_eq_some_iff.mp hx).1
  by_cases e : off = i
  · subst e
    rw [List.getElem?_set_self hlt, if_pos ⟨Nat.le_refl _, by omega⟩, hx]; rfl
  · rw [List.getElem?_set_ne e, if_neg (by omega)]
theorem load_take {P : Program} {t : TypeId} {ti : TI} (ht : TOk P t ti) (hk : isTu ti.k = false) {cs : List AV} {vs : List Value} {A : Addr} {off : Nat} {p : Nat → Ow}
    (hlen : cs.length = vs.length) (hcell : ∀ (k : Nat) (u : Value), vs[k]? = some u → w.cell? (A.add k) = some u) (hrel : ∀ (k : Nat) (x : AV) (u : Value), cs[k]? = some x → vs[k]? = some u → RelC G w (p k) x u)
    {r : SV × List AV} (hr : (loadK ti 1 cs off fun s l => some (s, l)) = some r) :
    ∃ n, r.2.length = cs.length ∧ (∀ i : Nat, r.2[i]? = if off ≤ i ∧ i < off + n then (cs[i]?).map ro1 else cs[i]?) ∧
      ∃ v, (Instr.loadAt t (.pointer (some (A.add off)))).run P w = .ok v w ∧ (∀ k g off, r.1 ≠ .lp k g off) ∧
        ∀ (G' : Gh) k', Ev G w G' w → (∀ i, i < n → Keeps G w G' w (p (off + i)) (.sl k' 0 i)) → RelS G' w k' r.1 v := by
  have hadd : ∀ j, (A.add off).add j = A.add (off + j) := by
    intro j
    unfold Addr.add
    by_cases h1 : off = 0 <;> by_cases h2 : j = 0 <;> simp [h1, h2, Nat.add_assoc]
  have hz := ht.sizeOf hk w
  have ha := ht.isAgg hk w
  unfold loadK at hr
  split at hr
  · rename_i hsc
    obtain ⟨v, hv, hr⟩ := Option.bind_eq_some_iff.mp hr
    cases hr
    have hx := getSc_some hv
    obtain ⟨u, hu⟩ := get_of_len hlen hx
    have hru := hrel _ _ _ hx hu
    have hag : isAg ti.k = false := by cases hkk : ti.k <;> rw [hkk] at hsc <;> first | rfl | cases hsc
    refine ⟨0, rfl, fun i => by rw [if_neg (by omega)], u, ?_, (fun _ _ _ e => by cases e), fun G' k' he hke => ?_⟩
    · simp [Instr.loadAt, Instr.sureAddr, loadVar, ha, hag, hcell _ _ hu]
    · have hru' : RelR G w (.sc v) u := hru
      cases hru' with
      | sc _ h1 => exact ⟨rfl, h1⟩
  · split at hr
    · rename_i hsc hag
      obtain ⟨l, hl, hr⟩ := Option.bind_eq_some_iff.mp hr
      simp only [if_true] at hr
      obtain ⟨cs', hcs', hr⟩ := Option.bind_eq_some_iff.mp hr
      cases hr
      obtain ⟨hle, rfl⟩ := getN_some hl
      obtain ⟨hle2, rfl⟩ := putN_some hcs'
      have hll : ((cs.drop off).take ti.size).length = ti.size := by simp; omega
      refine ⟨ti.size, by simp; omega, fun i => ?_, .agg ((vs.drop off).take ti.size).toArray, ?_, (fun _ _ _ e => by cases e), fun G' k' he hke => ⟨(vs.drop off).take ti.size, rfl, by simp [hlen], fun i x u hx hu => ?_⟩⟩
      · rw [put_get _ _ _ hle2]
        simp only [List.length_map, hll]
        split
        · rename_i hin
          rw [List.getElem?_map, List.getElem?_take, if_pos (by omega), List.getElem?_drop]
          congr 2; omega
        · rfl
      · have hload := run_loadCells_list (P := P) (w := w) (A.add off) ((vs.drop off).take ti.size) (fun j v hj => by
          rw [hadd]
          rw [List.getElem?_take] at hj
          split at hj
          · exact hcell (off + j) v (by rw [← hj]; simp)
          · cases hj)
        have hll' : ((vs.drop off).take ti.size).length = ti.size := by simp; omega
        rw [hll'] at hload
        simp [Instr.loadAt, Instr.sureAddr, loadVar, ha, hag, hz, hload]
      · rw [List.getElem?_take] at hx hu
        split at hx
        · rename_i hq
          simp only [hq, if_true] at hu
          exact (hrel (off + i) x u (by rw [← hx]; simp) (by rw [← hu]; simp)).ev he (hke i hq)
        · cases hx
    · rename_i hsc hag
      obtain ⟨x, hx, hr⟩ := Option.bind_eq_some_iff.mp hr
      simp only [if_true] at hr
      cases hr
      have hx : cs[off]? = some x := hx
      obtain ⟨u, hu⟩ := get_of_len hlen hx
      have hag' : isAg ti.k = false := by simpa using hag
      refine ⟨1, by simp, fun i => map_set_get cs off i x hx, u, ?_, (fun _ _ _ e => by cases e), fun G' k' he hke => ?_⟩
      · simp [Instr.loadAt, Instr.sureAddr, loadVar, ha, hag', hcell _ _ hu]
      · exact (((hrel _ _ _ hx hu).ev he (by simpa using hke 0 (by omega))).v (p := fun i => .sl k' 0 i))
/-- What some cells held is a slot's. -/
def mvL (sel : Ow → Option Nat) (d : Nat) (p : Ow) : Ow :=
  match sel p with
  | some i => .sl d 0 i
  | none => p
def selB (k g off n : Nat) : Ow → Option Nat
  | .bc k' g' q => if k' = k ∧ g' = g ∧ off ≤ q ∧ q < off + n then some (q - off) else none
  | _ => none
def selO (k g off n : Nat) : Ow → Option Nat
  | .oc k' g' q => if k' = k ∧ g' = g ∧ off ≤ q ∧ q < off + n then some (q - off) else none
  | _ => none
structure SelOk (sel : Ow → Option Nat) : Prop where
  sl : ∀ k j i, sel (.sl k j i) = none
  box : ∀ k g, sel (.box k g) = none
  obj : ∀ k g, sel (.obj k g) = none
  fr : sel .fr = none
  oth : sel .oth = none
theorem selB_ok (k g off n : Nat) : SelOk (selB k g off n) := ⟨fun _ _ _ => rfl, fun _ _ => rfl, fun _ _ => rfl, rfl, rfl⟩
theorem selO_ok (k g off n : Nat) : SelOk (selO k g off n) := ⟨fun _ _ _ => rfl, fun _ _ => rfl, fun _ _ => rfl, rfl, rfl⟩
theorem mvL_rho {sel : Ow → Option Nat} (hs : SelOk sel) (d : Nat) : Rho (mvL sel d) where
  fr := by simp [mvL, hs.fr]
  oth := by simp [mvL, hs.oth]
  box p k g h := by
    unfold mvL at h
    split at h
    · cases h
    · exact h
  obj p k g h := by
    unfold mvL at h
    split at h
    · cases h
    · exact h
/-- Cells of which some are read alone now. -/
theorem low_rel {G' : Gh} (he : Ev G w G' w) {p q : Nat → Ow} {off n : Nat} {cs cs' : List AV} {arr : Array Value} (hlen : cs'.length = cs.length)
    (hget : ∀ i : Nat, cs'[i]? = if off ≤ i ∧ i < off + n then (cs[i]?).map ro1 else cs[i]?) (h : ∀ (i : Nat) (x : AV) (u : Value), cs[i]? = some x → arr[i]? = some u → RelC G w (p i) x u)
    (hk : ∀ i, ¬ (off ≤ i ∧ i < off + n) → Keeps G w G' w (p i) (q i)) (i : Nat) (x : AV) (u : Value) (hx : cs'[i]? = some x) (hu : arr[i]? = some u) : RelC G' w (q i) x u := by
  rw [hget] at hx
  split at hx
  · cases hc : cs[i]? with
    | none => rw [hc] at hx; cases hx
    | some y =>
      rw [hc] at hx
      cases hx
      exact ((h i y u hc hu).ro.ev he).c _
  · rename_i hin
    exact (h i x u hx hu).ev he (hk i hin)
theorem op_load1 (hc : Ok c) (hI : Inv G w st a.tmps) (hd : Dst o a) {t : TypeId} {ti : TI} (hti : c.tn t = some ti) {x : Operand} (hop : o.op = .load t x) {r : SV × BE × Hp}
    (hr : loadOpK 1 ti (evS st.sl x) (getB st.bx) st.hp k3 = some r) : o.wp c.P a w (Aft G w a (after 1 o st r.1 r.2.1 r.2.2)) Q := by
  have hdn : dnOp 1 o st.sl = st.sl := by simp [dnOp, downs, hop, dnAll]
  have ht := hc.tt t ti (tn_some hti).1
  have hkk := (tn_some hti).2
  have hxr := evR hI x
  unfold loadOpK at hr
  split at hr
  · rename_i k g off hx
    rw [hx] at hxr
    obtain ⟨blk, hla, hv⟩ := hxr
    split at hr
    · rename_i g' cs hgb
      split at hr
      · rename_i hg
        subst hg
        rw [loadK_nat] at hr
        obtain ⟨q, hq, hr⟩ := Option.bind_eq_some_iff.mp hr
        have hr' : some (q.1, (some (k, g, q.2) : BE), st.hp) = some r := hr
        cases hr'
        obtain ⟨blk', b1, b2, b3⟩ := hI.boxes k g cs hgb
        rw [hla] at b1; cases b1
        obtain ⟨vs, v1, v2, v3⟩ := cellsR_list b3
        obtain ⟨n, n1, n2, v, hrun, n3, n4⟩ := load_take (P := c.P) ht hkk (A := ⟨blk, 0, none⟩) v1 (fun k u hu => v2 0 k u (by simpa using hu)) v3 hq
        rw [addr_add, Nat.zero_add] at hrun
        have hrun' : (execOp a.eval o).run c.P w = .ok (.value v) w := by
          simp only [execOp, hop, hv]
          rw [Sem.run_bind, hrun]; rfl
        have hso := selB_ok k g off n
        let d := o.dst.getD 0
        have hrho := mvL_rho hso d
        have he : Ev G w (G.rel (mvL (selB k g off n) d)) w := (Fr.rel hrho).ev
        have keep : ∀ p q, mvL (selB k g off n) d p = q → Keeps G w (G.rel (mvL (selB k g off n) d)) w p q := fun p q hpq b hb => ⟨rfl, rfl, by simp [Gh.rel, hb, hpq]⟩
        obtain ⟨hnw, hvars⟩ := hI.relNew hrho
        refine wp_value hrun' ⟨G.rel (mvL (selB k g off n) d), ?_, Fr.rel hrho, put_size _ _ _, put_defers _ _ _⟩
        have hI2 : Inv (G.rel (mvL (selB k g off n) d)) w ⟨st.sl, setB st.bx k g q.2, st.hp⟩ a.tmps := {
          slots := fun j => RelS.ev he (fun j' i => keep _ _ (by simp [mvL, hso.sl])) (fun _ _ _ _ _ h => h) (hI.slots j)
          boxes := fun j g' cs'' hb => by
            have hb' : getB (setB st.bx k g q.2) j = some (g', cs'') := hb
            rw [getB_put] at hb'
            split at hb'
            · rename_i ek; subst ek
              cases hb'
              obtain ⟨arr, e, a1, a2, a3⟩ := b3
              refine ⟨blk, hla, by simp [Gh.rel, b2, mvL, hso.box], arr, e, a1, by rw [a2, n1], low_rel he n1 n2 a3 (fun i hi => keep _ _ ?_)⟩
              simp only [mvL, selB]
              rw [if_neg (by omega)]
            · rename_i hne
              obtain ⟨blk', h1, h2, h3⟩ := hI.boxes j g' cs'' hb'
              refine ⟨blk', h1, by simp [Gh.rel, h2, mvL, hso.box], h3.ev he rfl fun i => keep _ _ ?_⟩
              simp only [mvL, selB]
              rw [if_neg (fun e => hne e.1.symm)]
          heap := fun j g' cs'' hb => by
            obtain ⟨blk', h1, h2, h3⟩ := hI.heap j g' cs'' hb
            exact ⟨blk', h1, by simp [Gh.rel, h2, mvL, hso.obj], h3.ev he rfl fun i => keep _ _ (by simp [mvL, selB])⟩
          next := hI.next
          hlt := hI.hlt
          new := hnw
          vars := hvars
          lps := fun j k' g' off hs => by
            obtain ⟨g'', cs'', h1, h2⟩ := hI.lps j k' g' off hs
            show ∃ g'' cs'', getB (setB st.bx k g q.2) k' = some (g'', cs'') ∧ g' ≤ g''
            rw [getB_put]
            split
            · rename_i ek; subst ek
              rw [hgb] at h1; cases h1
              exact ⟨g, q.2, rfl, h2⟩
            · exact ⟨g'', cs'', h1, h2⟩ }
        unfold after
        rw [hdn]
        refine hI2.put o.dst hd (fun k' hk' => n4 _ k' he (fun i hi => keep _ _ ?_)) (fun k' g' off' e => absurd e (n3 k' g' off'))
        have hdd : d = k' := by simp [d, hk']
        simp only [mvL, selB]
        rw [if_pos ⟨trivial, trivial, by omega, by omega⟩, hdd]
        simp
      · cases hr
    · cases hr
  · simp at hr
  · rename_i y hx
    rw [hx] at hxr
    obtain ⟨p, hp, hr⟩ := Option.bind_eq_some_iff.mp hr
    obtain ⟨cs, hcs, hr⟩ := Option.bind_eq_some_iff.mp hr
    rw [loadK_nat] at hr
    obtain ⟨q, hq, hr⟩ := Option.bind_eq_some_iff.mp hr
    have hr' : some (q.1, (none : BE), st.hp.put p.1 p.2.1 q.2) = some r := hr
    cases hr'
    have hy := getPtr_some hp
    subst hy
    obtain ⟨blk, m1, hv⟩ := relP (p := fun i => .sl (num x) 0 i) hxr
    have hget := rd_some hcs
    obtain ⟨blk', b1, b2, b3⟩ := hI.heap p.1 p.2.1 cs hget
    rw [m1] at b1; cases b1
    obtain ⟨vs, v1, v2, v3⟩ := cellsR_list b3
    obtain ⟨n, n1, n2, v, hrun, n3, n4⟩ := load_take (P := c.P) ht hkk (A := ⟨blk, 0, none⟩) v1 (fun k u hu => v2 0 k u (by simpa using hu)) v3 hq
    rw [addr_add, Nat.zero_add] at hrun
    have hrun' : (execOp a.eval o).run c.P w = .ok (.value v) w := by
      simp only [execOp, hop, hv]
      rw [Sem.run_bind, hrun]; rfl
    have hso := selO_ok p.1 p.2.1 p.2.2 n
    let d := o.dst.getD 0
    have hrho := mvL_rho hso d
    have he : Ev G w (G.rel (mvL (selO p.1 p.2.1 p.2.2 n) d)) w := (Fr.rel hrho).ev
    have keep : ∀ u v, mvL (selO p.1 p.2.1 p.2.2 n) d u = v → Keeps G w (G.rel (mvL (selO p.1 p.2.1 p.2.2 n) d)) w u v := fun u v hpq b hb => ⟨rfl, rfl, by simp [Gh.rel, hb, hpq]⟩
    obtain ⟨hnw, hvars⟩ := hI.relNew hrho
    refine wp_value hrun' ⟨G.rel (mvL (selO p.1 p.2.1 p.2.2 n) d), ?_, Fr.rel hrho, put_size _ _ _, put_defers _ _ _⟩
    have hI2 : Inv (G.rel (mvL (selO p.1 p.2.1 p.2.2 n) d)) w ⟨st.sl, st.bx, st.hp.put p.1 p.2.1 q.2⟩ a.tmps := {
      slots := fun j => RelS.ev he (fun j' i => keep _ _ (by simp [mvL, hso.sl])) (fun _ _ _ _ _ h => h) (hI.slots j)
      boxes := fun j g' cs'' hb => by
        obtain ⟨blk', h1, h2, h3⟩ := hI.boxes j g' cs'' hb
        exact ⟨blk', h1, by simp [Gh.rel, h2, mvL, hso.box], h3.ev he rfl fun i => keep _ _ (by simp [mvL, selO])⟩
      heap := fun j g' cs'' hb => by
        have hb' : (if j = p.1 then some (p.2.1, q.2) else st.hp.get j) = some (g', cs'') := hb
        split at hb'
        · rename_i ek; subst ek
          cases hb'
          obtain ⟨arr, e, a1, a2, a3⟩ := b3
          refine ⟨blk, m1, by simp [Gh.rel, b2, mvL, hso.obj], arr, e, a1, by rw [a2, n1], low_rel he n1 n2 a3 (fun i hi => keep _ _ ?_)⟩
          simp only [mvL, selO]
          rw [if_neg (by omega)]
        · rename_i hne
          obtain ⟨blk', h1, h2, h3⟩ := hI.heap j g' cs'' hb'
          refine ⟨blk', h1, by simp [Gh.rel, h2, mvL, hso.obj], h3.ev he rfl fun i => keep _ _ ?_⟩
          simp only [mvL, selO]
          rw [if_neg (fun e => hne e.1)]
      next := hI.next
      hlt := fun j g' cs'' hb => by
        have hb' : (if j = p.1 then some (p.2.1, q.2) else st.hp.get j) = some (g', cs'') := hb
        show j < st.hp.next
        split at hb'
        · rename_i ek; subst ek; exact hI.hlt _ _ cs hget
        · exact hI.hlt j g' cs'' hb'
      new := hnw
      vars := hvars
      lps := hI.lps }
    unfold after
    rw [hdn]
    refine hI2.put o.dst hd (fun k' hk' => n4 _ k' he (fun i hi => keep _ _ ?_)) (fun k' g' off' e => absurd e (n3 k' g' off'))
    have hdd : d = k' := by simp [d, hk']
    simp only [mvL, selO]
    rw [if_pos ⟨trivial, trivial, by omega, by omega⟩, hdd]
    simp
  · cases hr
end
end Go.Proofs.Ytmnefpfbgadnkaa.AI
