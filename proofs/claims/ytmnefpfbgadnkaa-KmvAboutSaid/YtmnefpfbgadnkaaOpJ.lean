/- store, alloc, box; loads that take over. -/
import Derived.Test.YtmnefpfbgadnkaaOpI
namespace Go.Proofs.Ytmnefpfbgadnkaa.AI
open Go
set_option linter.unusedVariables false
set_option linter.unusedSimpArgs false

section
variable {c : Cx} {G : Gh} {w w' : World} {st : St} {a : Act} {o : Oper} {Q : Exit → Act → World → Prop}
theorem put_un (d : Option Nat) (hI : Inv G w st a.tmps) (hd : ∀ k, d = some k → k < a.tmps.size) (v : Value) : Inv G w ⟨putS st.sl d .un, st.bx, st.hp⟩ (a.put d v).tmps :=
  hI.put d hd (fun _ _ => trivial) (fun _ _ _ e => by cases e)
theorem rd_some {hp : Hp} {b g : Nat} {cs : List AV} (h : hp.rd b g = some cs) : hp.get b = some (g, cs) := by
  unfold Hp.rd at h
  obtain ⟨e, he, h⟩ := Option.bind_eq_some_iff.mp h
  split at h
  · rename_i hg
    have : e.2 = cs := Option.some.inj h
    rw [he, ← hg, ← this]
  · cases h
theorem op_store (hc : Ok c) (hI : Inv G w st a.tmps) (hd : Dst o a) (h : Nat) {t : TypeId} {ti : TI} (hti : c.tn t = some ti) {x y : Operand} (hop : o.op = .store t x y) {r : SV × BE × Hp}
    (hr : storeOpK ti (evS st.sl x) (evS st.sl y) (getB st.bx) st.hp k3 = some r) : o.wp c.P a w (Aft G w a (after h o st r.1 r.2.1 r.2.2)) Q := by
  have ht := hc.tt t ti (tn_some hti).1
  have hk := (tn_some hti).2
  have hxr := evR hI x
  have hdn : dnOp h o st.sl = dnAll (tmpsOf [y]) st.sl := by simp [dnOp, downs, hop]
  unfold storeOpK at hr
  obtain ⟨vs, hvs, hr⟩ := Option.bind_eq_some_iff.mp hr
  split at hr
  · rename_i k g off hx
    rw [hx] at hxr
    obtain ⟨blk, hla, hv⟩ := hxr
    split at hr
    · rename_i g' cs hgb
      split at hr
      · rename_i hg
        subst hg
        obtain ⟨cs', hcs', hr⟩ := Option.bind_eq_some_iff.mp hr
        cases hr
        obtain ⟨G1, hf1, hI1, hl1, hrel1, hla1, hmu1⟩ := hI.giveO y (f := fun i => .bc k g (off + i)) (fun i => trivial) hvs
        obtain ⟨blk', b1, b2, arr, e, b3, b4, b5⟩ := hI1.boxes k g cs hgb
        rw [hla1, hla] at b1; cases b1
        have hvl : vs.length = (a.eval y).cells.toList.length := hrel1.1
        obtain ⟨hle, _⟩ := putN_some hcs'
        have hsz : (a.eval y).cells.size = ti.size := by rw [← hl1, hvl]; simp
        obtain ⟨w', hrun, hwr⟩ := run_store_cells (P := c.P) ht hk (off := off) b3 hsz (by rw [b4]; rw [hvl] at hle; simpa using hle) hrel1.one
        obtain ⟨s1, s2⟩ := splice_rel (p := fun i => .bc k g i) (f := fun i => .bc k g (off + i)) hcs' b4 hvl b5 hrel1.2 (fun i => rfl)
        obtain ⟨hI2, hf2⟩ := hI1.writeBox hgb (by rw [hla1]; exact hla) b2 hwr s1 s2
        refine wp_skipv (w' := w') ?_ ⟨G1, ?_, hf1.trans hf2, put_size _ _ _, put_defers _ _ _⟩
        · simp only [execOp, hop, hv]
          rw [Sem.run_bind, hrun]; rfl
        · unfold after
          rw [hdn]
          exact put_un o.dst hI2 hd undef
      · cases hr
    · cases hr
  · rename_i z hx
    rw [hx] at hxr
    obtain ⟨p, hp, hr⟩ := Option.bind_eq_some_iff.mp hr
    obtain ⟨cs, hcs, hr⟩ := Option.bind_eq_some_iff.mp hr
    obtain ⟨cs', hcs', hr⟩ := Option.bind_eq_some_iff.mp hr
    cases hr
    have hz := getPtr_some hp
    subst hz
    obtain ⟨blk, m1, hv⟩ := relP (p := fun i => .sl (num x) 0 i) hxr
    have hget := rd_some hcs
    obtain ⟨G1, hf1, hI1, hl1, hrel1, hla1, hmu1⟩ := hI.giveO y (f := fun i => .oc p.1 p.2.1 (p.2.2 + i)) (fun i => trivial) hvs
    obtain ⟨blk', b1, b2, arr, e, b3, b4, b5⟩ := hI1.heap p.1 p.2.1 cs hget
    rw [hmu1, m1] at b1; cases b1
    have hvl : vs.length = (a.eval y).cells.toList.length := hrel1.1
    obtain ⟨hle, _⟩ := putN_some hcs'
    have hsz : (a.eval y).cells.size = ti.size := by rw [← hl1, hvl]; simp
    obtain ⟨w', hrun, hwr⟩ := run_store_cells (P := c.P) ht hk (off := p.2.2) b3 hsz (by rw [b4]; rw [hvl] at hle; simpa using hle) hrel1.one
    obtain ⟨s1, s2⟩ := splice_rel (p := fun i => .oc p.1 p.2.1 i) (f := fun i => .oc p.1 p.2.1 (p.2.2 + i)) hcs' b4 hvl b5 hrel1.2 (fun i => rfl)
    obtain ⟨hI2, hf2⟩ := hI1.writeObj hget (by rw [hmu1]; exact m1) b2 hwr s1 s2
    refine wp_skipv (w' := w') ?_ ⟨G1, ?_, hf1.trans hf2, put_size _ _ _, put_defers _ _ _⟩
    · simp only [execOp, hop, hv]
      rw [Sem.run_bind, hrun]; rfl
    · unfold after
      rw [hdn]
      exact put_un o.dst hI2 hd undef
  · cases hr

/-! ### new variables -/
theorem zeroA_rel {l : List Value} {arr : Array Value} (h : arr.toList = l) (h1 : ∀ v ∈ l, v.oneCell' = true) :
    arr.size = (zeroA l).length ∧ ∀ (i : Nat) (x : AV) (u : Value), (zeroA l)[i]? = some x → arr[i]? = some u → RelR G w x u := by
  subst h
  refine ⟨by simp [zeroA], fun i x u hx hu => ?_⟩
  obtain ⟨y, hy, rfl⟩ := list_map_get _ _ _ _ hx
  have : arr.toList[i]? = some u := by simpa using hu
  rw [hy] at this; cases this
  exact .sc _ (h1 _ (List.mem_of_getElem? hy))
theorem new_alloc (w : World) (ob : Obj) : New w { w with heap := w.heap.push ob } ob := ⟨rfl, rfl, rfl, rfl⟩
theorem op_alloc (hc : Ok c) (hI : Inv G w st a.tmps) (hd : Dst o a) (h : Nat) {t : TypeId} {ti : TI} (hti : c.tn t = some ti) (hop : o.op = .alloc t) {r : SV × BE × Hp}
    (hr : (if h = 2 then k3 (.av (.ptr st.hp.next 0 0)) none (st.hp.new (zeroA ti.zero)) else
      match o.dst with
      | some d => let g := match getB st.bx d with | some (g, _) => g + 1 | none => 0
        k3 (.lp d g 0) (some (d, g, zeroA ti.zero)) st.hp
      | none => none) = some r) : o.wp c.P a w (Aft G w a (after h o st r.1 r.2.1 r.2.2)) Q := by
  have ht := hc.tt t ti (tn_some hti).1
  obtain ⟨z, z1, z2, z3, z4⟩ := ht.zero (tn_some hti).2
  have hdn : dnOp h o st.sl = st.sl := by simp [dnOp, downs, hop, dnAll]
  obtain ⟨r1, r2⟩ := zeroA_rel (G := G) (w := w) z1 z3
  have hrun : (execOp a.eval o).run c.P w = .ok (.value (.pointer (some ⟨w.heap.size, 0, none⟩))) { w with heap := w.heap.push (.cells z.cells t (0, 0)) } := by
    simp only [execOp, hop, Instr.alloc]
    simp [z4, newVar, newRow]
  split at hr
  · cases hr
    refine wp_value hrun (aft_obj hI h hdn hd (new_alloc w _) r1 r2 (fun G' hG k => ?_) (fun _ _ _ e => by cases e))
    exact RelR.ptr _ _ _ _ hG
  · split at hr
    · rename_i d hdst
      cases hr
      exact wp_value hrun (aft_box hI h hdn hdst (hd d hdst) (new_alloc w _) r1 r2 rfl)
    · cases hr
theorem roL_rel {p : Nat → Ow} {l : List AV} {vs : List Value} {arr : Array Value} (h : RelL G w p l vs) (ha : arr.toList = vs) :
    arr.size = (l.map ro1).length ∧ ∀ (i : Nat) (x : AV) (u : Value), (l.map ro1)[i]? = some x → arr[i]? = some u → RelR G w x u := by
  subst ha
  refine ⟨by have := h.1; simp at this ⊢; omega, fun i x u hx hu => ?_⟩
  obtain ⟨y, hy, rfl⟩ := list_map_get _ _ _ _ hx
  exact (h.2 i y u hy (by simpa using hu)).ro
theorem op_box (hc : Ok c) (hI : Inv G w st a.tmps) (hd : Dst o a) (h : Nat) {t : TypeId} {ti : TI} (hti : c.tn t = some ti) {x : Operand} (hop : o.op = .box t x) {r : SV × BE × Hp}
    (hr : ((valC ti.size (evS st.sl x)).bind fun vs => if h = 2 then k3 (.av (.ptr st.hp.next 0 0)) none (st.hp.new (vs.map ro1)) else
      match o.dst with
      | some d => let g := match getB st.bx d with | some (g, _) => g + 1 | none => 0
        k3 (.lp d g 0) (some (d, g, vs.map ro1)) st.hp
      | none => none) = some r) : o.wp c.P a w (Aft G w a (after h o st r.1 r.2.1 r.2.2)) Q := by
  obtain ⟨vs, hvs, hr⟩ := Option.bind_eq_some_iff.mp hr
  have hv := RelS.valC (evR hI x) hvs
  have hdn : dnOp h o st.sl = st.sl := by simp [dnOp, downs, hop, dnAll]
  obtain ⟨r1, r2⟩ := roL_rel (arr := (a.eval x).cells) hv.2 rfl
  have hrun : (execOp a.eval o).run c.P w = .ok (.value (.pointer (some ⟨w.heap.size, 0, none⟩))) { w with heap := w.heap.push (.cells (a.eval x).cells t (0, 0)) } := by
    simp only [execOp, hop, Instr.box]
    simp [newVar, newRow]
  split at hr
  · cases hr
    refine wp_value hrun (aft_obj hI h hdn hd (new_alloc w _) r1 r2 (fun G' hG k => ?_) (fun _ _ _ e => by cases e))
    exact RelR.ptr _ _ _ _ hG
  · split at hr
    · rename_i d hdst
      cases hr
      exact wp_value hrun (aft_box hI h hdn hdst (hd d hdst) (new_alloc w _) r1 r2 rfl)
    · cases hr
end
end Go.Proofs.Ytmnefpfbgadnkaa.AI
