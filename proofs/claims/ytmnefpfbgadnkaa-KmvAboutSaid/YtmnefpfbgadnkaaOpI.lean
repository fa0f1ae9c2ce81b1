/- New objects; writing to variables, to objects. -/
import Derived.Test.YtmnefpfbgadnkaaOpH
namespace Go.Proofs.Ytmnefpfbgadnkaa.AI
open Go
set_option linter.unusedVariables false
set_option linter.unusedSimpArgs false

section
variable {c : Cx} {G : Gh} {w w' : World} {st : St} {a : Act} {o : Oper} {Q : Exit → Act → World → Prop}
theorem Inv.lt (hI : Inv G w st a.tmps) {b : Nat} {p : Ow} (hb : G.Om b = p) (hp : p ≠ .fr) : b < w.heap.size := by
  rcases Nat.lt_or_ge b w.heap.size with h | h
  · exact h
  · rw [(hI.new b h).1] at hb; exact absurd hb.symm hp
/-- A new object. -/
theorem aft_obj (hI : Inv G w st a.tmps) (h : Nat) (ho : dnOp h o st.sl = st.sl) (hd : Dst o a) {cs : List AV} {arr : Array Value} {e : TypeId}
    (hw : New w w' (.cells arr e (0, 0))) (hlen : arr.size = cs.length) (hrel : ∀ (i : Nat) (x : AV) (u : Value), cs[i]? = some x → arr[i]? = some u → RelR G w x u) {s : SV} {v : Value}
    (hs : ∀ G', G'.mu st.hp.next 0 = some w.heap.size → ∀ k, RelS G' w' k s v) (hsl : ∀ k g off, s ≠ .lp k g off) :
    Aft G w a (after h o st s none (st.hp.new cs)) (a.put o.dst v) w' := by
  let mu : Nat → Nat → Option Nat := fun b g => if b = st.hp.next ∧ g = 0 then some w.heap.size else G.mu b g
  let G' := G.add w.heap.size (.obj st.hp.next 0) 0 mu G.la
  have hmu : ∀ b g x, G.mu b g = some x → mu b g = some x := by
    intro b g x hx
    have hne : ¬ (b = st.hp.next ∧ g = 0) := by
      rintro ⟨rfl, rfl⟩
      rw [hI.next _ 0 (Nat.le_refl _)] at hx; cases hx
    simp [mu, hne, hx]
  have hf : Fr G w G' w' := Fr.new hI hw (.obj st.hp.next 0) 0 hmu
  have hk := fun {p : Ow} (hp : p ≠ .fr) => keeps_new hI hw (.obj st.hp.next 0) 0 mu G.la hp
  have hI' : Inv G' w' ⟨st.sl, st.bx, st.hp.new cs⟩ a.tmps := {
    slots := fun k => RelS.ev hf.ev (fun j i => hk (by simp)) (fun _ _ _ _ _ h => h) (hI.slots k)
    boxes := fun k g cs h => by
      obtain ⟨blk, h1, h2, h3⟩ := hI.boxes k g cs h
      have hb := hI.lt h2 (by simp)
      exact ⟨blk, h1, by simp [G', Gh.add, Nat.ne_of_lt hb, h2], h3.ev hf.ev (hw.old hb) fun i => hk (by simp)⟩
    heap := fun k g cs' hg => by
      have hg' : (if k = st.hp.next then some (0, cs) else st.hp.get k) = some (g, cs') := hg
      split at hg'
      · rename_i e; subst e
        cases hg'
        refine ⟨w.heap.size, by simp [G', Gh.add, mu], by simp [G', Gh.add], arr, _, hw.at, hlen, fun i x u hx hu => ?_⟩
        exact ((hrel i x u hx hu).ev hf.ev).c _
      · rename_i hne
        obtain ⟨blk, h1, h2, h3⟩ := hI.heap k g cs' hg'
        have hb := hI.lt h2 (by simp)
        have hne' : ¬ (k = st.hp.next ∧ g = 0) := fun e => hne e.1
        exact ⟨blk, by simp [G', Gh.add, mu, hne', h1], by simp [G', Gh.add, Nat.ne_of_lt hb, h2], h3.ev hf.ev (hw.old hb) fun i => hk (by simp)⟩
    next := fun b g hb => by
      have hb' : st.hp.next + 1 ≤ b := hb
      have hne : ¬ (b = st.hp.next ∧ g = 0) := fun e => by omega
      show mu b g = none
      simp only [mu, hne, if_false]
      exact hI.next b g (by omega)
    hlt := fun b g cs' hg => by
      have hg' : (if b = st.hp.next then some (0, cs) else st.hp.get b) = some (g, cs') := hg
      show b < st.hp.next + 1
      split at hg'
      · omega
      · have := hI.hlt b g cs' hg'; omega
    new := fun b hb => by
      rw [hw.size] at hb
      have hne : b ≠ w.heap.size := by omega
      simp only [G', Gh.add, hne, if_false]
      exact hI.new b (by omega)
    vars := fun b hb => by
      by_cases e : b = w.heap.size
      · simp [G', Gh.add, e]
      · simp only [G', Gh.add, e, if_false] at hb ⊢
        exact hI.vars b hb
    lps := hI.lps }
  refine ⟨G', ?_, hf, put_size _ _ _, put_defers _ _ _⟩
  unfold after
  rw [ho]
  exact hI'.put o.dst hd (fun k _ => hs G' (by simp [G', Gh.add, mu]) k) (fun k g off e => absurd e (hsl k g off))

/-! ### what a slot holds is given away -/
def mvF (t : Nat) (f : Nat → Ow) : Ow → Ow
  | .sl k j i => if k = t ∧ j = 0 then f i else .sl k j i
  | p => p
/-- A name that may be given. -/
def Nm (p : Ow) : Prop := match p with | .box _ _ => False | .obj _ _ => False | .fr => False | .oth => False | _ => True
theorem mvF_rho (t : Nat) {f : Nat → Ow} (hf : ∀ i, Nm (f i)) : Rho (mvF t f) where
  fr := rfl
  oth := rfl
  box p k g h := by
    cases p <;> simp only [mvF] at h <;> first | exact h | skip
    split at h
    · rename_i i _; have := hf i; rw [h] at this; exact this.elim
    · cases h
  obj p k g h := by
    cases p <;> simp only [mvF] at h <;> first | exact h | skip
    split at h
    · rename_i i _; have := hf i; rw [h] at this; exact this.elim
    · cases h
theorem Inv.give (hI : Inv G w st a.tmps) (t : Nat) {f : Nat → Ow} (hf : ∀ i, Nm (f i)) : Inv (G.rel (mvF t f)) w ⟨dnAll [t] st.sl, st.bx, st.hp⟩ a.tmps := by
  have hr := mvF_rho t hf
  have he : Ev G w (G.rel (mvF t f)) w := (Fr.rel hr).ev
  have keep : ∀ p q, mvF t f p = q → Keeps G w (G.rel (mvF t f)) w p q := fun p q hpq b hb => ⟨rfl, rfl, by simp [Gh.rel, hb, hpq]⟩
  obtain ⟨hn, hv⟩ := hI.relNew hr
  exact {
    slots := fun j => by
      show RelS _ w j (slot (dnAll [t] st.sl) j) _
      rw [slot_dnAll]
      split
      · exact RelS.ro he (k := j) j (fun _ _ _ _ _ h => h) (hI.slots j)
      · rename_i hne
        refine RelS.ev he (k := j) (k' := j) (fun j' i => keep _ _ ?_) (fun _ _ _ _ _ h => h) (hI.slots j)
        have : j ≠ t := by simpa using hne
        simp [mvF, this]
    boxes := fun j g cs h => by
      obtain ⟨blk, h1, h2, h3⟩ := hI.boxes j g cs h
      exact ⟨blk, h1, by simp [Gh.rel, h2, mvF], h3.ev he rfl fun i => keep _ _ rfl⟩
    heap := fun j g cs h => by
      obtain ⟨blk, h1, h2, h3⟩ := hI.heap j g cs h
      exact ⟨blk, h1, by simp [Gh.rel, h2, mvF], h3.ev he rfl fun i => keep _ _ rfl⟩
    next := hI.next
    hlt := hI.hlt
    new := hn
    vars := hv
    lps := fun i j g off e => by
      have e' : slot (dnAll [t] st.sl) i = .lp j g off := e
      rw [slot_dnAll] at e'
      split at e'
      · exact hI.lps i j g off (ro_lp.mp e')
      · exact hI.lps i j g off e' }
/-- The value's cells, given new names: whatever the operand is. -/
theorem Inv.giveO (hI : Inv G w st a.tmps) (x : Operand) {f : Nat → Ow} (hf : ∀ i, Nm (f i)) {n : Nat} {l : List AV} (hl : valC n (evS st.sl x) = some l) :
    ∃ G', Fr G w G' w ∧ Inv G' w ⟨dnAll (tmpsOf [x]) st.sl, st.bx, st.hp⟩ a.tmps ∧ l.length = n ∧ RelL G' w f l (a.eval x).cells.toList ∧ G'.la = G.la ∧ G'.mu = G.mu := by
  have hv := RelS.valC (evR hI x) hl
  by_cases hx : ∃ t, x = .tmp t
  · obtain ⟨t, rfl⟩ := hx
    have hr := mvF_rho t hf
    refine ⟨G.rel (mvF t f), Fr.rel hr, hI.give t hf, hv.1, hv.2.ev (Fr.rel hr).ev (fun i b hb => ⟨rfl, rfl, ?_⟩), rfl, rfl⟩
    simp [Gh.rel, hb, mvF, num]
  · have hx' : ∀ t, x ≠ .tmp t := fun t e => hx ⟨t, e⟩
    have hto : tmpsOf [x] = [] := by cases x <;> first | rfl | exact absurd rfl (hx' _)
    rw [hto]
    refine ⟨G, Fr.refl G w, hI, hv.1, ⟨hv.2.1, fun i y u hy hu => ?_⟩, rfl, rfl⟩
    have hrel := hv.2.2 i y u hy hu
    -- no token: a constant
    have hnt : RelR G w y u := by
      cases x with
      | tmp t => exact absurd rfl (hx' t)
      | const v =>
        revert hl
        simp only [evS]
        split
        · split
          · intro hl
            simp only [AI.valC, cellsN] at hl
            split at hl
            · cases hl
              obtain ⟨z, hz, rfl⟩ := list_map_get _ _ _ _ hy
              exact hrel
            · cases hl
          · intro hl; cases hl
        · intro hl; cases hl
        · intro hl
          simp only [AI.valC] at hl
          split at hl
          · cases hl
            match i, hy with
            | 0, hy => simp at hy; subst hy; exact hrel
            | i + 1, hy => simp at hy
          · cases hl
      | global g => cases hl
      | func fn =>
        simp only [evS, AI.valC, cellsN] at hl
        split at hl
        · cases hl
          match i, hy with
          | 0, hy => simp at hy; subst hy; exact hrel
          | i + 1, hy => simp at hy
        · cases hl
    exact hnt.c _

/-! ### writes -/
structure Wr (w w' : World) (blk : Nat) (arr : Array Value) (e : TypeId) : Prop where
  size : w'.heap.size = w.heap.size
  at_ : w'.heap[blk]? = some (.cells arr e (0, 0))
  other : ∀ b, b ≠ blk → w'.heap[b]? = w.heap[b]?
  rest : Rest w w'
theorem putN_some {cs vs cs' : List AV} {i : Nat} (h : putN cs i vs = some cs') : i + vs.length ≤ cs.length ∧ cs' = cs.take i ++ vs ++ cs.drop (i + vs.length) := by
  unfold putN at h
  split at h
  · cases h; exact ⟨by assumption, rfl⟩
  · cases h
theorem put_get {α : Type} (cs vs : List α) (i : Nat) (h : i + vs.length ≤ cs.length) (k : Nat) :
    (cs.take i ++ vs ++ cs.drop (i + vs.length))[k]? = if i ≤ k ∧ k < i + vs.length then vs[k - i]? else cs[k]? := by
  have hl : (cs.take i).length = i := by simp; omega
  rw [List.append_assoc]
  by_cases h1 : k < i
  · rw [List.getElem?_append_left (by omega), List.getElem?_take, if_pos h1, if_neg (by omega)]
  · rw [List.getElem?_append_right (by omega), hl]
    by_cases h2 : k < i + vs.length
    · rw [List.getElem?_append_left (by omega), if_pos ⟨by omega, h2⟩]
    · rw [List.getElem?_append_right (by omega), if_neg (by omega), List.getElem?_drop]
      congr 1; omega
theorem run_store_cells {P : Program} {t : TypeId} {ti : TI} (ht : TOk P t ti) (hk : isTu ti.k = false) {blk off : Nat} {arr : Array Value} {e : TypeId} (hw : w.heap[blk]? = some (.cells arr e (0, 0))) {v : Value}
    (hsz : v.cells.size = ti.size) (hle : off + v.cells.size ≤ arr.size) (hone : ∀ u ∈ v.cells.toList, u.oneCell' = true) :
    ∃ w', (Instr.storeAt t (.pointer (some ⟨blk, off, none⟩)) v).run P w = .ok () w' ∧
      Wr w w' blk (arr.toList.take off ++ v.cells.toList ++ arr.toList.drop (off + v.cells.toList.length)).toArray e := by
  have hrun := run_storeCells_at P blk off e v.cells.toList 0 arr w hw (by simpa using hle) hone
  simp only [Nat.add_zero] at hrun
  refine ⟨w.setRow blk (arr.toList.take off ++ v.cells.toList ++ arr.toList.drop (off + v.cells.toList.length)).toArray, ?_,
    by simp, setRow_heap w blk arr _ e _ hw, fun b hb => setRow_other w blk b _ hb, ⟨rfl, rfl, rfl⟩⟩
  simp only [Instr.storeAt, Instr.sureAddr, storeVar]
  simp only [Sem.run_bind, Sem.run_pure, Result.andThen_ok, ht.sizeOf hk w, hsz]
  simp only [ne_eq, not_true_eq_false, if_false]
  exact hrun
theorem Fr.wr (hI : Inv G w st a.tmps) {blk : Nat} {arr : Array Value} {e : TypeId} (hw : Wr w w' blk arr e) (hb : (∃ k g, G.Om blk = .box k g) ∨ (∃ k g, G.Om blk = .obj k g)) : Fr G w G w' where
  size := by rw [hw.size]; exact Nat.le_refl _
  cells b i hi := by
    have hne : b ≠ blk := by rintro rfl; rw [hI.vars b hb] at hi; omega
    exact cell_of_same (hw.other b hne) i
  imm b := Nat.le_refl _
  mu _ _ _ h := h
  same b _ ho := by
    have hne : b ≠ blk := by
      rintro rfl
      rcases hb with ⟨k, g, h⟩ | ⟨k, g, h⟩ <;> rcases ho with h' | h' <;> rw [h] at h' <;> cases h'
    exact ⟨hw.other b hne, rfl, rfl⟩
  rest := hw.rest
theorem keeps_wr {blk : Nat} {arr : Array Value} {e : TypeId} (hw : Wr w w' blk arr e) {p : Ow} (hp : p ≠ G.Om blk) : Keeps G w G w' p p := by
  intro b hb
  have hne : b ≠ blk := by rintro rfl; exact hp hb.symm
  exact ⟨hw.other b hne, rfl, hb⟩
theorem Inv.writeBox (hI : Inv G w st a.tmps) {k g : Nat} {cs cs' : List AV} (hg : getB st.bx k = some (g, cs)) {blk : Nat} (hla : G.la k g = some blk) (hom : G.Om blk = .box k g)
    {arr : Array Value} {e : TypeId} (hw : Wr w w' blk arr e) (hlen : arr.size = cs'.length) (hrel : ∀ (i : Nat) (x : AV) (u : Value), cs'[i]? = some x → arr[i]? = some u → RelC G w (.bc k g i) x u) :
    Inv G w' ⟨st.sl, setB st.bx k g cs', st.hp⟩ a.tmps ∧ Fr G w G w' := by
  have hf := Fr.wr hI hw (.inl ⟨k, g, hom⟩)
  have hk : ∀ p, (∀ k g, p ≠ .box k g) → Keeps G w G w' p p := fun p hp => keeps_wr hw (by rw [hom]; exact hp k g)
  refine ⟨?_, hf⟩
  exact {
    slots := fun j => RelS.ev hf.ev (fun j' i => hk _ (by simp)) (fun _ _ _ _ _ h => h) (hI.slots j)
    boxes := fun j g' cs'' hb => by
      have hb' : getB (setB st.bx k g cs') j = some (g', cs'') := hb
      rw [getB_put] at hb'
      split at hb'
      · rename_i ek; subst ek
        cases hb'
        exact ⟨blk, hla, hom, arr, e, hw.at_, hlen, fun i x u hx hu => (hrel i x u hx hu).ev hf.ev (hk _ (by simp))⟩
      · rename_i hne
        obtain ⟨blk', h1, h2, h3⟩ := hI.boxes j g' cs'' hb'
        have hbb : blk' ≠ blk := by
          rintro rfl; rw [hom] at h2; cases h2; exact hne rfl
        exact ⟨blk', h1, h2, h3.ev hf.ev (hw.other _ hbb) fun i => hk _ (by simp)⟩
    heap := fun j g' cs'' hb => by
      obtain ⟨blk', h1, h2, h3⟩ := hI.heap j g' cs'' hb
      have hbb : blk' ≠ blk := by rintro rfl; rw [hom] at h2; cases h2
      exact ⟨blk', h1, h2, h3.ev hf.ev (hw.other _ hbb) fun i => hk _ (by simp)⟩
    next := hI.next
    hlt := hI.hlt
    new := fun b hb => hI.new b (by rw [hw.size] at hb; exact hb)
    vars := hI.vars
    lps := fun j k' g' off hs => by
      obtain ⟨g'', cs'', h1, h2⟩ := hI.lps j k' g' off hs
      show ∃ g'' cs'', getB (setB st.bx k g cs') k' = some (g'', cs'') ∧ g' ≤ g''
      rw [getB_put]
      split
      · rename_i ek; subst ek
        rw [hg] at h1; cases h1
        exact ⟨g, cs', rfl, h2⟩
      · exact ⟨g'', cs'', h1, h2⟩ }
theorem Inv.writeObj (hI : Inv G w st a.tmps) {b g : Nat} {cs cs' : List AV} (hg : st.hp.get b = some (g, cs)) {blk : Nat} (hmu : G.mu b g = some blk) (hom : G.Om blk = .obj b g)
    {arr : Array Value} {e : TypeId} (hw : Wr w w' blk arr e) (hlen : arr.size = cs'.length) (hrel : ∀ (i : Nat) (x : AV) (u : Value), cs'[i]? = some x → arr[i]? = some u → RelC G w (.oc b g i) x u) :
    Inv G w' ⟨st.sl, st.bx, st.hp.put b g cs'⟩ a.tmps ∧ Fr G w G w' := by
  have hf := Fr.wr hI hw (.inr ⟨b, g, hom⟩)
  have hk : ∀ p, (∀ k g, p ≠ .obj k g) → Keeps G w G w' p p := fun p hp => keeps_wr hw (by rw [hom]; exact hp b g)
  refine ⟨?_, hf⟩
  exact {
    slots := fun j => RelS.ev hf.ev (fun j' i => hk _ (by simp)) (fun _ _ _ _ _ h => h) (hI.slots j)
    boxes := fun j g' cs'' hb => by
      obtain ⟨blk', h1, h2, h3⟩ := hI.boxes j g' cs'' hb
      have hbb : blk' ≠ blk := by rintro rfl; rw [hom] at h2; cases h2
      exact ⟨blk', h1, h2, h3.ev hf.ev (hw.other _ hbb) fun i => hk _ (by simp)⟩
    heap := fun j g' cs'' hb => by
      have hb' : (if j = b then some (g, cs') else st.hp.get j) = some (g', cs'') := hb
      split at hb'
      · rename_i ek; subst ek
        cases hb'
        exact ⟨blk, hmu, hom, arr, e, hw.at_, hlen, fun i x u hx hu => (hrel i x u hx hu).ev hf.ev (hk _ (by simp))⟩
      · rename_i hne
        obtain ⟨blk', h1, h2, h3⟩ := hI.heap j g' cs'' hb'
        have hbb : blk' ≠ blk := by
          rintro rfl; rw [hom] at h2; cases h2; exact hne rfl
        exact ⟨blk', h1, h2, h3.ev hf.ev (hw.other _ hbb) fun i => hk _ (by simp)⟩
    next := hI.next
    hlt := fun j g' cs'' hb => by
      have hb' : (if j = b then some (g, cs') else st.hp.get j) = some (g', cs'') := hb
      show j < st.hp.next
      split at hb'
      · rename_i ek; subst ek; exact hI.hlt j g cs hg
      · exact hI.hlt j g' cs'' hb'
    new := fun b hb => hI.new b (by rw [hw.size] at hb; exact hb)
    vars := hI.vars
    lps := hI.lps }
/-- Cells written over cells. -/
theorem splice_rel {p f : Nat → Ow} {cs vs cs' : List AV} {off : Nat} {arr : Array Value} {us : List Value} (hp : putN cs off vs = some cs') (hlen : arr.size = cs.length) (hvl : vs.length = us.length)
    (hc : ∀ (i : Nat) (x : AV) (u : Value), cs[i]? = some x → arr[i]? = some u → RelC G w (p i) x u) (hv : ∀ (i : Nat) (x : AV) (u : Value), vs[i]? = some x → us[i]? = some u → RelC G w (f i) x u) (hf : ∀ i, f i = p (off + i)) :
    let arr' := (arr.toList.take off ++ us ++ arr.toList.drop (off + us.length)).toArray
    arr'.size = cs'.length ∧ ∀ (i : Nat) (x : AV) (u : Value), cs'[i]? = some x → arr'[i]? = some u → RelC G w (p i) x u := by
  obtain ⟨hle, rfl⟩ := putN_some hp
  have hle' : off + us.length ≤ arr.toList.length := by simp; omega
  refine ⟨by simp; omega, fun i x u hx hu => ?_⟩
  have hu' : (arr.toList.take off ++ us ++ arr.toList.drop (off + us.length))[i]? = some u := by simpa using hu
  rw [put_get _ _ _ hle'] at hu'
  rw [put_get _ _ _ hle] at hx
  rw [hvl] at hx
  split at hx
  · rename_i hin
    rw [if_pos hin] at hu'
    have := hv (i - off) x u hx hu'
    rw [hf] at this
    rwa [show off + (i - off) = i by omega] at this
  · rename_i hin
    rw [if_neg hin] at hu'
    exact hc i x u hx (by simpa using hu')
end
end Go.Proofs.Ytmnefpfbgadnkaa.AI
