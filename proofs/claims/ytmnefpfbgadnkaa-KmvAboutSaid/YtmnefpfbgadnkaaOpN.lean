/- build of arrays, buildSlice, make, function values, fields of values. -/
import Derived.Test.YtmnefpfbgadnkaaOpM
import Derived.Laws.MakeOwn
import Derived.Great.BuildSlice
import Derived.Lib.ConvBytes
namespace Go.Proofs.Ytmnefpfbgadnkaa.AI
open Go
set_option linter.unusedVariables false
set_option linter.unusedSimpArgs false

section
variable {c : Cx} {G : Gh} {w w' : World} {st : St} {a : Act} {o : Oper} {Q : Exit → Act → World → Prop}
theorem parts_map (a : Act) (ps : Array (Nat × Operand)) : (ps.map fun (i, x) => (i, a.eval x)).toList = ps.toList.map fun p => (p.1, a.eval p.2) := by
  simp
theorem op_build_ar (hc : Ok c) (hI : Inv G w st a.tmps) (hd : Dst o a) (h : Nat) {t e : TypeId} {ti ei : TI} (hti : c.tn t = some ti) {ps : Array (Nat × Operand)} (hop : o.op = .build t ps) {n : Nat} (hk : ti.k = .ar n e) (hei : c.tn e = some ei)
    {cs : List AV} (hr : fillK (fun i => some (i * ei.size, ei.size)) (evS st.sl) some ps.toList (zeroA ti.zero) = some cs) : o.wp c.P a w (Aft G w a (after h o st (.av (.agg (cs.map ro1))) none st.hp)) Q := by
  have ht := hc.tt t ti (tn_some hti).1
  obtain ⟨z, z1, z2, z3, z4⟩ := ht.zero (tn_some hti).2
  obtain ⟨d, hd1, hd2⟩ := ht.und
  rw [hk] at hd2
  cases hd2
  have hs := fun w => (hc.tt e ei (tn_some hei).1).sizeOf (tn_some hei).2 w
  obtain ⟨arr, ha, hl⟩ := fill_rel hI (arr := z.cells) hr (by rw [z1]; exact lowL_zero z3)
  refine wp_value (v := .agg arr) (w' := w) ?_ (aft_value hI h (by simp [dnOp, hop]) hd (fun k => lowL_v hl k) (fun _ _ _ e => by cases e))
  simp only [execOp, hop, Instr.build]
  simp only [Sem.run_bind, z4, Result.andThen_ok, run_underlying hd1, hs, parts_map, ha]
  rfl

/-! ### rows of zeros -/
theorem flat_get {α : Type} (l : List α) (n : Nat) : ∀ (k : Nat), k < n * l.length → (List.replicate n l).flatten[k]? = l[k % l.length]? := by
  induction n with
  | zero => intro k hk; simp at hk
  | succ n ih =>
    intro k hk
    rw [List.replicate_succ, List.flatten_cons]
    by_cases h : k < l.length
    · rw [List.getElem?_append_left h, Nat.mod_eq_of_lt h]
    · rw [List.getElem?_append_right (by omega)]
      have h' : k - l.length < n * l.length := by rw [Nat.add_mul] at hk; omega
      rw [ih _ h', Nat.mod_eq_sub_mod (by omega : k ≥ l.length)]
theorem flat_len {α : Type} (l : List α) (n : Nat) : (List.replicate n l).flatten.length = n * l.length := by
  induction n with
  | zero => simp
  | succ n ih => rw [List.replicate_succ, List.flatten_cons, List.length_append, ih, Nat.add_mul]; omega
theorem made_rel {z : Array Value} {zs : List Value} {size : Nat} (h1 : z.toList = zs) (h2 : zs.length = size) (h3 : ∀ v ∈ zs, v.oneCell' = true) (n : Nat) :
    ((List.replicate n (zeroA zs)).flatten).length = n * size ∧
    (∀ (k : Nat) (x : AV), ((List.replicate n (zeroA zs)).flatten)[k]? = some x → ∃ u, (madeCells z (n * size))[k]? = some u ∧ RelR G w x u) := by
  have hzl : (zeroA zs).length = size := by simp [zeroA, h2]
  have hl : ((List.replicate n (zeroA zs)).flatten).length = n * size := by rw [flat_len, hzl]
  refine ⟨hl, fun k x hx => ?_⟩
  have hk : k < n * size := by rw [← hl]; exact (List.getElem?_eq_some_iff.mp hx).1
  rw [flat_get _ _ _ (by rw [hzl]; exact hk), hzl] at hx
  obtain ⟨y, hy, rfl⟩ := list_map_get _ _ _ _ hx
  have hzs : z.size = size := by rw [← h2, ← h1]; simp
  refine ⟨y, ?_, .sc _ (h3 _ (List.mem_of_getElem? hy))⟩
  have hlt : k % size < z.size := by rw [hzs]; exact Nat.mod_lt _ (Nat.pos_of_ne_zero (by rintro rfl; simp at hk))
  have : z[k % size]? = some y := by rw [← hy, ← h1]; simp
  unfold madeCells
  rw [Array.getElem?_map, Array.getElem?_range, if_pos hk, Option.map_some, hzs]
  congr 1
  rw [getElem!_pos z _ hlt]
  rw [Array.getElem?_eq_getElem hlt] at this
  exact Option.some.inj this
theorem made_low {z : Array Value} {zs : List Value} {size : Nat} (h1 : z.toList = zs) (h2 : zs.length = size) (h3 : ∀ v ∈ zs, v.oneCell' = true) (n : Nat) :
    LowL G w ((List.replicate n (zeroA zs)).flatten) (madeCells z (n * size)).toList := by
  obtain ⟨a1, a2⟩ := made_rel (G := G) (w := w) h1 h2 h3 n
  refine ⟨by rw [a1]; simp [madeCells], fun i x u hx hu => ?_⟩
  obtain ⟨u', hu', hr⟩ := a2 i x hx
  have : u' = u := by
    have hu2 : (madeCells z (n * size))[i]? = some u := by simpa using hu
    rw [hu'] at hu2; exact Option.some.inj hu2
  subst this
  rw [ro1_of_r hr]; exact hr
theorem low_get {cs : List AV} {arr : Array Value} (h : LowL G w cs arr.toList) : ∀ (k : Nat) (x : AV), (cs.map ro1)[k]? = some x → ∃ u, arr[k]? = some u ∧ RelR G w x u := by
  intro k x hx
  obtain ⟨y, hy, rfl⟩ := list_map_get _ _ _ _ hx
  obtain ⟨u, hu⟩ := get_of_len h.1 hy
  exact ⟨u, by simpa using hu, h.2 k y u hy hu⟩
theorem TOk.info {P : Program} {t : TypeId} {ti : TI} (h : TOk P t ti) (hk : isTu ti.k = false) : ∃ i z, P.info? t = some i ∧ i.size = ti.size ∧ i.bytes = ti.bytes ∧ i.zero = some z ∧ z.cells.toList = ti.zero ∧ ti.zero.length = ti.size ∧ ∀ v ∈ ti.zero, v.oneCell' = true := by
  obtain ⟨_, _, info, d, h1, h2, h3, h4, h5⟩ := h
  obtain ⟨h6, z, h7, h8, h9, h10⟩ := h5 hk
  exact ⟨info, z, h1, h6, h4, h7, h8, h9, h10⟩
theorem op_buildSlice (hc : Ok c) (hI : Inv G w st a.tmps) (hd : Dst o a) (h : Nat) {t e : TypeId} {ti ei : TI} (hti : c.tn t = some ti) {n : Nat} {ps : Array (Nat × Operand)} (hop : o.op = .buildSlice t n ps) (hk : ti.k = .sl e) (hei : c.tn e = some ei)
    (hn : n * ei.size ≤ 4096) (hpos : 0 < ei.size) {cs : List AV} (hr : fillK (fun i => some (i * ei.size, ei.size)) (evS st.sl) some ps.toList (List.replicate n (zeroA ei.zero)).flatten = some cs) :
    o.wp c.P a w (Aft G w a (after h o st (.av (.us ei.size (cs.map ro1))) none st.hp)) Q := by
  obtain ⟨d, hd1, hd2⟩ := (hc.tt t ti (tn_some hti).1).und
  rw [hk] at hd2
  cases hd2
  obtain ⟨i, z, i1, i2, i3, i4, i5, i6, i7⟩ := (hc.tt e ei (tn_some hei).1).info (tn_some hei).2
  obtain ⟨arr, ha, hl⟩ := fill_rel hI (arr := madeCells z.cells (n * ei.size)) hr (made_low i5 i6 i7 n)
  have hsz : arr.size = n * ei.size ∧ cs.length = n * ei.size := by
    have hfl : ∀ {l : List (Nat × Value)} {A B : Array Value} {pl : Nat → Option (Nat × Nat)}, Instr.fill pl A l = some B → B.size = A.size := by
      intro l
      induction l with
      | nil => intro A B pl h; simp only [Instr.fill] at h; cases h; rfl
      | cons p l ih =>
        intro A B pl h
        simp only [Instr.fill] at h
        split at h
        · cases h
        · split at h
          · cases h
          · rw [ih h]
            have hf : ∀ (q : List (Value × Nat)) (off : Nat) (A : Array Value), (q.foldl (fun cs x => cs.setIfInBounds (off + x.2) x.1) A).size = A.size := by
              intro q
              induction q with
              | nil => intro off A; rfl
              | cons x q ihq => intro off A; simp only [List.foldl_cons]; rw [ihq]; simp
            rw [← Array.foldl_toList]
            exact hf _ _ _
    have h1 := hfl ha
    rw [size_madeCells] at h1
    have h2 := hl.1
    simp at h2
    exact ⟨h1, by omega⟩
  have hrun : (execOp a.eval o).run c.P w = .ok (.value (.slice (some ⟨w.heap.size, 0, none⟩) n n)) (w.alloc (.cells arr e)) := by
    simp only [execOp, hop]
    by_cases hz : n * i.size = 0
    · have hn0 : n = 0 := by
        rw [i2] at hz
        rcases Nat.mul_eq_zero.mp hz with h | h
        · exact h
        · omega
      subst hn0
      have ha' : Instr.fill (fun i => some (i * ei.size, ei.size)) #[] (ps.toList.map fun p => (p.1, a.eval p.2)) = some arr := by
        rw [← ha]; simp [madeCells, Array.range_zero']
      simp [Instr.buildSlice, run_underlying hd1, sizeOf, typeInfo, i1, i2, ha', newRow, Array.range_zero']
    · have hh := run_buildSlice (P := c.P) w t e n (ps.map fun (i, x) => (i, a.eval x)) arr i z hd1 i1 i4 (by rw [i2]; omega) hz (by rw [i2, parts_map]; exact ha)
      rw [Sem.run_bind, hh]
      rfl
  refine wp_value hrun ?_
  refine aft_grow_new hI [] (by simp [dnOp, downs, hop]) hd hpos (by simp [hsz.2]) (new_alloc w (.cells arr e (0, 0))) hsz.1 (Nat.le_refl n) (low_get hl)
theorem op_makeSlice (hc : Ok c) (hI : Inv G w st a.tmps) (hd : Dst o a) (h : Nat) {t e : TypeId} {ti ei : TI} (hti : c.tn t = some ti) {l m : Operand} (hop : o.op = .makeSlice t l m) (hk : ti.k = .sl e) (hei : c.tn e = some ei)
    {lv mv : Value} (hl : evS st.sl l = .sv lv) (hm : evS st.sl m = .sv mv) {n : Int} (hln : asI lv = some n) (hmn : asI mv = some n) (h0 : 0 ≤ n) (hf : fits ei.bytes 1 n.toNat = true) (hpos : 0 < ei.size) {r : SV × BE × Hp}
    (hr : (if h = 2 then k3 (.av (.ms st.hp.next 0 0 n.toNat)) none (st.hp.new ((List.replicate n.toNat (zeroA ei.zero)).flatten))
             else k3 (.av (.us ei.size ((List.replicate n.toNat (zeroA ei.zero)).flatten))) none st.hp) = some r) : o.wp c.P a w (Aft G w a (after h o st r.1 r.2.1 r.2.2)) Q := by
  obtain ⟨d, hd1, hd2⟩ := (hc.tt t ti (tn_some hti).1).und
  rw [hk] at hd2
  cases hd2
  obtain ⟨i, z, i1, i2, i3, i4, i5, i6, i7⟩ := (hc.tt e ei (tn_some hei).1).info (tn_some hei).2
  obtain ⟨kl, rfl⟩ := asI_some hln
  obtain ⟨km, rfl⟩ := asI_some hmn
  obtain ⟨f1, f2⟩ := fits_some hf
  have h63 : n.toNat ≤ n.toNat * ei.bytes := Nat.le_mul_of_pos_right _ f2
  obtain ⟨N, rfl⟩ := Int.eq_ofNat_of_zero_le h0
  simp only [Int.toNat_natCast] at *
  have hrun : (execOp a.eval o).run c.P w = .ok (.value (.slice (some ⟨w.heap.size, 0, none⟩) N N)) (w.alloc (.cells (madeCells z.cells (N * ei.size)) e)) := by
    have hh := run_make (P := c.P) w t e i z hd1 i1 i4 kl km (N : Int) (N : Int) (by omega) (Int.le_refl _) (by
      rw [i3, Int.mul_comm, ← Int.natCast_mul]; omega) (by omega)
    simp only [Int.toNat_natCast, i2] at hh
    simp only [execOp, hop, (ev_sv hI hl).1, (ev_sv hI hm).1]
    rw [Sem.run_bind, hh]; rfl
  obtain ⟨a1, a2⟩ := made_rel (G := G) (w := w) i5 i6 i7 N
  refine wp_value hrun ?_
  split at hr
  · cases hr
    refine aft_obj hI h (by simp [dnOp, downs, hop, dnAll]) hd (new_alloc w (.cells (madeCells z.cells (N * ei.size)) e (0, 0))) (by rw [a1, size_madeCells]) (fun i x u hx hu => ?_) (fun G' hG k => ?_) (fun _ _ _ e => by cases e)
    · obtain ⟨u', hu', hr⟩ := a2 i x hx
      rw [hu'] at hu; cases hu; exact hr
    · exact RelR.ms _ _ _ _ _ _ _ hG (Nat.le_refl _) (fun _ => rfl)
  · cases hr
    exact aft_grow_new hI [] (by simp [dnOp, downs, hop]) hd hpos a1 (new_alloc w (.cells (madeCells z.cells (N * ei.size)) e (0, 0))) (size_madeCells _ _) (Nat.le_refl N) a2
end
end Go.Proofs.Ytmnefpfbgadnkaa.AI
