/- append. -/
import Derived.Test.YtmnefpfbgadnkaaOpK
import Derived.Laws.AppendOwn
namespace Go.Proofs.Ytmnefpfbgadnkaa.AI
open Go
set_option linter.unusedVariables false
set_option linter.unusedSimpArgs false

section
variable {c : Cx} {G : Gh} {w w' : World} {st : St} {a : Act} {o : Oper} {Q : Exit → Act → World → Prop}
theorem run_app_room {P : Program} (t ty e e' : TypeId) (i : TypeInfo) (ht : P.underlying t = some (.slice e)) (hi : P.info? e = some i)
    (g sLen sCap : Nat) (cur : Array Value) (hg : w.heap[g]? = some (.cells cur e' (0, 0)))
    (A : Addr) (m c : Nat) (news : List Value) (hl : news.length = m * i.size) (hnews : ∀ j u, news[j]? = some u → w.cell? (A.add j) = some u) (h1 : ∀ u ∈ news, u.oneCell' = true)
    (hroom : sLen + m ≤ sCap) (hfit : sLen * i.size + news.length ≤ cur.size) :
    (Builtin.append_ #[t, t] ty #[.slice (some ⟨g, 0, none⟩) sLen sCap, .slice (some A) m c]).run P w =
      .ok (.slice (some ⟨g, 0, none⟩) (sLen + m) sCap) (w.setRow g (cur.toList.take (sLen * i.size) ++ news ++ cur.toList.drop (sLen * i.size + news.length)).toArray) := by
  have hf := run_firstCells_some (P := P) w i.size m A m c news hl hnews
  have hst := run_storeCells_at P g (sLen * i.size) e' news 0 cur w hg (by simpa using hfit) h1
  simp only [Nat.add_zero] at hst
  simp [Builtin.append_, run_underlying ht, sizeOf, typeInfo, hi, Builtin.lenOf, hroom, hf, Addr.add_lit, hst]
theorem run_app_none {P : Program} (t ty e : TypeId) (i : TypeInfo) (ht : P.underlying t = some (.slice e)) (hi : P.info? e = some i) (A : Option Addr) (n cap : Nat) (hn : n ≤ cap) (w : World) :
    (Builtin.append_ #[t, t] ty #[.slice A n cap, .slice none 0 0]).run P w = .ok (.slice A n cap) w := by
  cases A <;> simp [Builtin.append_, run_underlying ht, sizeOf, typeInfo, hi, Builtin.lenOf, Builtin.firstCells, hn, storeCells]
theorem run_app_zero {P : Program} (t ty e : TypeId) (i : TypeInfo) (ht : P.underlying t = some (.slice e)) (hi : P.info? e = some i) (A : Option Addr) (n cap : Nat) (hn : n ≤ cap) (B : Addr) (c : Nat) (w : World) :
    (Builtin.append_ #[t, t] ty #[.slice A n cap, .slice (some B) 0 c]).run P w = .ok (.slice A n cap) w := by
  cases A <;> simp [Builtin.append_, run_underlying ht, sizeOf, typeInfo, hi, Builtin.lenOf, Builtin.firstCells, hn, storeCells, loadCells, loadCellsFrom]

theorem toA_us {s : SV} {z : Nat} {cs : List AV} (h : toA s = some (.us z cs)) : s = .av (.us z cs) := by
  cases s <;> simp [toA] at h
  rw [h]
/-- An owned slice that is given a new place, written on in its own block. -/
theorem aft_grow_room (hI : Inv G w st a.tmps) (t : Nat) (ts : List Nat) (hts : t ∈ ts) {h : Nat} (ho : dnOp h o st.sl = dnAll ts st.sl) (hd : Dst o a) {sz n m cap b : Nat} {cs ys : List AV}
    {arr : Array Value} {e : TypeId} {news : List Value} (hom : G.Om b = .sl t 0 0) (hsz : 0 < sz) (hcs : cs.length = n * sz) (hib : G.I b = n * sz) (hb : w.heap[b]? = some (.cells arr e (0, 0)))
    (harr : arr.size = cap * sz) (hrel : ∀ (k : Nat) (x : AV), cs[k]? = some x → ∃ u, arr[k]? = some u ∧ RelR G w x u) (hroom : n + m ≤ cap) (hys : ys.length = m * sz) (hnl : news.length = ys.length)
    (hyr : ∀ (k : Nat) (x : AV) (u : Value), ys[k]? = some x → news[k]? = some u → RelR G w x u)
    (hw : Wr w w' b (arr.toList.take (n * sz) ++ news ++ arr.toList.drop (n * sz + news.length)).toArray e) :
    Aft G w a (after h o st (.av (.us sz (cs ++ ys))) none st.hp) (a.put o.dst (.slice (some ⟨b, 0, none⟩) (n + m) cap)) w' := by
  have hlt : b < w.heap.size := hI.lt hom (by simp)
  let d := o.dst.getD 0
  let G' : Gh := { G with Om := fun x => if x = b then .sl d 0 0 else G.Om x, I := fun x => if x = b then (n + m) * sz else G.I x }
  have hmul : n * sz + m * sz ≤ arr.toList.length := by
    rw [← Nat.add_mul]; simp [harr]; exact Nat.mul_le_mul_right sz hroom
  have hmulG : (n + m) * sz = n * sz + m * sz := Nat.add_mul n m sz
  have hget : ∀ k, (arr.toList.take (n * sz) ++ news ++ arr.toList.drop (n * sz + news.length))[k]? = if n * sz ≤ k ∧ k < n * sz + news.length then news[k - n * sz]? else arr.toList[k]? :=
    fun k => put_get arr.toList news (n * sz) (by rw [hnl, hys]; exact hmul) k
  have hf : Fr G w G' w' := {
    size := by rw [hw.size]; exact Nat.le_refl _
    cells := fun x i hi => by
      by_cases ex : x = b
      · subst ex
        rw [hib] at hi
        rw [cell_of_heap hw.at_, cell_of_heap hb]
        have := hget i
        rw [if_neg (by omega)] at this
        simpa using this
      · exact cell_of_same (hw.other x ex) i
    imm := fun x => by
      simp only [G']
      split
      · rename_i ex; subst ex; rw [hib]; exact Nat.mul_le_mul_right sz (by omega)
      · exact Nat.le_refl _
    mu := fun _ _ _ h => h
    rest := hw.rest
    same := fun x hx ho' => by
      have hne : x ≠ b := by rintro rfl; rcases ho' with h' | h' <;> rw [hom] at h' <;> cases h'
      exact ⟨hw.other x hne, by simp [G', hne], by simp [G', hne]⟩ }
  have hk : ∀ p, p ≠ .sl t 0 0 → Keeps G w G' w' p p := by
    intro p hp x hx
    have hne : x ≠ b := by rintro rfl; rw [hom] at hx; exact hp hx.symm
    exact ⟨hw.other x hne, by simp [G', hne], by simp [G', hne, hx]⟩
  have hnew : RelC G' w' (.sl d 0 0) (.us sz (cs ++ ys)) (.slice (some ⟨b, 0, none⟩) (n + m) cap) := by
    refine ⟨b, by simp [G'], ⟨n + m, cap, _, e, rfl, hsz, by simp [hcs, hys, hmulG], by omega, by simp [G'], hw.at_, ?_, fun k x hx => ?_⟩⟩
    · have hal : arr.toList.length = cap * sz := by rw [← harr]; exact Array.length_toList
      rw [List.size_toArray, List.length_append, List.length_append, List.length_take, List.length_drop, hnl, hys]
      rw [hal] at hmul ⊢
      omega
    · have hg := hget k
      by_cases hk1 : k < n * sz
      · rw [List.getElem?_append_left (by omega)] at hx
        obtain ⟨u, hu, hr⟩ := hrel k x hx
        rw [if_neg (by omega)] at hg
        exact ⟨u, by simpa using hg.trans (by simpa using hu), hr.ev hf.ev⟩
      · rw [List.getElem?_append_right (by omega), hcs] at hx
        have hlt2 := (List.getElem?_eq_some_iff.mp hx).1
        obtain ⟨u, hu⟩ := get_of_len hnl.symm hx
        rw [if_pos (by omega)] at hg
        exact ⟨u, by simpa using hg.trans hu, (hyr _ x u hx hu).ev hf.ev⟩
  refine ⟨G', ?_, hf, put_size _ _ _, put_defers _ _ _⟩
  have hI2 : Inv G' w' ⟨dnAll ts st.sl, st.bx, st.hp⟩ a.tmps := {
    slots := fun j => by
      show RelS G' w' j (slot (dnAll ts st.sl) j) _
      rw [slot_dnAll]
      split
      · exact RelS.ro hf.ev (k := j) j (fun _ _ _ _ _ h => h) (hI.slots j)
      · rename_i hne
        refine RelS.ev hf.ev (fun j' i => hk _ ?_) (fun _ _ _ _ _ h => h) (hI.slots j)
        intro e'; cases e'; exact hne hts
    boxes := fun j g cs' h' => by
      obtain ⟨blk, h1, h2, h3⟩ := hI.boxes j g cs' h'
      have hne : blk ≠ b := by rintro rfl; rw [hom] at h2; cases h2
      exact ⟨blk, h1, by simp [G', hne, h2], h3.ev hf.ev (hw.other _ hne) fun i => hk _ (by simp)⟩
    heap := fun j g cs' h' => by
      obtain ⟨blk, h1, h2, h3⟩ := hI.heap j g cs' h'
      have hne : blk ≠ b := by rintro rfl; rw [hom] at h2; cases h2
      exact ⟨blk, h1, by simp [G', hne, h2], h3.ev hf.ev (hw.other _ hne) fun i => hk _ (by simp)⟩
    next := hI.next
    hlt := hI.hlt
    new := fun x hx => by
      rw [hw.size] at hx
      have hne : x ≠ b := by omega
      simp only [G', hne, if_false]
      exact hI.new x hx
    vars := fun x hx => by
      by_cases hne : x = b
      · simp only [G', hne, if_true] at hx
        rcases hx with ⟨_, _, hx⟩ | ⟨_, _, hx⟩ <;> cases hx
      · simp only [G', hne, if_false] at hx ⊢
        exact hI.vars x hx
    lps := fun i j g off e' => by
      have e'' : slot (dnAll ts st.sl) i = .lp j g off := e'
      rw [slot_dnAll] at e''
      split at e''
      · exact hI.lps i j g off (ro_lp.mp e'')
      · exact hI.lps i j g off e'' }
  unfold after
  rw [ho]
  refine hI2.put o.dst hd (fun k hk' => ?_) (fun _ _ _ e => by cases e)
  have hdk : d = k := by simp [d, hk']
  subst hdk
  exact hnew
/-- A slice of a new block. -/
theorem aft_grow_new (hI : Inv G w st a.tmps) (ts : List Nat) {h : Nat} (ho : dnOp h o st.sl = dnAll ts st.sl) (hd : Dst o a) {sz n cap : Nat} {cs : List AV}
    {arr : Array Value} {e : TypeId} (hsz : 0 < sz) (hcs : cs.length = n * sz) (hw : New w w' (.cells arr e (0, 0))) (harr : arr.size = cap * sz) (hn : n ≤ cap)
    (hrel : ∀ (k : Nat) (x : AV), cs[k]? = some x → ∃ u, arr[k]? = some u ∧ RelR G w x u) :
    Aft G w a (after h o st (.av (.us sz cs)) none st.hp) (a.put o.dst (.slice (some ⟨w.heap.size, 0, none⟩) n cap)) w' := by
  let d := o.dst.getD 0
  have hf := Fr.new hI hw (.sl d 0 0) (n * sz) (mu := G.mu) (la := G.la) (fun _ _ _ h => h)
  have hI1 : Inv (G.add w.heap.size (.sl d 0 0) (n * sz) G.mu G.la) w' st a.tmps := hI.beside hw (.sl d 0 0) (n * sz) (by rintro (⟨_, _, h⟩ | ⟨_, _, h⟩) <;> cases h)
  refine ⟨_, ?_, hf, put_size _ _ _, put_defers _ _ _⟩
  unfold after
  rw [ho]
  refine (hI1.dn ts).put o.dst hd (fun k hk' => ?_) (fun _ _ _ e => by cases e)
  have hdk : d = k := by simp [d, hk']
  subst hdk
  refine ⟨w.heap.size, by simp [Gh.add], ⟨n, cap, arr, e, rfl, hsz, hcs, hn, by simp [Gh.add], hw.at, harr, fun k x hx => ?_⟩⟩
  obtain ⟨u, hu, hr⟩ := hrel k x hx
  exact ⟨u, hu, hr.ev hf.ev⟩
theorem fits_some {b sz n : Nat} (h : fits b sz n = true) : n * b ≤ 140737488355328 * sz ∧ 0 < b := by
  unfold fits at h
  simpa using h
theorem map_ro1 {ys : List AV} {vs : List Value} (h : ∀ (k : Nat) (x : AV) (u : Value), ys[k]? = some x → vs[k]? = some u → RelR G w x u) (hl : vs.length = ys.length) : ys.map ro1 = ys := by
  apply List.ext_getElem?
  intro i
  rw [List.getElem?_map]
  cases hx : ys[i]? with
  | none => rfl
  | some x =>
    obtain ⟨u, hu⟩ := get_of_len hl.symm hx
    rw [Option.map_some, ro1_of_r (h i x u hx hu)]
theorem op_append (hc : Ok c) (hI : Inv G w st a.tmps) (hd : Dst o a) (h : Nat) {cl : Call} (hop : o.op = .call cl) (hcl : cl.callee = .builtin .append) {x y : Operand} (hargs : cl.args = #[x, y]) {t : TypeId} (hts : cl.argTypes = #[t, t])
    {ti ei : TI} {e : TypeId} (hti : c.tn t = some ti) (hk : ti.k = .sl e) (hei : c.tn e = some ei) {d' s' z : AV} (hx : toA (evS st.sl x) = some d') (hy : toA (evS st.sl y) = some s')
    (hz : appA ei.bytes ei.size d' s' = some z) : o.wp c.P a w (Aft G w a (after h o st (.av z) none st.hp)) Q := by
  have hdn : dnOp h o st.sl = dnAll (tmpsOf [x, y]) st.sl := by simp [dnOp, downs, hop, hcl, hargs]
  obtain ⟨dd, hd1, hd2⟩ := (hc.tt t ti (tn_some hti).1).und
  rw [hk] at hd2
  have hd2 : dd = .slice e := hd2
  subst hd2
  obtain ⟨i, z0, hi1, hi2, hi3⟩ : ∃ i d, c.P.info? e = some i ∧ i.bytes = ei.bytes ∧ i.size = ei.size ∧ ∃ zv, i.zero = some zv ∧ zv.cells.toList = ei.zero ∧ ei.zero.length = ei.size := by
    obtain ⟨_, _, info, d, h1, h2, h3, h4, h5⟩ := hc.tt e ei (tn_some hei).1
    obtain ⟨h6, zv, h7, h8, h9, _⟩ := h5 (tn_some hei).2
    exact ⟨info, d, h1, h4, h6, zv, h7, h8, h9⟩
  obtain ⟨hi4, zv, hi5, hi6, hi7⟩ := hi3
  have hdr := toA_rel (evR hI x) hx
  have hsr := toA_rel (evR hI y) hy
  have hrun : ∀ (v : Value) (w' : World), (Builtin.append_ #[t, t] o.type #[a.eval x, a.eval y]).run c.P w = .ok v w' → (execOp a.eval o).run c.P w = .ok (.value v) w' := by
    intro v w' hr
    rw [run_builtin hcl hop rfl, hargs, hts]
    simp only [Go.builtin, List.map_toArray, List.map_cons, List.map_nil]
    rw [Sem.run_bind, hr]; rfl
  unfold appA at hz
  obtain ⟨ys, hys, hz⟩ := Option.bind_eq_some_iff.mp hz
  have hsrc := srcA_sl (p := fun i => .sl (num y) 0 i) hsr hys
  -- the token's block, if the slice is one of ours
  have tok : ∀ {sz : Nat} {cs : List AV}, d' = .us sz cs → ∃ b, x = .tmp (num x) ∧ G.Om b = .sl (num x) 0 0 ∧ TokR G w sz cs (a.eval x) b := by
    rintro sz cs rfl
    obtain ⟨b, hb, ht⟩ := hdr
    refine ⟨b, ?_, hb, ht⟩
    cases x with
    | tmp t => rfl
    | const v =>
      simp only [evS] at hx
      split at hx
      · split at hx <;> simp [toA] at hx
      · cases hx
      · cases hx
    | global g => cases hx
    | func f => cases hx
  split at hz
  · -- nothing is put behind
    have hval : ∃ A n cap, a.eval x = .slice A n cap ∧ n ≤ cap ∧ (execOp a.eval o).run c.P w = .ok (.value (a.eval x)) w := by
      have hform : ∃ A n cap, a.eval x = .slice A n cap ∧ n ≤ cap := by
        split at hz
        · obtain ⟨b, _, _, ht⟩ := tok rfl
          obtain ⟨n, cap, arr, e', h1, _, _, h4, _⟩ := ht.ex
          exact ⟨_, n, cap, h1, h4⟩
        · split at hz
          · rename_i v hn
            have := isNil_eq hn
            subst this
            have hdr' : RelR G w (.sc (.slice none 0 0)) (a.eval x) := hdr
            generalize a.eval x = v at hdr'
            cases hdr'
            exact ⟨none, 0, 0, rfl, Nat.le_refl _⟩
          · cases hz
        · cases hz
      obtain ⟨A, n, cap, hA, hn⟩ := hform
      refine ⟨A, n, cap, hA, hn, hrun _ _ ?_⟩
      rcases hsrc with ⟨hs, _⟩ | ⟨B, m, c', hs, hr⟩
      · rw [hA, hs]; exact run_app_none t o.type e i hd1 hi1 A n cap hn w
      · obtain ⟨A', n', cap', e1, e2, e3, _⟩ := sl_form hr
        rw [hs] at e1; cases e1
        have hm : m = 0 := by
          rcases Nat.eq_zero_or_pos m with h | h
          · exact h
          · have := Nat.mul_pos h e2; simp at e3; omega
        subst hm
        rw [hA, hs]; exact run_app_zero t o.type e i hd1 hi1 A n cap hn B c' w
    obtain ⟨A, n, cap, hA, hn, hr⟩ := hval
    refine wp_value hr ?_
    split at hz
    · split at hz
      · cases hz
        obtain ⟨b, hxt, _⟩ := tok rfl
        have hslot := toA_us hx
        cases hdst : o.dst with
        | none =>
          refine ⟨G, ?_, Fr.refl G w, rfl, rfl⟩
          unfold after
          rw [hdn, hdst]
          exact hI.dn _
        | some d =>
          have hm := aft_move hI (num x) d .ot (hd d hdst) (tmpsOf [x, y]) (by rw [hxt]; simp [tmpsOf, num])
          unfold after
          rw [hdn, hdst]
          have h1 : slot st.sl (num x) = evS st.sl x := by conv => rhs; rw [hxt]
                                                           rfl
          have h2 : a.tmps.getD (num x) undef = a.eval x := by conv => rhs; rw [hxt]
                                                               rfl
          rw [h1, hslot, h2] at hm
          exact hm
      · cases hz
    · split at hz
      · rename_i v hn
        cases hz
        have := isNil_eq hn
        subst this
        have hdr' : RelR G w (.sc (.slice none 0 0)) (a.eval x) := hdr
        refine aft_value hI h (by simp [dnOp, hop]) hd (fun k => ?_) (fun _ _ _ e => by cases e)
        exact hdr'.s k
      · cases hz
    · cases hz
  · rename_i hne
    -- something is put behind
    rcases hsrc with ⟨_, rfl⟩ | ⟨B, m, c', hs, hr⟩
    · exact absurd rfl (hne)
    obtain ⟨A', m', cap', e1, hsz, hlen, hcap, hform⟩ := sl_form hr
    rw [hs] at e1; cases e1
    have hm : 0 < m := by
      rcases Nat.eq_zero_or_pos m with h | h
      · subst h
        simp at hlen
        exact absurd hlen (by simpa using hne)
      · exact h
    obtain ⟨b2, o2, vs, rfl, _, hvl, hcell, hrel⟩ := hform hm
    have hmap : ys.map ro1 = ys := map_ro1 hrel hvl
    rw [hmap] at hz
    have h1 : ∀ u ∈ vs, u.oneCell' = true := by
      intro u hu
      obtain ⟨k, hk', rfl⟩ := List.getElem_of_mem hu
      have hk2 : k < ys.length := by rw [← hvl]; exact hk'
      exact (hrel k ys[k] vs[k] (List.getElem?_eq_getElem hk2) (List.getElem?_eq_getElem hk')).one
    have hnews : ∀ j u, vs[j]? = some u → w.cell? ((⟨b2, o2, none⟩ : Addr).add j) = some u := fun j u hu => by rw [addr_add]; exact hcell j u hu
    have hnl : vs.length = m * i.size := by rw [hvl, hlen, hi4]
    split at hz
    · rename_i sz cs _
      split at hz
      · rename_i hcond
        cases hz
        simp only [Bool.and_eq_true, beq_iff_eq, decide_eq_true_eq] at hcond
        obtain ⟨hszz, hfit⟩ := hcond
        subst hszz
        obtain ⟨hf1, hf2⟩ := fits_some hfit
        obtain ⟨b, hxt, hom, ht⟩ := tok rfl
        obtain ⟨n, cap, arr, e', t1, t2, t3, t4, t5, t6, t7, t8⟩ := ht.ex
        have hmem : num x ∈ tmpsOf [x, y] := by rw [hxt]; simp [tmpsOf, num]
        by_cases hroom : n + m ≤ cap
        · have hfit' : n * i.size + vs.length ≤ arr.size := by rw [hnl, hi4, t7, ← Nat.add_mul]; exact Nat.mul_le_mul_right _ hroom
          have hrr := run_app_room (P := c.P) t o.type e e' i hd1 hi1 b n cap arr t6 ⟨b2, o2, none⟩ m c' vs hnl hnews h1 hroom hfit'
          have hwr : Wr w (w.setRow b (arr.toList.take (n * i.size) ++ vs ++ arr.toList.drop (n * i.size + vs.length)).toArray) b (arr.toList.take (n * i.size) ++ vs ++ arr.toList.drop (n * i.size + vs.length)).toArray e' :=
            ⟨by simp, setRow_heap w b arr _ e' _ t6, fun x hx => setRow_other w b x _ hx, ⟨rfl, rfl, rfl⟩⟩
          rw [hi4] at hwr
          refine wp_value (hrun _ _ (by rw [t1, hs]; exact hrr)) ?_
          rw [hi4]
          exact aft_grow_room hI (num x) _ hmem hdn hd hom t2 t3 t5 t6 t7 t8 hroom hlen hvl hrel hwr
        · have hle : n * ei.size ≤ arr.toList.length := by
            rw [Array.length_toList, t7]; exact Nat.mul_le_mul_right _ t4
          have hlo : (arr.toList.take (n * ei.size)).length = n * i.size := by rw [List.length_take, hi4]; omega
          have holds : ∀ j u, (arr.toList.take (n * ei.size))[j]? = some u → w.cell? ((⟨b, 0, none⟩ : Addr).add j) = some u := by
            intro j u hu
            rw [addr_add, Nat.zero_add, cell_of_heap t6]
            rw [List.getElem?_take] at hu
            split at hu
            · simpa using hu
            · cases hu
          have hneed : (n + m) * i.bytes ≤ 140737488355328 := by
            rw [hi2]
            rw [t3, hlen, ← Nat.add_mul, Nat.mul_assoc, Nat.mul_comm ei.size, ← Nat.mul_assoc] at hf1
            exact Nat.le_of_mul_le_mul_right hf1 hsz
          have h63 : ((n + m : Nat) : Int) ≤ 9223372036854775807 := by
            have : n + m ≤ (n + m) * i.bytes := Nat.le_mul_of_pos_right _ (by rw [hi2]; exact hf2)
            omega
          have hrr := run_append_grow (P := c.P) w t o.type e i zv hd1 hi1 hi5 ⟨b, 0, none⟩ n cap _ hlo holds ⟨b2, o2, none⟩ m c' vs hnl hnews (by omega) h63 (growslice_fits (by omega) (by omega))
          refine wp_value (hrun _ _ (by rw [t1, hs]; exact hrr)) ?_
          have hge := grownCap_ge w (n + m) cap e
          have hzs : zv.cells.size = ei.size := by rw [← hi7, ← hi6]; simp
          refine aft_grow_new hI _ hdn hd t2 (by rw [List.length_append, t3, hlen, ← Nat.add_mul]) ⟨rfl, rfl, rfl, rfl⟩ ?_ hge (fun k z hk' => ?_)
          · rw [Array.size_append, Array.size_append, List.size_toArray, List.size_toArray, size_zeroCells, hlo, hnl, hi4, hzs, ← Nat.add_mul, ← Nat.add_mul]
            congr 1
            omega
          · have hl2 : (arr.toList.take (n * ei.size)).length = cs.length := by rw [hlo, hi4, t3]
            by_cases hk1 : k < cs.length
            · rw [List.getElem?_append_left hk1] at hk'
              obtain ⟨u, hu, hr'⟩ := t8 k z hk'
              refine ⟨u, ?_, hr'⟩
              rw [Array.getElem?_append_left (by rw [Array.size_append, List.size_toArray, List.size_toArray, hl2]; omega), Array.getElem?_append_left (by rw [List.size_toArray, hl2]; omega)]
              rw [List.getElem?_toArray, List.getElem?_take, if_pos (by omega)]
              simpa using hu
            · rw [List.getElem?_append_right (by omega)] at hk'
              obtain ⟨u, hu⟩ := get_of_len hvl.symm hk'
              refine ⟨u, ?_, hrel _ _ _ hk' hu⟩
              have hlt := (List.getElem?_eq_some_iff.mp hu).1
              rw [Array.getElem?_append_left (by rw [Array.size_append, List.size_toArray, List.size_toArray, hl2]; omega), Array.getElem?_append_right (by rw [List.size_toArray, hl2]; omega)]
              rw [List.getElem?_toArray, List.size_toArray, hl2]
              exact hu
      · cases hz
    · split at hz
      · rename_i v hcond
        cases hz
        simp only [Bool.and_eq_true] at hcond
        have := isNil_eq hcond.1
        subst this
        obtain ⟨hf1, hf2⟩ := fits_some hcond.2
        have hdr' : RelR G w (.sc (.slice none 0 0)) (a.eval x) := hdr
        have hxe : a.eval x = .slice none 0 0 := by
          generalize a.eval x = v at hdr'
          cases hdr'; rfl
        have hneed : m * i.bytes ≤ 140737488355328 := by
          rw [hi2]
          rw [hlen, Nat.mul_assoc, Nat.mul_comm ei.size, ← Nat.mul_assoc] at hf1
          exact Nat.le_of_mul_le_mul_right hf1 hsz
        have h63 : (m : Int) ≤ 9223372036854775807 := by
          have : m ≤ m * i.bytes := Nat.le_mul_of_pos_right _ (by rw [hi2]; exact hf2)
          omega
        have hrr := run_append_nil (P := c.P) w t o.type e i zv hd1 hi1 hi5 ⟨b2, o2, none⟩ m c' vs hnl hnews hm h63 (by omega)
        refine wp_value (hrun _ _ (by rw [hxe, hs]; exact hrr)) ?_
        have hge := grownCap_ge w m 0 e
        have hzs : zv.cells.size = ei.size := by rw [← hi7, ← hi6]; simp
        refine aft_grow_new hI _ hdn hd hsz hlen ⟨rfl, rfl, rfl, rfl⟩ ?_ hge (fun k z hk' => ?_)
        · rw [Array.size_append, List.size_toArray, size_zeroCells, hnl, hi4, hzs, ← Nat.add_mul]
          congr 1
          omega
        · obtain ⟨u, hu⟩ := get_of_len hvl.symm hk'
          refine ⟨u, ?_, hrel _ _ _ hk' hu⟩
          have hlt := (List.getElem?_eq_some_iff.mp hu).1
          rw [Array.getElem?_append_left (by simp; omega), List.getElem?_toArray]
          exact hu
      · cases hz
    · cases hz
end
end Go.Proofs.Ytmnefpfbgadnkaa.AI
