/- A region whose order is drawn: every order does what the first one does. -/
import Derived.Test.YtmnefpfbgadnkaaLocD
namespace Go.Proofs.Ytmnefpfbgadnkaa.AI
open Go
set_option linter.unusedVariables false
set_option linter.unusedSimpArgs false

/-! ### what must stand ahead -/
def dsOf (o : Oper) : List Nat := (o.after.toList.filter fun e => Region.binds .any e).map (·.on)
def AncOk (all : List Oper) (t : List (List Nat)) : Prop :=
  ∀ j x, x ∈ t.getD j [] → ∃ o, all[j]? = some o ∧ (x ∈ dsOf o ∨ ∃ d ∈ dsOf o, x ∈ t.getD d [])
theorem getD_append_lt {α : Type} (t : List α) (e d : α) (j : Nat) (h : j < t.length) : (t ++ [e]).getD j d = t.getD j d := by
  simp [List.getD, List.getElem?_append_left h]
theorem getD_len {α : Type} (t : List (List α)) (j : Nat) (x : α) (h : x ∈ t.getD j []) : j < t.length := by
  rcases Nat.lt_or_ge j t.length with h' | h'
  · exact h'
  · simp [List.getD, List.getElem?_eq_none h'] at h
theorem anc_spec (all : List Oper) : ∀ (L done : List Oper) (t : List (List Nat)), all = done ++ L → t.length = done.length → AncOk all t → AncOk all (ancTab L t)
  | [], done, t, _, _, h => h
  | o :: L, done, t, he, hl, h => by
    simp only [ancTab]
    refine anc_spec all L (done ++ [o]) _ (by rw [he]; simp) (by simp [hl]) ?_
    intro j x hx
    by_cases hj : j < t.length
    · rw [getD_append_lt _ _ _ _ hj] at hx
      obtain ⟨o', h1, h2⟩ := h j x hx
      refine ⟨o', h1, h2.imp id ?_⟩
      rintro ⟨d, hd, hxd⟩
      exact ⟨d, hd, by rw [getD_append_lt _ _ _ _ (getD_len _ _ _ hxd)]; exact hxd⟩
    · have hj' : j = t.length := by
        have := getD_len _ _ _ hx
        simp at this
        omega
      subst hj'
      have hx' : x ∈ ((dsOf o) ++ (dsOf o).flatMap fun j => t.getD j []) := by
        have e : ∀ E : List Nat, (t ++ [E]).getD t.length [] = E := fun E => by simp [List.getD]
        rw [e] at hx
        exact List.mem_eraseDups.mp hx
      refine ⟨o, by rw [he, hl]; simp, ?_⟩
      rw [List.mem_append, List.mem_flatMap] at hx'
      refine hx'.imp id ?_
      rintro ⟨d, hd, hxd⟩
      exact ⟨d, hd, by rw [getD_append_lt _ _ _ _ (getD_len _ _ _ hxd)]; exact hxd⟩
theorem mem_dsOf {o : Oper} {d : Nat} : d ∈ dsOf o ↔ ∃ e ∈ o.after, Region.binds .any e = true ∧ e.on = d := by
  unfold dsOf
  rw [List.mem_map]
  constructor
  · rintro ⟨e, he, rfl⟩
    obtain ⟨h1, h2⟩ := List.mem_filter.mp he
    exact ⟨e, by simpa using h1, h2, rfl⟩
  · rintro ⟨e, h1, h2, rfl⟩
    exact ⟨e, List.mem_filter.mpr ⟨by simpa using h1, h2⟩, rfl⟩
theorem depsB_lt {ops : Array Oper} (h : depsB ops = true) {i d : Nat} {o : Oper} (ho : ops[i]? = some o) (hd : d ∈ dsOf o) : d < i := by
  have hi : i < ops.size := (Array.getElem?_eq_some_iff.mp ho).1
  have := List.all_eq_true.mp h i (List.mem_range.mpr hi)
  rw [ho] at this
  obtain ⟨e, h1, h2, rfl⟩ := mem_dsOf.mp hd
  have := List.all_eq_true.mp this e (by simpa using h1)
  simpa [h2] using this
/-- Whoever stands ahead is listed. -/
theorem anc_listed {ops : Array Oper} (hdeps : depsB ops = true) (S : Nat → Prop) (hcl : ∀ j o d, S j → ops[j]? = some o → d ∈ dsOf o → S d) :
    ∀ (n j : Nat), j ≤ n → (∀ o d, ops[j]? = some o → d ∈ dsOf o → S d) → ∀ x, x ∈ (ancTab ops.toList []).getD j [] → S x := by
  have hA : AncOk ops.toList (ancTab ops.toList []) := anc_spec ops.toList ops.toList [] [] rfl rfl (by intro j x hx; simp [List.getD] at hx)
  intro n
  induction n with
  | zero =>
    intro j hj hdir x hx
    obtain ⟨o, ho, hx⟩ := hA j x hx
    have ho' : ops[j]? = some o := by simpa using ho
    rcases hx with hx | ⟨d, hd, hx⟩
    · exact hdir o x ho' hx
    · have := depsB_lt hdeps ho' hd; omega
  | succ n ih =>
    intro j hj hdir x hx
    obtain ⟨o, ho, hx⟩ := hA j x hx
    have ho' : ops[j]? = some o := by simpa using ho
    rcases hx with hx | ⟨d, hd, hx⟩
    · exact hdir o x ho' hx
    · have hlt := depsB_lt hdeps ho' hd
      exact ih d (by omega) (fun o' d' h1 h2 => hcl d o' d' (hdir o d ho' hd) h1 h2) x hx

/-! ### one operation -/
def InvV (G : Gh) (w : World) (v : Vw) (tmps : Array Value) : Prop := ∃ st : St, st.vw = v ∧ Inv G w st tmps
/-- What a region's run leaves. -/
def AftV (G : Gh) (w : World) (a : Act) (v : Vw) (a' : Act) (w' : World) : Prop :=
  ∃ G', InvV G' w' v a'.tmps ∧ Fr G w G' w' ∧ a'.tmps.size = a.tmps.size ∧ a'.defers = a.defers
section
variable {c : Cx} {R : Orc} {f : FuncId} {r : Nat} {ops : Array Oper} {G : Gh} {w : World} {a : Act} {Q : Exit → Act → World → Prop}
abbrev Bodies (c : Cx) (R : Orc) : Prop := ∀ f xs hp r, R f xs hp = some r → ∃ fn b, c.F f = some fn ∧ fn.body = some b
theorem vExec_ok (hc : Ok c) (hR : Sound c R) (hS : Bodies c R) {h : Nat} {o : Oper} {v v1 : Vw} {F : Fp} (hr : vExec c R ops h o v = some (v1, F)) (hI : InvV G w v a.tmps) (hd : Dst o a) {K : Act → World → Prop}
    (hK : ∀ a' w', AftV G w a v1 a' w' → K a' w') : o.wp c.P a w K Q := by
  obtain ⟨st, rfl, hI⟩ := hI
  unfold vExec at hr
  obtain ⟨q, hq, hr⟩ := Option.bind_eq_some_iff.mp hr
  have hv1 : (⟨putV (dnV h o st.vw.sl) o.dst q.1, setV st.vw.bx q.2.1, q.2.2⟩ : Vw) = v1 := (Prod.mk.inj (Option.some.inj hr)).1
  have hq' : coreK c R h o (evS st.sl) (getB st.bx) st.hp k3 = some q := by rw [← evV_slot]; exact hq
  refine Oper.wp_mono (fun a' w' ha => ?_) (core_ok (Q := Q) hc hR hS hI hd h hq')
  obtain ⟨G', h1, h2, h3, h4⟩ := ha
  exact hK a' w' ⟨G', ⟨_, by rw [after_vw]; exact hv1, h1⟩, h2, h3, h4⟩
theorem vSkip_ok {o : Oper} {v : Vw} (hI : InvV G w v a.tmps) (hd : Dst o a) : AftV G w a (vSkip ops o v).1 (a.put o.dst undef) w := by
  obtain ⟨st, rfl, hI⟩ := hI
  refine ⟨G, ⟨⟨putS st.sl o.dst .ud, st.bx, st.hp⟩, ?_, ?_⟩, Fr.refl G w, put_size _ _ _, put_defers _ _ _⟩
  · unfold St.vw vSkip
    congr 1
    funext k
    exact put_slot _ _ _ k
  · exact hI.put o.dst hd (fun k _ => rfl) (fun k g off e => by cases e)
theorem wanted_guard {o : Oper} {g : Nat} {want : Bool} (hg : guarded o ops = some (some (g, want))) (tmps : Array Value) :
    Region.wanted o (yielded ops tmps) = ((match tmps[g]? with | some (.bool b) => some b | _ => none) == some want) := by
  unfold guarded at hg
  split at hg
  · cases hg
  · rename_i j want' hgo
    split at hg
    · rename_i oj hj
      split at hg
      · rename_i d hd
        cases hg
        simp only [Region.wanted, hgo, yielded, hj, hd, Option.bind_some] <;> rfl
      · cases hg
    · cases hg
theorem wanted_none {o : Oper} (hg : guarded o ops = some none) (y : Nat → Option Bool) : Region.wanted o y = true := by
  unfold guarded at hg
  split at hg
  · rename_i h; simp only [Region.wanted, h]
  · split at hg
    · split at hg <;> cases hg
    · cases hg
theorem vOp_ok (hc : Ok c) (hR : Sound c R) (hS : Bodies c R) {i : Nat} {v v1 : Vw} {F : Fp} (hr : vOp c R f r ops i v = some (v1, F)) (hI : InvV G w v a.tmps) (hd : ∀ o ∈ ops, Dst o a) {K : Act → World → Prop}
    (hK : ∀ a' w', AftV G w a v1 a' w' → K a' w') : wpOp c.P ops Q i K a w := by
  unfold vOp at hr
  unfold wpOp
  cases ho : ops[i]? with
  | none => rw [ho] at hr; cases hr
  | some o =>
    rw [ho] at hr
    simp only at hr ⊢
    have hdo : Dst o a := hd o (Array.mem_of_getElem? ho)
    cases hg : guarded o ops with
    | none => rw [hg] at hr; cases hr
    | some gw =>
      rw [hg] at hr
      cases gw with
      | none =>
        rw [wanted_none hg]
        simp only [if_true]
        exact .inl (vExec_ok hc hR hS hr hI hdo hK)
      | some q =>
        obtain ⟨g, want⟩ := q
        rw [wanted_guard hg]
        simp only at hr
        have hslot : RelS G w g (v.sl g) (a.tmps.getD g undef) := by
          obtain ⟨st, rfl, hI⟩ := hI
          exact hI.slots g
        cases hvg : v.sl g with
        | ud =>
          rw [hvg] at hr hslot
          simp only at hr
          have hv1 : (vSkip ops o v).1 = v1 := by rw [Option.some.inj hr]
          have hund : a.tmps.getD g undef = undef := hslot
          have hy : (match a.tmps[g]? with | some (.bool b) => some b | _ => none : Option Bool) = none := by
            cases ht : a.tmps[g]? with
            | none => rfl
            | some z =>
              have : z = undef := by simpa [ht] using hund
              subst this; rfl
          rw [hy]
          simp only [show ((none : Option Bool) == some want) = false by rfl, Bool.false_eq_true, if_false]
          exact hK _ _ (hv1 ▸ vSkip_ok hI hdo)
        | sv u =>
          rw [hvg] at hr hslot
          simp only at hr
          obtain ⟨t, ht, hr'⟩ := Option.bind_eq_some_iff.mp hr
          have hu := asB_some ht
          subst hu
          have hval : a.tmps.getD g undef = .bool t := hslot.1
          have hy : (match a.tmps[g]? with | some (.bool b) => some b | _ => none : Option Bool) = some t := by
            cases hz : a.tmps[g]? with
            | none => simp [hz, undef] at hval
            | some z =>
              have : z = .bool t := by simpa [hz] using hval
              subst this; rfl
          rw [hy]
          by_cases e : t = want
          · subst e
            rw [if_pos rfl] at hr'
            simp only [beq_self_eq_true, if_true]
            exact .inl (vExec_ok hc hR hS hr' hI hdo hK)
          · rw [if_neg e] at hr'
            have hv1 : (vSkip ops o v).1 = v1 := by rw [Option.some.inj hr']
            have hne : ((some t : Option Bool) == some want) = false := by simpa using e
            rw [hne]
            simp only [Bool.false_eq_true, if_false]
            exact hK _ _ (hv1 ▸ vSkip_ok hI hdo)
        | _ => rw [hvg] at hr; cases hr
theorem AftV.trans {v' : Vw} {a' a'' : Act} {w' w'' : World} {G' : Gh} (hf : Fr G w G' w') (hs : a'.tmps.size = a.tmps.size) (hdf : a'.defers = a.defers) (h : AftV G' w' a' v' a'' w'') : AftV G w a v' a'' w'' := by
  obtain ⟨G'', h1, h2, h3, h4⟩ := h
  exact ⟨G'', h1, hf.trans h2, h3.trans hs, h4.trans hdf⟩
theorem ops_ok (hc : Ok c) (hR : Sound c R) (hS : Bodies c R) : ∀ (is : List Nat) (G : Gh) (w : World) (a : Act) (v v2 : Vw) (accs : List (Nat × Fp)), vRun c R f r ops is v = some (v2, accs) → InvV G w v a.tmps → (∀ o ∈ ops, Dst o a) →
    (∀ a' w', AftV G w a v2 a' w' → Q .normal a' w') → wpOps c.P ops Q is a w
  | [], G, w, a, v, v2, accs, h, hI, hd, hK => by
    simp only [vRun] at h
    cases h
    exact hK a w ⟨G, hI, Fr.refl G w, rfl, rfl⟩
  | i :: is, G, w, a, v, v2, accs, h, hI, hd, hK => by
    simp only [vRun] at h
    obtain ⟨p, hp, h⟩ := Option.bind_eq_some_iff.mp h
    obtain ⟨q, hq, h⟩ := Option.bind_eq_some_iff.mp h
    cases h
    rw [wpOps_cons]
    refine vOp_ok hc hR hS hp hI hd fun a' w' ha => ?_
    obtain ⟨G', h1, h2, h3, h4⟩ := ha
    exact ops_ok hc hR hS is G' w' a' p.1 q.1 q.2 hq h1 (fun o ho k hk => by rw [h3]; exact hd o ho k hk) fun a'' w'' h => hK a'' w'' (AftV.trans h2 h3 h4 h)
theorem vRun_fst : ∀ (is : List Nat) (v v2 : Vw) (accs : List (Nat × Fp)), vRun c R f r ops is v = some (v2, accs) → accs.map (·.1) = is
  | [], v, v2, accs, h => by simp only [vRun] at h; cases h; rfl
  | i :: is, v, v2, accs, h => by
    simp only [vRun] at h
    obtain ⟨p, hp, h⟩ := Option.bind_eq_some_iff.mp h
    obtain ⟨q, hq, h⟩ := Option.bind_eq_some_iff.mp h
    cases h
    simp [vRun_fst is p.1 q.1 q.2 hq]
theorem any_ok (hc : Ok c) (hR : Sound c R) (hS : Bodies c R) (hdeps : depsB ops = true) : ∀ (fuel : Nat) (L : List Nat) (listed : Array Bool) (G : Gh) (w : World) (a : Act) (v v2 : Vw) (accs : List (Nat × Fp)), L.length = fuel →
    (∀ i, i ∈ L ↔ listed.getD i true = false) → (∀ i ∈ L, i < ops.size) → listed.size = ops.size → L.Pairwise (· < ·) →
    (∀ j o d, listed.getD j false = true → ops[j]? = some o → d ∈ dsOf o → listed.getD d false = true) →
    vRun c R f r ops L v = some (v2, accs) → (∀ x Fx y Fy, (x, Fx) ∈ accs → (y, Fy) ∈ accs → x < y → x ∈ (ancTab ops.toList []).getD y [] ∨ Apart Fx Fy) →
    InvV G w v a.tmps → (∀ o ∈ ops, Dst o a) → (∀ a' w', AftV G w a v2 a' w' → Q .normal a' w') → wpAny c.P .any ops Q fuel listed a w
  | 0, L, listed, G, w, a, v, v2, accs, hlen, hL, hlt, hsz, hsort, hcl, hrun, hap, hI, hd, hK => by
    have hnil : L = [] := List.length_eq_zero_iff.mp hlen
    subst hnil
    simp only [vRun] at hrun
    cases hrun
    refine ⟨?_, hK a w ⟨G, hI, Fr.refl G w, rfl, rfl⟩⟩
    apply List.eq_nil_iff_forall_not_mem.mpr
    intro j hj
    have := (mem_ready.mp hj).1
    rw [← hL] at this
    simp at this
  | fuel + 1, L, listed, G, w, a, v, v2, accs, hlen, hL, hlt, hsz, hsort, hcl, hrun, hap, hI, hd, hK => by
    have hlist : ∀ i, i < ops.size → i ∉ L → listed.getD i false = true := by
      intro i hi hn
      rw [hL] at hn
      have hi' : i < listed.size := by rw [hsz]; exact hi
      simp [Array.getD, hi'] at hn ⊢
      exact hn
    have hunl : ∀ i, i ∈ L → ¬ listed.getD i false = true := by
      intro i hi hn
      rw [hL] at hi
      have hi' : i < listed.size := by
        rcases Nat.lt_or_ge i listed.size with h | h
        · exact h
        · have : ¬ i < listed.size := by omega
          simp [Array.getD, this] at hi
      simp [Array.getD, hi'] at hi hn
      rw [hi] at hn; cases hn
    refine ⟨fun hnone => ?_, fun i hi => ?_⟩
    · exfalso
      match L, hlen, hL, hlt, hsort, hlist with
      | i0 :: rest, hlen, hL, hlt, hsort, hlist =>
        have hi0 := hlt i0 (by simp)
        have : i0 ∈ Region.ready .any ops listed := by
          rw [mem_ready]
          refine ⟨(hL i0).mp (by simp), ops[i0], Array.getElem?_eq_getElem hi0, fun e he hb => ?_⟩
          have hlt' := depsB_lt hdeps (Array.getElem?_eq_getElem hi0) (mem_dsOf.mpr ⟨e, he, hb, rfl⟩)
          refine hlist e.on (by omega) fun hm => ?_
          rcases List.mem_cons.mp hm with h | h
          · omega
          · have := (List.pairwise_cons.mp hsort).1 _ h; omega
        rw [hnone] at this
        simp at this
    · obtain ⟨hi1, o, ho, hi2⟩ := mem_ready.mp hi
      have hiL : i ∈ L := (hL i).mpr hi1
      obtain ⟨L1, L2, rfl⟩ := List.append_of_mem hiL
      have hfst := vRun_fst _ _ _ _ hrun
      have hx1 : ∀ x Fx, (x, Fx) ∈ accs.take L1.length → x ∈ L1 ∧ (x, Fx) ∈ accs := by
        intro x Fx hx
        have hm : x ∈ (accs.take L1.length).map (·.1) := List.mem_map.mpr ⟨_, hx, rfl⟩
        rw [List.map_take, hfst, List.take_left'] at hm
        · exact ⟨hm, List.mem_of_mem_take hx⟩
        · rfl
      have hpw := List.pairwise_append.mp hsort
      obtain ⟨v1, F, acc1, acc2, r1, r2, r3, r4⟩ := vRun_front L1 L2 v v2 accs hrun (fun x Fx Fy hx hy => by
        obtain ⟨hxL, hxa⟩ := hx1 x Fx hx
        have hlt' : x < i := hpw.2.2 x hxL i (by simp)
        refine (hap x Fx i Fy hxa hy hlt').resolve_left fun hanc => ?_
        have := anc_listed hdeps (fun j => listed.getD j false = true) hcl i i (Nat.le_refl i) (fun o' d ho' hdd => by
          rw [ho] at ho'; cases ho'
          obtain ⟨e, he, hb, rfl⟩ := mem_dsOf.mp hdd
          exact hi2 e he hb) x hanc
        exact hunl x (by simp [hxL]) this)
      have hiLt : i < listed.size := by rw [hsz]; exact hlt i (by simp)
      refine vOp_ok hc hR hS r1 hI hd fun a' w' ha => ?_
      obtain ⟨G', h1, h2, h3, h4⟩ := ha
      have hsort' : (L1 ++ L2).Pairwise (· < ·) := by
        refine List.pairwise_append.mpr ⟨hpw.1, (List.pairwise_cons.mp hpw.2.1).2, fun x hx y hy => hpw.2.2 x hx y (by simp [hy])⟩
      have hni : i ∉ L1 ++ L2 := by
        intro hm
        rcases List.mem_append.mp hm with h | h
        · have := hpw.2.2 i h i (by simp); omega
        · have := (List.pairwise_cons.mp hpw.2.1).1 i h; omega
      refine any_ok hc hR hS hdeps fuel (L1 ++ L2) (listed.setIfInBounds i true) G' w' a' v1 v2 (acc1 ++ acc2) (by simp at hlen ⊢; omega) (fun j => ?_) (fun j hj => hlt j ?_) (by simp [hsz]) hsort' ?_ r2 ?_ h1
        (fun o ho k hk => by rw [h3]; exact hd o ho k hk) (fun a'' w'' h => hK a'' w'' (AftV.trans h2 h3 h4 h))
      · by_cases e : i = j
        · subst e
          constructor
          · intro h; exact absurd h hni
          · intro h; simp [Array.getD, hiLt] at h
        · rw [getD_set_ne true e, ← hL j]
          simp only [List.mem_append, List.mem_cons]
          have : ¬ j = i := fun h => e h.symm
          simp [this]
      · simp only [List.mem_append, List.mem_cons] at hj ⊢
        rcases hj with h | h
        · exact .inl h
        · exact .inr (.inr h)
      · intro j o' d hj ho' hdd
        by_cases e : i = j
        · subst e
          rw [ho] at ho'; cases ho'
          obtain ⟨e, he, hb, rfl⟩ := mem_dsOf.mp hdd
          exact getD_set_true (hi2 e he hb)
        · rw [getD_set_ne false e] at hj
          exact getD_set_true (hcl j o' d hj ho' hdd)
      · intro x Fx y Fy hx hy hxy
        refine hap x Fx y Fy ?_ ?_ hxy
        · rw [r3]
          rcases List.mem_append.mp hx with h | h <;> simp [h]
        · rw [r3]
          rcases List.mem_append.mp hy with h | h <;> simp [h]
end
end Go.Proofs.Ytmnefpfbgadnkaa.AI
