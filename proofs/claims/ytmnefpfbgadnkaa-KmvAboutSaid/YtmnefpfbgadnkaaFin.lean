/- A function's results; its start. -/
import Derived.Test.YtmnefpfbgadnkaaLocE
namespace Go.Proofs.Ytmnefpfbgadnkaa.AI
open Go
set_option linter.unusedVariables false
set_option linter.unusedSimpArgs false

/-- Who owns a result's parts. -/
def OwnKey (key : Nat × Nat) (own : Nat → Ow) : Prop := (key.1 = 0 ∧ own = fun i => .sl key.2 0 i) ∨ (key.1 = 1 ∧ ∃ g off, own = fun i => .bc key.2 g (off + i))
theorem OwnKey.inj {k k' : Nat × Nat} {own own' : Nat → Ow} (h : OwnKey k own) (h' : OwnKey k' own') {i i' : Nat} (e : own i = own' i') : k = k' := by
  obtain ⟨a, b⟩ := k
  obtain ⟨a', b'⟩ := k'
  rcases h with ⟨h1, rfl⟩ | ⟨h1, g, off, rfl⟩ <;> rcases h' with ⟨h1', rfl⟩ | ⟨h1', g', off', rfl⟩ <;> simp only at h1 h1' e
  · injection e with e1 e2 e3; subst h1; subst h1'; subst e1; rfl
  · cases e
  · cases e
  · injection e with e1 e2 e3; subst h1; subst h1'; subst e1; rfl
theorem OwnKey.inj1 {k : Nat × Nat} {own : Nat → Ow} (h : OwnKey k own) {i i' : Nat} (e : own i = own i') : i = i' := by
  rcases h with ⟨h1, rfl⟩ | ⟨h1, g, off, rfl⟩
  · injection e
  · injection e with e1 e2 e3; omega
theorem OwnKey.form {k : Nat × Nat} {own : Nat → Ow} (h : OwnKey k own) (i : Nat) : (∃ a b c, own i = .sl a b c) ∨ ∃ a b c, own i = .bc a b c := by
  rcases h with ⟨h1, rfl⟩ | ⟨h1, g, off, rfl⟩
  · exact .inl ⟨_, _, _, rfl⟩
  · exact .inr ⟨_, _, _, rfl⟩
open Classical in
noncomputable def relx (owns : List (Nat → Ow)) (p : Ow) : Ow :=
  if h : ∃ ji : Nat × Nat, ∃ own, owns[ji.1]? = some own ∧ own ji.2 = p then .sl 0 h.choose.1 h.choose.2 else .oth
/-- What the function's results are called behind its end. -/
noncomputable def relab (owns : List (Nat → Ow)) (p : Ow) : Ow :=
  match p with
  | .fr => .fr
  | .obj b g => .obj b g
  | .oc b g i => .oc b g i
  | p => relx owns p
theorem relx_or {owns : List (Nat → Ow)} (p : Ow) : (∃ j i, relx owns p = .sl 0 j i) ∨ relx owns p = .oth := by
  unfold relx
  split
  · exact .inl ⟨_, _, rfl⟩
  · exact .inr rfl
theorem relab_sl {owns : List (Nat → Ow)} (a b c : Nat) : (∃ j i, relab owns (.sl a b c) = .sl 0 j i) ∨ relab owns (.sl a b c) = .oth := relx_or _
theorem relab_bc {owns : List (Nat → Ow)} (a b c : Nat) : (∃ j i, relab owns (.bc a b c) = .sl 0 j i) ∨ relab owns (.bc a b c) = .oth := relx_or _
theorem relab_box {owns : List (Nat → Ow)} (a b : Nat) : (∃ j i, relab owns (.box a b) = .sl 0 j i) ∨ relab owns (.box a b) = .oth := relx_or _
theorem relx_own {owns : List (Nat → Ow)} (hinj : ∀ (j j' : Nat) (own own' : Nat → Ow) (i i' : Nat), owns[j]? = some own → owns[j']? = some own' → own i = own' i' → j = j' ∧ i = i')
    {j : Nat} {own : Nat → Ow} (hj : owns[j]? = some own) (i : Nat) : relx owns (own i) = .sl 0 j i := by
  have hex : ∃ ji : Nat × Nat, ∃ own', owns[ji.1]? = some own' ∧ own' ji.2 = own i := ⟨(j, i), own, hj, rfl⟩
  have key : relx owns (own i) = .sl 0 hex.choose.1 hex.choose.2 := by
    unfold relx
    rw [dif_pos hex]
  rw [key]
  obtain ⟨own', h1, h2⟩ := hex.choose_spec
  obtain ⟨e1, e2⟩ := hinj _ _ _ _ _ _ h1 hj h2
  rw [e1, e2]
theorem relab_own {owns : List (Nat → Ow)} (hinj : ∀ (j j' : Nat) (own own' : Nat → Ow) (i i' : Nat), owns[j]? = some own → owns[j']? = some own' → own i = own' i' → j = j' ∧ i = i')
    (hform : ∀ (j : Nat) (own : Nat → Ow), owns[j]? = some own → ∀ i, (∃ a b c, own i = .sl a b c) ∨ ∃ a b c, own i = .bc a b c) {j : Nat} {own : Nat → Ow} (hj : owns[j]? = some own) (i : Nat) :
    relab owns (own i) = .sl 0 j i := by
  have e : relab owns (own i) = relx owns (own i) := by
    rcases hform j own hj i with ⟨a, b, c, e⟩ | ⟨a, b, c, e⟩ <;> rw [e] <;> rfl
  rw [e, relx_own hinj hj]
theorem relx_oth {owns : List (Nat → Ow)} (hoth : ∀ (j : Nat) (own : Nat → Ow), owns[j]? = some own → ∀ i, (∃ a b c, own i = .sl a b c) ∨ ∃ a b c, own i = .bc a b c) : relx owns .oth = .oth := by
  unfold relx
  rw [dif_neg]
  rintro ⟨ji, own, h1, h2⟩
  rcases hoth _ own h1 ji.2 with ⟨a, b, c, e⟩ | ⟨a, b, c, e⟩ <;> rw [e] at h2 <;> cases h2
theorem relab_rho (owns : List (Nat → Ow)) (hoth : ∀ (j : Nat) (own : Nat → Ow), owns[j]? = some own → ∀ i, (∃ a b c, own i = .sl a b c) ∨ ∃ a b c, own i = .bc a b c) : Rho (relab owns) where
  fr := rfl
  oth := relx_oth hoth
  box p k g h := by
    cases p with
    | fr => cases h
    | oth => rw [show relab owns .oth = .oth from relx_oth hoth] at h; cases h
    | box a b => rcases relab_box (owns := owns) a b with ⟨j, i, e⟩ | e <;> rw [e] at h <;> cases h
    | obj a b => cases h
    | sl a b d => rcases relab_sl (owns := owns) a b d with ⟨j, i, e⟩ | e <;> rw [e] at h <;> cases h
    | bc a b d => rcases relab_bc (owns := owns) a b d with ⟨j, i, e⟩ | e <;> rw [e] at h <;> cases h
    | oc a b d => cases h
  obj p k g h := by
    cases p with
    | fr => cases h
    | oth => rw [show relab owns .oth = .oth from relx_oth hoth] at h; cases h
    | box a b => rcases relab_box (owns := owns) a b with ⟨j, i, e⟩ | e <;> rw [e] at h <;> cases h
    | obj a b => exact h
    | sl a b d => rcases relab_sl (owns := owns) a b d with ⟨j, i, e⟩ | e <;> rw [e] at h <;> cases h
    | bc a b d => rcases relab_bc (owns := owns) a b d with ⟨j, i, e⟩ | e <;> rw [e] at h <;> cases h
    | oc a b d => cases h

theorem noKey_spec {k : Nat × Nat} : ∀ {l : List (Nat × Nat)}, noKey k l = true → ∀ j, j ∈ l → j ≠ k
  | [], _, j, hj => by simp at hj
  | x :: l, h, j, hj => by
    simp only [noKey] at h
    split at h
    · cases h
    · rename_i hb
      rcases List.mem_cons.mp hj with rfl | hj
      · rintro rfl
        simp [beq_self] at hb
      · exact noKey_spec h j hj
theorem distinct_spec : ∀ {l : List (Nat × Nat)}, distinctB l = true → ∀ (i j : Nat) (k : Nat × Nat), l[i]? = some k → l[j]? = some k → i = j
  | [], _, i, j, k, hi, _ => by simp at hi
  | x :: l, h, i, j, k, hi, hj => by
    simp only [distinctB] at h
    split at h
    · rename_i hn
      cases i with
      | zero =>
        cases j with
        | zero => rfl
        | succ j =>
          simp at hi hj
          subst hi
          exact absurd rfl (noKey_spec hn _ (List.mem_of_getElem? hj))
      | succ i =>
        cases j with
        | zero =>
          simp at hi hj
          subst hj
          exact absurd rfl (noKey_spec hn _ (List.mem_of_getElem? hi))
        | succ j =>
          simp at hi hj
          rw [distinct_spec h i j k hi hj]
    · cases h

section
variable {c : Cx} {G : Gh} {w : World} {st : St} {tmps : Array Value}
theorem resVK_nat {R : Type} (st : St) (tt : TypeId → Option TI) (r : ResultVar) (K : AV → Option R) : resVK st tt r K = (resVK st tt r some).bind K := by
  unfold resVK
  repeat' split
  all_goals simp [Option.bind_assoc]
theorem resVsK_nat {R : Type} (st : St) (tt : TypeId → Option TI) : ∀ (l : List ResultVar) (K : List AV → Option R), resVsK st tt K l = (resVsK st tt some l).bind K
  | [], K => rfl
  | r :: l, K => by
    simp only [resVsK]
    rw [resVK_nat, resVK_nat (K := fun x => resVsK st tt (fun xs => some (x :: xs)) l)]
    simp only [Option.bind_assoc]
    congr 1; funext x
    rw [resVsK_nat st tt l, resVsK_nat st tt l (fun xs => some (x :: xs))]
    simp [Option.bind_assoc]
def resEval (tmps : Array Value) : ResultVar → Sem Value
  | .tmp t => pure (tmps.getD t undef)
  | .cell a t => do loadVar t (← asAddr (tmps.getD a undef))
theorem res1 (hc : Ok c) (hI : Inv G w st tmps) {r : ResultVar} {x : AV} (hr : resVK st c.tn r some = some x) :
    ∃ own v, OwnKey (keyOf st r) own ∧ RelV G w own x v ∧ (resEval tmps r).run c.P w = .ok v w := by
  cases r with
  | tmp t => exact ⟨fun i => .sl t 0 i, _, .inl ⟨rfl, rfl⟩, toA_rel (hI.slots t) (by simpa [resVK] using hr), rfl⟩
  | cell a ty =>
    simp only [resVK] at hr
    split at hr
    · rename_i ti hti
      split at hr
      · rename_i k g off hs
        split at hr
        · rename_i g' cs hb
          split at hr
          · rename_i hg
            subst hg
            have hsl := hI.slots a
            rw [hs] at hsl
            obtain ⟨blk, hla, hv⟩ := hsl
            obtain ⟨blk', b1, b2, b3⟩ := hI.boxes k g cs hb
            rw [hla] at b1; cases b1
            obtain ⟨arr, e, c1, c2, c3⟩ := b3
            have ht := hc.tt ty ti (tn_some hti).1
            have hz := ht.sizeOf (tn_some hti).2 w
            have ha := ht.isAgg (tn_some hti).2 w
            have hlen : cs.length = arr.toList.length := by simp [c2]
            have hkey : keyOf st (.cell a ty) = (1, k) := by simp [keyOf, hs]
            split at hr
            · rename_i hag
              obtain ⟨l, hl, hr⟩ := Option.bind_eq_some_iff.mp hr
              cases hr
              obtain ⟨hle, rfl⟩ := getN_some hl
              refine ⟨fun i => .bc k g (off + i), .agg ((arr.toList.drop off).take ti.size).toArray, .inr ⟨by rw [hkey], g, off, by rw [hkey]⟩, ⟨(arr.toList.drop off).take ti.size, rfl, by simp [hlen], fun i y u hy hu => ?_⟩, ?_⟩
              · rw [List.getElem?_take] at hy hu
                split at hy
                · rename_i hq
                  simp only [hq, if_true] at hu
                  rw [List.getElem?_drop] at hy hu
                  exact c3 (off + i) y u hy (by simpa using hu)
                · cases hy
              · have hload := run_loadCells_list (P := c.P) (w := w) (⟨blk, off, none⟩ : Addr) ((arr.toList.drop off).take ti.size) (fun j v hj => by
                  rw [addr_add, cell_of_heap c1]
                  rw [List.getElem?_take] at hj
                  split at hj
                  · rw [List.getElem?_drop] at hj; simpa using hj
                  · cases hj)
                have hll : ((arr.toList.drop off).take ti.size).length = ti.size := by simp; omega
                rw [hll] at hload
                simp [resEval, hv, asAddr, loadVar, ha, hag, hz, hload]
            · rename_i hag
              have hx : cs[off]? = some x := by
                obtain ⟨y, hy, hr⟩ := Option.bind_eq_some_iff.mp hr
                cases hr; exact hy
              obtain ⟨u, hu⟩ := get_of_len hlen hx
              have hu' : arr[off]? = some u := by simpa using hu
              have hrel := c3 off x u hx hu'
              have hag' : isAg ti.k = false := by simpa using hag
              refine ⟨fun i => .bc k g (off + i), u, .inr ⟨by rw [hkey], g, off, by rw [hkey]⟩, RelC.v hrel, ?_⟩
              have hcell : w.cell? (⟨blk, off, none⟩ : Addr) = some u := by rw [cell_of_heap c1]; exact hu'
              simp [resEval, hv, asAddr, loadVar, ha, hag', hcell]
          · cases hr
        · cases hr
      · cases hr
    · cases hr
theorem ress (hc : Ok c) (hI : Inv G w st tmps) : ∀ {rs : List ResultVar} {xs : List AV}, resVsK st c.tn some rs = some xs →
    ∃ (owns : List (Nat → Ow)) (vs : List Value), owns.length = rs.length ∧ vs.length = rs.length ∧ xs.length = rs.length ∧ (rs.mapM (resEval tmps)).run c.P w = .ok vs w ∧
      (∀ (j : Nat) (own : Nat → Ow), owns[j]? = some own → ∃ r, rs[j]? = some r ∧ OwnKey (keyOf st r) own) ∧
      ∀ (j : Nat) (x : AV) (v : Value), xs[j]? = some x → vs[j]? = some v → ∃ own, owns[j]? = some own ∧ RelV G w own x v
  | [], xs, h => by simp only [resVsK] at h; cases h; exact ⟨[], [], rfl, rfl, rfl, rfl, by simp, by simp⟩
  | r :: rs, xs, h => by
    simp only [resVsK] at h
    rw [resVK_nat] at h
    obtain ⟨x, hx, h⟩ := Option.bind_eq_some_iff.mp h
    rw [resVsK_nat] at h
    obtain ⟨xs', hxs, h⟩ := Option.bind_eq_some_iff.mp h
    cases h
    obtain ⟨own, v, h1, h2, h3⟩ := res1 hc hI hx
    obtain ⟨owns, vs, g1, g2, g3, g4, g5, g6⟩ := ress hc hI hxs
    refine ⟨own :: owns, v :: vs, by simp [g1], by simp [g2], by simp [g3], ?_, ?_, ?_⟩
    · rw [List.mapM_cons]
      simp only [Sem.run_bind, h3, Result.andThen_ok, g4, Sem.run_pure]
    · intro j own' hj
      cases j with
      | zero => simp at hj; subst hj; exact ⟨r, rfl, h1⟩
      | succ j => simp at hj; obtain ⟨r', a1, a2⟩ := g5 j own' hj; exact ⟨r', by simpa using a1, a2⟩
    · intro j x' v' hx' hv'
      cases j with
      | zero => simp at hx' hv'; subst hx'; subst hv'; exact ⟨own, rfl, h2⟩
      | succ j => simp at hx' hv'; obtain ⟨own', a1, a2⟩ := g6 j x' v' hx' hv'; exact ⟨own', by simpa using a1, a2⟩
theorem run_results {P : Program} {fn : Func} {vs : List Value} (h : (fn.results.toList.mapM (resEval tmps)).run P w = .ok vs w) :
    (results fn tmps).run P w = .ok (match vs with | [v] => v | vs => .tuple vs.toArray) w := by
  have hm : (fn.results.mapM (resEval tmps)).run P w = .ok vs.toArray w := by
    rw [Array.mapM_eq_mapM_toList, Sem.run_map, h]; rfl
  have e : results fn tmps = (do let vs ← fn.results.mapM (resEval tmps); pure (if h : vs.size = 1 then vs[0] else .tuple vs)) := by
    unfold results
    congr 1
  rw [e, Sem.run_bind, hm]
  simp only [Result.andThen_ok, Sem.run_pure]
  match vs with
  | [] => rfl
  | [v] => rfl
  | v :: v' :: vs => simp
theorem fin_ok (hc : Ok c) {f : FuncId} {fn : Func} (hF : c.F f = some fn) (hI : Inv G w st tmps) {y : AV} {hp : Hp} (hr : fin c f st = some (y, hp)) :
    ∃ v G', (results fn tmps).run c.P w = .ok v w ∧ Fr G w G' w ∧ HpI G' w hp ∧ ResR G' w y v := by
  unfold fin at hr
  rw [hF] at hr
  simp only at hr
  cases hd : distinctB (fn.results.toList.map (keyOf st)) with
  | false => rw [hd] at hr; cases hr
  | true =>
    rw [hd] at hr
    simp only [cond_true] at hr
    rw [resVsK_nat] at hr
    obtain ⟨xs, hxs, hr⟩ := Option.bind_eq_some_iff.mp hr
    obtain ⟨owns, vs, g1, g2, g3, g4, g5, g6⟩ := ress hc hI hxs
    have hform : ∀ (j : Nat) (own : Nat → Ow), owns[j]? = some own → ∀ i, (∃ a b c, own i = .sl a b c) ∨ ∃ a b c, own i = .bc a b c := by
      intro j own hj i
      obtain ⟨r, _, h⟩ := g5 j own hj
      exact h.form i
    have hinj : ∀ (j j' : Nat) (own own' : Nat → Ow) (i i' : Nat), owns[j]? = some own → owns[j']? = some own' → own i = own' i' → j = j' ∧ i = i' := by
      intro j j' own own' i i' hj hj' e
      obtain ⟨r, hr1, h⟩ := g5 j own hj
      obtain ⟨r', hr1', h'⟩ := g5 j' own' hj'
      have hk := h.inj h' e
      have e1 : (fn.results.toList.map (keyOf st))[j]? = some (keyOf st r) := by rw [List.getElem?_map, hr1]; rfl
      have e2 : (fn.results.toList.map (keyOf st))[j']? = some (keyOf st r) := by rw [List.getElem?_map, hr1', hk]; rfl
      have ej := distinct_spec hd j j' _ e1 e2
      subst ej
      rw [hj] at hj'; cases hj'
      exact ⟨rfl, h.inj1 e⟩
    have hrho := relab_rho owns hform
    have hfr : Fr G w (G.rel (relab owns)) w := Fr.rel hrho
    have hrel : ∀ (j : Nat) (x : AV) (v : Value), xs[j]? = some x → vs[j]? = some v → RelV (G.rel (relab owns)) w (.sl 0 j ·) x v := by
      intro j x v hx hv
      obtain ⟨own, ho, hr⟩ := g6 j x v hx hv
      refine RelV.ev hfr.ev (p := own) (fun i b hb => ⟨rfl, rfl, ?_⟩) hr
      simp only [Gh.rel, hb]
      exact relab_own hinj hform ho i
    refine ⟨_, G.rel (relab owns), run_results g4, hfr, ?_, ?_⟩
    · have : hp = st.hp := by
        split at hr <;> cases hr <;> rfl
      subst this
      exact hI.hpI.rel hrho (fun _ _ => rfl) (fun _ _ _ => rfl)
    · match xs, vs, hr, g2, g3, hrel with
      | [x], [v], hr, _, _, hrel =>
        cases hr
        have := hrel 0 _ _ rfl rfl
        unfold ResR
        split
        · exact this.elim
        · exact this
      | [], [], hr, _, _, hrel => cases hr; exact ⟨[], rfl, rfl, by simp⟩
      | x :: x' :: xs, v :: v' :: vs, hr, g2, g3, hrel => cases hr; exact ⟨_, rfl, by simp at g2 g3 ⊢; omega, hrel⟩
      | [], v :: vs, hr, g2, g3, _ => simp at g2 g3; omega
      | [x], [], hr, g2, g3, _ => simp at g2 g3; omega
      | [x], v :: v' :: vs, hr, g2, g3, _ => simp at g2 g3; omega
      | x :: x' :: xs, [], hr, g2, g3, _ => simp at g2 g3; omega
      | x :: x' :: xs, [v], hr, g2, g3, _ => simp at g2 g3; omega
end
end Go.Proofs.Ytmnefpfbgadnkaa.AI
