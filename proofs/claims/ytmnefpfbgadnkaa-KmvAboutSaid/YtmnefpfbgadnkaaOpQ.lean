/- Every operation: what the abstract machine says of it, it does. -/
import Derived.Test.YtmnefpfbgadnkaaOpP
namespace Go.Proofs.Ytmnefpfbgadnkaa.AI
open Go
set_option linter.unusedVariables false
set_option linter.unusedSimpArgs false

section
variable {c : Cx} {G : Gh} {w w' : World} {st : St} {a : Act} {o : Oper} {Q : Exit → Act → World → Prop}
theorem list1 {α β : Type} {l : List α} {f : α → β} {y : β} (h : l.map f = [y]) : ∃ x, l = [x] ∧ f x = y := by
  match l, h with
  | [x], h => simp at h; exact ⟨x, rfl, h⟩
theorem list2 {α β : Type} {l : List α} {f : α → β} {y z : β} (h : l.map f = [y, z]) : ∃ x x', l = [x, x'] ∧ f x = y ∧ f x' = z := by
  match l, h with
  | [x, x'], h => simp at h; exact ⟨x, x', rfl, h.1, h.2⟩
theorem arr_of_list {α : Type} {x : Array α} {l : List α} (h : x.toList = l) : x = l.toArray := by
  subst h; simp
theorem op_blt (hc : Ok c) (hI : Inv G w st a.tmps) (hd : Dst o a) (h : Nat) {cl : Call} (hop : o.op = .call cl) {b : Builtin} (hcl : cl.callee = .builtin b) {r : SV × BE × Hp}
    (hr : (bltK c h o b cl.argTypes.toList (cl.args.toList.map (evS st.sl)) fun s => some (s, (none : BE), st.hp)) = some r) : o.wp c.P a w (Aft G w a (after h o st r.1 r.2.1 r.2.2)) Q := by
  unfold bltK at hr
  split at hr
  · rename_i t x hts has
    obtain ⟨x', hx1, hx2⟩ := list1 has
    split at hr
    · rename_i ti hti
      split at hr
      · rename_i e hk
        obtain ⟨n, hn, hr⟩ := Option.bind_eq_some_iff.mp hr
        cases hr
        exact op_len hc hI hd h hop hcl (arr_of_list hx1) (by rw [arr_of_list hts]; rfl) hti hk hx2 hn
      · cases hr
    · cases hr
  · rename_i t t' d s hts has
    obtain ⟨x, y, hx1, hx2, hx3⟩ := list2 has
    split at hr
    · cases hr
    · rename_i htt
      have htt : t' = t := Classical.not_not.mp htt
      subst htt
      split at hr
      · rename_i ti hti
        split at hr
        · rename_i e hk
          split at hr
          · rename_i ei hei
            obtain ⟨d', hd', hr⟩ := Option.bind_eq_some_iff.mp hr
            obtain ⟨s', hs', hr⟩ := Option.bind_eq_some_iff.mp hr
            obtain ⟨z, hz, hr⟩ := Option.bind_eq_some_iff.mp hr
            cases hr
            exact op_append hc hI hd h hop hcl (arr_of_list hx1) (arr_of_list hts) hti hk hei (by rw [hx2]; exact hd') (by rw [hx3]; exact hs') hz
          · cases hr
        · cases hr
      · cases hr
  · obtain ⟨vs, hvs, hr⟩ := Option.bind_eq_some_iff.mp hr
    obtain ⟨z, hz, hr⟩ := Option.bind_eq_some_iff.mp hr
    cases hr
    refine op_bltV hI hd h hop hcl hvs ?_
    rw [← hz]
theorem map_toArray (a : Act) (x : Array Operand) (l : List Value) : x.map a.eval ++ l.toArray = (x.toList.map a.eval ++ l).toArray := by
  apply Array.ext'; simp
theorem start_fn {c : Cx} {f : FuncId} {fn : Func} {b : Code} (hc : Ok c) (hF : c.F f = some fn) (hb : fn.body = some b) (args : Array Value) (w : World) : (callFunc f args).run c.P w = .ok (.enter f args) w :=
  run_callFunc (hc.F f fn hF) (hc.nm f fn hF) hb args w
theorem op_callF (hc : Ok c) (hI : Inv G w st a.tmps) (hd : Dst o a) (h : Nat) {R : Orc} (hR : Sound c R) {cl : Call} (hop : o.op = .call cl) {f : FuncId} (hcl : cl.callee = .value (.func f)) {fn : Func} (hF : c.F f = some fn) {b : Code} (hb : fn.body = some b)
    {ti : TI} {r : SV × BE × Hp} (hr : callK c R h ti f [] (cl.args.toList.map (evS st.sl)) st.hp k3 = some r) : o.wp c.P a w (Aft G w a (after h o st r.1 r.2.1 r.2.2)) Q := by
  refine op_callK hR hI hd h hr (cvs := []) rfl (by intro i x v hx; simp at hx) (by simp [dnOp, downs, hop, hcl, dnAll]) ?_
  simp only [execOp, hop, resolve, hcl, Act.eval, Deferred.ofValue]
  have := start_fn hc hF hb (cl.args.map a.eval ++ #[]) w
  rw [← map_toArray, ← this]
  simp [invoke]
theorem getFn_some {x : AV} {p : FuncId × List AV} (h : getFn x = some p) : x = .fn p.1 p.2 := by
  cases x <;> simp [getFn] at h
  subst h; rfl
theorem runs_body {c : Cx} {R : Orc} (hS : ∀ f xs hp r, R f xs hp = some r → ∃ fn b, c.F f = some fn ∧ fn.body = some b) {h : Nat} {ti : TI} {f : FuncId} {caps : List AV} {as : List SV} {hp : Hp} {r : SV × BE × Hp}
    (hr : callK c R h ti f caps as hp k3 = some r) : ∃ fn b, c.F f = some fn ∧ fn.body = some b := by
  unfold callK at hr
  obtain ⟨xs, hxs, hr⟩ := Option.bind_eq_some_iff.mp hr
  split at hr
  · obtain ⟨p, hp', hr⟩ := Option.bind_eq_some_iff.mp hr
    exact hS _ _ _ _ hp'
  · obtain ⟨p, hp', hr⟩ := Option.bind_eq_some_iff.mp hr
    exact hS _ _ _ _ hp'
theorem op_callT (hc : Ok c) (hI : Inv G w st a.tmps) (hd : Dst o a) (h : Nat) {R : Orc} (hR : Sound c R) (hS : ∀ f xs hp r, R f xs hp = some r → ∃ fn b, c.F f = some fn ∧ fn.body = some b)
    {cl : Call} (hop : o.op = .call cl) {t : Tmp} (hcl : cl.callee = .value (.tmp t)) {x : AV} (hx : evS st.sl (.tmp t) = .av x) {p : FuncId × List AV} (hp : getFn x = some p)
    {ti : TI} {r : SV × BE × Hp} (hr : callK c R h ti p.1 p.2 (cl.args.toList.map (evS st.sl)) st.hp k3 = some r) : o.wp c.P a w (Aft G w a (after h o st r.1 r.2.1 r.2.2)) Q := by
  have hxr := evR hI (.tmp t)
  rw [hx, getFn_some hp] at hxr
  have hxr' : RelR G w (.fn p.1 p.2) (a.eval (.tmp t)) := hxr
  generalize hv : a.eval (.tmp t) = v at hxr'
  cases hxr' with
  | fn _ _ vs h1 h2 =>
  obtain ⟨fn, b, hF, hb⟩ := runs_body hS hr
  refine op_callK hR hI hd h hr (cvs := vs) h1 h2 (by simp [dnOp, downs, hop, hcl, dnAll]) ?_
  simp only [execOp, hop, resolve, hcl, hv, Deferred.ofValue]
  have := start_fn hc hF hb (cl.args.map a.eval ++ vs.toArray) w
  rw [← map_toArray, ← this]
  simp [invoke]
theorem op_extern (hc : Ok c) (hI : Inv G w st a.tmps) (hd : Dst o a) (h : Nat) {cl : Call} (hop : o.op = .call cl) {f : FuncId} (hcl : cl.callee = .value (.func f)) {fn : Func} (hF : c.F f = some fn) (hb : fn.body = none)
    {vs : List Value} (hvs : toVs (cl.args.toList.map (evS st.sl)) = some vs) {z : Value} (hz : one (c.X f vs) = some z) : o.wp c.P a w (Aft G w a (after h o st (.sv z) none st.hp)) Q := by
  have he := toVs_eval hI hvs
  refine wp_sv hI h (by simp [dnOp, hop]) hd (one_some hz).2 ?_
  simp only [execOp, hop, resolve, hcl, Act.eval, Deferred.ofValue]
  have := hc.X f fn vs z hF hb (one_some hz).1 w
  have hargs : cl.args.map a.eval = vs.toArray := by rw [← he]; apply Array.ext'; simp
  rw [← this, hargs]
  simp [invoke]
theorem core_ok (hc : Ok c) {R : Orc} (hR : Sound c R) (hS : ∀ f xs hp r, R f xs hp = some r → ∃ fn b, c.F f = some fn ∧ fn.body = some b) (hI : Inv G w st a.tmps) (hd : Dst o a) (h : Nat) {r : SV × BE × Hp}
    (hr : coreK c R h o (evS st.sl) (getB st.bx) st.hp k3 = some r) : o.wp c.P a w (Aft G w a (after h o st r.1 r.2.1 r.2.2)) Q := by
  unfold coreK at hr
  split at hr
  -- move
  · rename_i x hop
    split at hr
    · rename_i ti hti
      cases hr
      exact op_move hI hd h hop
    · cases hr
  -- assign
  · rename_i x hop
    split at hr
    · rename_i ti hti
      cases hr
      exact op_assign hI hd h hop
    · cases hr
  -- pick
  · rename_i x y z hop
    exact op_pick hI hd h hop hr
  -- alloc
  · rename_i t hop
    split at hr
    · rename_i ti hti
      exact op_alloc hc hI hd h hti hop hr
    · cases hr
  -- box
  · rename_i t x hop
    split at hr
    · rename_i ti hti
      exact op_box hc hI hd h hti hop hr
    · cases hr
  -- build
  · rename_i t ps hop
    split at hr
    · rename_i ti hti
      split at hr
      · rename_i fs hk
        split at hr
        · rename_i hall
          rw [fillK_nat] at hr
          obtain ⟨cs, hcs, hr⟩ := Option.bind_eq_some_iff.mp hr
          cases hr
          exact op_build_st hc hI hd h hti hop hk hcs (fun p hp => List.all_eq_true.mp hall p hp)
        · cases hr
      · rename_i n e hk
        split at hr
        · rename_i ei hei
          rw [fillK_nat] at hr
          obtain ⟨cs, hcs, hr⟩ := Option.bind_eq_some_iff.mp hr
          cases hr
          exact op_build_ar hc hI hd h hti hop hk hei hcs
        · cases hr
      · cases hr
    · cases hr
  -- buildSlice
  · rename_i t n ps hop
    split at hr
    · rename_i ti hti
      split at hr
      · rename_i e hk
        split at hr
        · rename_i ei hei
          split at hr
          · rename_i hn
            rw [fillK_nat] at hr
            obtain ⟨cs, hcs, hr⟩ := Option.bind_eq_some_iff.mp hr
            cases hr
            exact op_buildSlice hc hI hd h hti hop hk hei hn.1 hn.2 hcs
          · cases hr
        · cases hr
      · cases hr
    · cases hr
  -- load
  · rename_i t x hop
    split at hr
    · rename_i ti hti
      by_cases h1 : h = 1
      · subst h1
        exact op_load1 hc hI hd hti hop hr
      · exact op_load0 hc hI hd h h1 hti hop hr
    · cases hr
  -- store
  · rename_i t x y hop
    split at hr
    · rename_i ti hti
      exact op_store hc hI hd h hti hop hr
    · cases hr
  -- nilCheck
  · rename_i x hop
    exact op_nilCheck hI hd h hop hr
  -- binOp
  · rename_i op t x y yt hop
    exact op_bin hc hI hd h hop hr
  -- unOp
  · rename_i op t x hop
    exact op_un hI hd h hop hr
  -- convert
  · rename_i s d x hop
    split at hr
    · rename_i si di hsi hdi
      exact op_convert hc hI hd h hsi hdi hop hr
    · cases hr
  -- makeFunc
  · rename_i f fs cs hop
    split at hr
    · rename_i hfs
      obtain ⟨xs, hxs, hr⟩ := Option.bind_eq_some_iff.mp hr
      split at hr
      · rename_i hall
        cases hr
        exact op_makeFunc hI hd h hop hfs hxs hall
      · cases hr
    · cases hr
  -- makeSlice
  · rename_i t l m hop
    split at hr
    · rename_i ti hti
      split at hr
      · rename_i e hk
        split at hr
        · rename_i ei hei
          obtain ⟨lv, hlv, hr⟩ := Option.bind_eq_some_iff.mp hr
          obtain ⟨mv, hmv, hr⟩ := Option.bind_eq_some_iff.mp hr
          obtain ⟨n, hn, hr⟩ := Option.bind_eq_some_iff.mp hr
          obtain ⟨n', hn', hr⟩ := Option.bind_eq_some_iff.mp hr
          split at hr
          · rename_i hq
            obtain ⟨rfl, h0, hf, hpos⟩ := hq
            exact op_makeSlice hc hI hd h hti hop hk hei (asSV_eq hlv) (asSV_eq hmv) hn hn' h0 hf hpos hr
          · cases hr
        · cases hr
      · cases hr
    · cases hr
  -- slice
  · rename_i t x lo hi mx hop
    split at hr
    · rename_i ti hti
      split at hr
      · cases hr
      · rename_i hmx
        exact op_slice hc hI hd h hti hop (by cases hq : (mx.isSome && !hi.isSome) <;> first | rfl | exact absurd hq hmx) hr
    · cases hr
  -- fieldAddr
  · rename_i t x f hop
    split at hr
    · rename_i ti hti
      exact op_fieldAddr hc hI hd h hti hop hr
    · cases hr
  -- field
  · rename_i t x f hop
    split at hr
    · rename_i ti hti
      split at hr
      · rename_i fs hk
        split at hr
        · rename_i fo ft hfs
          split at hr
          · rename_i fi hfi
            obtain ⟨cs, hcs, hr⟩ := Option.bind_eq_some_iff.mp hr
            rw [loadK_nat] at hr
            obtain ⟨q, hq, hr⟩ := Option.bind_eq_some_iff.mp hr
            cases hr
            exact op_field hc hI hd h hti hop hk hfs hfi hcs hq
          · cases hr
        · cases hr
      · cases hr
    · cases hr
  -- indexAddr
  · rename_i t x i hop
    split at hr
    · rename_i ti hti
      exact op_indexAddr hc hI hd h hti hop hr
    · cases hr
  -- index
  · rename_i t x i hop
    split at hr
    · rename_i ti hti
      split at hr
      · exact op_index hI hd h hop hr
      · cases hr
    · cases hr
  -- extract
  · rename_i x i hop
    split at hr
    · rename_i l hx
      split at hr
      · rename_i y hy
        have ht : ∃ t, x = .tmp t := by
          cases x with
          | tmp t => exact ⟨t, rfl⟩
          | const v =>
            simp only [evS] at hx
            split at hx
            · split at hx <;> cases hx
            · cases hx
            · cases hx
          | global g => cases hx
          | func f => cases hx
        obtain ⟨t, rfl⟩ := ht
        split at hr
        · rename_i ti hti
          split at hr
          · obtain ⟨v, hv, hr⟩ := Option.bind_eq_some_iff.mp hr
            cases hr
            exact op_extract hI hd h hop hx hy (.inl ⟨v, asSc_some hv, rfl⟩)
          · cases hr
            exact op_extract hI hd h hop hx hy (.inr rfl)
        · cases hr
      · cases hr
    · cases hr
  -- call
  · rename_i cl hop
    split at hr
    · rename_i b hcl
      exact op_blt hc hI hd h hop hcl hr
    · rename_i f hcl
      split at hr
      · rename_i fn ti hF hti
        split at hr
        · rename_i b hb
          exact op_callF hc hI hd h hR hop hcl hF hb hr
        · rename_i hb
          obtain ⟨vs, hvs, hr⟩ := Option.bind_eq_some_iff.mp hr
          obtain ⟨z, hz, hr⟩ := Option.bind_eq_some_iff.mp hr
          cases hr
          exact op_extern hc hI hd h hop hcl hF hb hvs hz
      · cases hr
    · rename_i t hcl
      split at hr
      · rename_i ti hti
        split at hr
        · rename_i x hx
          obtain ⟨p, hp, hr⟩ := Option.bind_eq_some_iff.mp hr
          exact op_callT hc hI hd h hR hS hop hcl hx hp hr
        · cases hr
      · cases hr
    · cases hr
  · cases hr
end
end Go.Proofs.Ytmnefpfbgadnkaa.AI
