/- Conversions, function values, fields of values, builtins that compute. -/
import Derived.Test.YtmnefpfbgadnkaaOpN
namespace Go.Proofs.Ytmnefpfbgadnkaa.AI
open Go
set_option linter.unusedVariables false
set_option linter.unusedSimpArgs false

section
variable {c : Cx} {G : Gh} {w w' : World} {st : St} {a : Act} {o : Oper} {Q : Exit → Act → World → Prop}
theorem wp_conv {s d : TypeId} {x : Operand} {v : Value} (hop : o.op = .convert s d x) (hr : (convert s d (a.eval x)).run c.P w = .ok v w') :
    (execOp a.eval o).run c.P w = .ok (.value v) w' := by
  simp only [execOp, hop]; rw [Sem.run_bind, hr]; rfl
theorem new_bytes (w : World) (e : TypeId) (s : ByteArray) : New w (Lib.bytesWorld w e s) (.cells (Lib.bytesCells w e s) e ((Lib.bytesCells w e s).size, (Lib.bytesCells w e s).size + 1)) := by
  refine ⟨?_, ?_⟩
  case refine_2 =>
    unfold Lib.bytesWorld World.freeze
    split <;> exact ⟨rfl, rfl, rfl⟩
  apply Array.ext_getElem?
  intro i
  rw [Array.getElem?_push]
  by_cases h : i < w.heap.size
  · rw [Lib.bytesWorld_at_old w e s i h, if_neg (by omega)]
  · by_cases h' : i = w.heap.size
    · subst h'; rw [Lib.bytesWorld_at_new, if_pos rfl]
    · rw [if_neg h', Array.getElem?_eq_none (by rw [Lib.bytesWorld_size]; omega), Array.getElem?_eq_none (by omega)]
theorem aft_new_ro (hI : Inv G w st a.tmps) {h : Nat} (ho : dnOp h o st.sl = dnAll [] st.sl) (hd : Dst o a) {ob : Obj} (hw : New w w' ob) (n : Nat) {s : SV} {v : Value}
    (hs : ∀ G', G'.I w.heap.size = n → ∀ k, RelS G' w' k s v) (hsl : ∀ k g off, s ≠ .lp k g off) : Aft G w a (after h o st s none st.hp) (a.put o.dst v) w' := by
  have hf := Fr.new hI hw .oth n (mu := G.mu) (la := G.la) (fun _ _ _ h => h)
  have hI1 := hI.beside hw .oth n (by rintro (⟨_, _, h⟩ | ⟨_, _, h⟩) <;> cases h)
  refine ⟨_, ?_, hf, put_size _ _ _, put_defers _ _ _⟩
  unfold after
  rw [ho]
  exact (hI1.dn []).put o.dst hd (fun k _ => hs _ (by simp [Gh.add]) k) (fun k g off e => absurd e (hsl k g off))
theorem op_conv_bytes (hc : Ok c) (hI : Inv G w st a.tmps) (hd : Dst o a) (h : Nat) {s d e : TypeId} {si di ei : TI} (hsi : c.tn s = some si) (hdi : c.tn d = some di) {x : Operand} (hop : o.op = .convert s d x)
    (hk : di.k = .sl e) (hei : c.tn e = some ei) (hu : isU8 ei = true) {b : ByteArray} (hx : evS st.sl x = .sv (.string b)) :
    o.wp c.P a w (Aft G w a (after h o st (.av (.sl 1 (b.data.toList.map fun x => .sc (.int .u8 x.toNat)))) none st.hp)) Q := by
  obtain ⟨ud, hd1, hd2⟩ := (hc.tt d di (tn_some hdi).1).und
  rw [hk] at hd2
  cases hd2
  obtain ⟨us, hs1, _⟩ := (hc.tt s si (tn_some hsi).1).und
  have he := (hc.tt e ei (tn_some hei).1).1 hu
  have hrun := wp_conv (a := a) (o := o) hop (by rw [(ev_sv hI hx).1]; exact Lib.run_convert_string_bytes (P := c.P) w s d e b hs1 hd1 he)
  refine wp_value hrun (aft_new_ro hI (by simp [dnOp, downs, hop]) hd (new_bytes w e b) b.size (fun G' hG k => ?_) (fun _ _ _ e => by cases e))
  have hge := grownCap_ge w b.size 0 e
  by_cases hz : b.size = 0
  · have hnil : b.data.toList = [] := by
      apply List.length_eq_zero_iff.mp
      simpa using hz
    rw [hnil, hz]
    exact (RelR.sl0 1 _ _ (by omega)).s k
  · refine (RelR.sl 1 _ b.size _ _ 0 (b.data.toList.map fun x => .int .u8 x.toNat) (by omega) (by omega) (by rw [List.length_map, Array.length_toList]; exact (Nat.mul_one _).symm) hge (by omega) (by simp) (fun k u hk => ?_) (fun k y u hy hu => ?_)).s k
    · rw [Nat.zero_add]
      obtain ⟨z, hz, rfl⟩ := list_map_get _ _ _ _ hk
      have hlt : k < b.size := by have := (List.getElem?_eq_some_iff.mp hz).1; rw [Array.length_toList] at this; exact this
      rw [Lib.bytesWorld_cell w e b k hlt]
      simp [List.getD, hz]
    · obtain ⟨z, hz, rfl⟩ := list_map_get _ _ _ _ hy
      obtain ⟨z', hz', rfl⟩ := list_map_get _ _ _ _ hu
      rw [hz] at hz'; cases hz'
      exact .sc _ rfl
theorem bytesOfA_some : ∀ {cs : List AV} {l : List UInt8}, bytesOfA cs = some l → ∃ ns : List Int, cs = ns.map (fun n => .sc (.int .u8 n)) ∧ l = ns.map fun n => UInt8.ofNat n.toNat
  | [], l, h => by simp only [bytesOfA] at h; cases h; exact ⟨[], rfl, rfl⟩
  | x :: r, l, h => by
    unfold bytesOfA at h
    split at h
    · rename_i he; cases he
    · rename_i n r' he
      cases he
      cases hr : bytesOfA r with
      | none => rw [hr] at h; cases h
      | some l' =>
        rw [hr] at h; cases h
        obtain ⟨ns, rfl, rfl⟩ := bytesOfA_some hr
        exact ⟨n :: ns, rfl, rfl⟩
    · cases h
theorem foldl_push_ints : ∀ (l : List Int) (r : ByteArray), l.foldl (fun r n => r.push (UInt8.ofNat n.toNat)) r = ⟨r.data ++ (l.map fun n => UInt8.ofNat n.toNat).toArray⟩
  | [], r => by simp
  | b :: l, r => by
    simp only [List.foldl_cons]
    rw [foldl_push_ints l]
    simp [ByteArray.push]
theorem op_conv_str (hc : Ok c) (hI : Inv G w st a.tmps) (hd : Dst o a) (h : Nat) {s d e : TypeId} {si di ei : TI} (hsi : c.tn s = some si) (hdi : c.tn d = some di) {x : Operand} (hop : o.op = .convert s d x)
    (hk : si.k = .sl e) (hei : c.tn e = some ei) (hu : isU8 ei = true) (hu' : isStr di = true) {y : AV} (hx : toA (evS st.sl x) = some y) {cs : List AV} (hcs : srcA 1 y = some cs) {l : List UInt8} (hl : bytesOfA cs = some l) :
    o.wp c.P a w (Aft G w a (after h o st (.sv (.string ⟨l.toArray⟩)) none st.hp)) Q := by
  obtain ⟨us, hs1, hs2⟩ := (hc.tt s si (tn_some hsi).1).und
  rw [hk] at hs2
  cases hs2
  have he := (hc.tt e ei (tn_some hei).1).1 hu
  have hds := (hc.tt d di (tn_some hdi).1).2.1 hu'
  have hrel := toA_rel (evR hI x) hx
  refine wp_sv hI h (by simp [dnOp, hop]) hd rfl (wp_conv hop ?_)
  obtain ⟨ns, rfl, rfl⟩ := bytesOfA_some hl
  rcases srcA_sl hrel hcs with ⟨h1, h2⟩ | ⟨A, n, cap, h1, h2⟩
  · have : ns = [] := by simpa using h2
    subst this
    rw [h1, run_convert_bytes_string w s d e none 0 0 hs1 he hds]
    rfl
  · obtain ⟨A', n', cap', e1, _, hlen, _, hform⟩ := sl_form h2
    rw [h1] at e1; cases e1
    have hn : n = ns.length := by simpa using hlen.symm
    subst hn
    rw [h1, run_convert_bytes_string w s d e (some A) _ cap hs1 he hds]
    have hload := run_loadCells_list (P := c.P) w A (ns.map (Value.int .u8)) (fun j v hj => by
      have hpos : 0 < ns.length := by
        have := (List.getElem?_eq_some_iff.mp hj).1
        simp at this; omega
      obtain ⟨b, o', vs, rfl, _, hvl, hcell, hr⟩ := hform hpos
      rw [addr_add]
      obtain ⟨z, hz, rfl⟩ := list_map_get _ _ _ _ hj
      have hc1 : (ns.map (fun n => AV.sc (.int .u8 n)))[j]? = some (.sc (.int .u8 z)) := by simp [hz]
      obtain ⟨u, hu⟩ := get_of_len hvl.symm hc1
      have := hr j _ u hc1 hu
      cases this
      exact hcell j _ hu)
    simp only [List.length_map] at hload
    rw [run_bytesToString w A ns.length cap _ hload, foldl_push_ints]
    have he0 : ByteArray.empty.data = #[] := rfl
    rw [he0]
    simp
theorem op_conv_sc (hI : Inv G w st a.tmps) (hd : Dst o a) (h : Nat) {s d : TypeId} {x : Operand} (hop : o.op = .convert s d x) {v z : Value} (hx : asSV (evS st.sl x) = some v) (hz : cvV c.P s d v = some z) :
    o.wp c.P a w (Aft G w a (after h o st (.sv z) none st.hp)) Q := by
  obtain ⟨h1, h2⟩ := conv_noBytes hz w
  refine wp_sv hI h (by simp [dnOp, hop]) hd h2 (wp_conv hop ?_)
  rw [(ev_sv hI (asSV_eq hx)).1]; exact h1
theorem op_convert (hc : Ok c) (hI : Inv G w st a.tmps) (hd : Dst o a) (h : Nat) {s d : TypeId} {si di : TI} (hsi : c.tn s = some si) (hdi : c.tn d = some di) {x : Operand} (hop : o.op = .convert s d x) {r : SV × BE × Hp}
    (hr : (convK c s d si di (evS st.sl x) fun s => some (s, (none : BE), st.hp)) = some r) : o.wp c.P a w (Aft G w a (after h o st r.1 r.2.1 r.2.2)) Q := by
  unfold convK at hr
  split at hr
  · rename_i e hk
    split at hr
    · rename_i ei hei
      split at hr
      · rename_i hu
        obtain ⟨v, hv, hr⟩ := Option.bind_eq_some_iff.mp hr
        obtain ⟨b, hb, hr⟩ := Option.bind_eq_some_iff.mp hr
        cases hr
        rw [asStr_some hb] at hv
        exact op_conv_bytes hc hI hd h hsi hdi hop hk hei hu (asSV_eq hv)
      · cases hr
    · cases hr
  · split at hr
    · rename_i e hk
      split at hr
      · rename_i ei hei
        split at hr
        · rename_i hu
          obtain ⟨y, hy, hr⟩ := Option.bind_eq_some_iff.mp hr
          obtain ⟨cs, hcs, hr⟩ := Option.bind_eq_some_iff.mp hr
          obtain ⟨l, hl, hr⟩ := Option.bind_eq_some_iff.mp hr
          cases hr
          simp only [Bool.and_eq_true] at hu
          exact op_conv_str hc hI hd h hsi hdi hop hk hei hu.1 hu.2 hy hcs hl
        · cases hr
      · cases hr
    · obtain ⟨v, hv, hr⟩ := Option.bind_eq_some_iff.mp hr
      obtain ⟨z, hz, hr⟩ := Option.bind_eq_some_iff.mp hr
      cases hr
      exact op_conv_sc hI hd h hop hv hz

/-! ### function values -/
theorem flatA_ne {x : AV} (h : flatA x = true) : (∀ cs, x ≠ .agg cs) ∧ ro x = ro1 x := by
  cases x <;> first | exact ⟨by simp, rfl⟩ | simp [flatA] at h
theorem op_makeFunc (hI : Inv G w st a.tmps) (hd : Dst o a) (h : Nat) {f : FuncId} {fs cs : Array Operand} (hop : o.op = .makeFunc (.func f) fs cs) (hfs : fs.toList.isEmpty = true) {xs : List AV} (hxs : toAs (cs.toList.map (evS st.sl)) = some xs)
    (hall : xs.all flatA = true) : o.wp c.P a w (Aft G w a (after h o st (.av (.fn f (xs.map ro1))) none st.hp)) Q := by
  obtain ⟨h1, h2⟩ := toAs_rel hI hxs
  have hfs' : fs = #[] := by
    apply Array.eq_empty_of_size_eq_zero
    have := List.isEmpty_iff.mp hfs
    simpa using this
  subst hfs'
  refine wp_value (v := .func (.func f) #[] (cs.toList.map a.eval).toArray) (w' := w) ?_ (aft_value hI h (by simp [dnOp, hop]) hd (fun k => (RelR.fn f _ _ (by simp [h1]) (fun i x u hx hu => ?_)).s k) (fun _ _ _ e => by cases e))
  · simp only [execOp, hop, Instr.makeFunc]
    have : cs.map a.eval = (cs.toList.map a.eval).toArray := by apply Array.ext'; simp
    rw [this, show (#[] : Array Operand).map a.eval = #[] by simp]; rfl
  · obtain ⟨y, hy, rfl⟩ := list_map_get _ _ _ _ hx
    obtain ⟨z, hz, hr⟩ := h2 i y hy
    have hu' : a.eval z = u := by
      rw [List.getElem?_map, hz] at hu
      exact Option.some.inj hu
    rw [← hu']
    have hne := flatA_ne (List.all_eq_true.mp hall y (List.mem_of_getElem? hy))
    rw [relV_c hne.1] at hr
    exact hr.ro

/-! ### fields of values -/
theorem aggC_some {s : SV} {cs : List AV} (h : aggC s = some cs) : s = .av (.agg cs) := by
  unfold aggC at h
  split at h
  · cases h; rfl
  · cases h
theorem op_field (hc : Ok c) (hI : Inv G w st a.tmps) (hd : Dst o a) (h : Nat) {t : TypeId} {ti : TI} (hti : c.tn t = some ti) {x : Operand} {f : Nat} (hop : o.op = .field t x f) {fs : List (Nat × TypeId)} (hk : ti.k = .st fs)
    {fo : Nat} {ft : TypeId} (hfs : fs[f]? = some (fo, ft)) {fi : TI} (hfi : c.tn ft = some fi) {cs : List AV} (hcs : aggC (evS st.sl x) = some cs) {r : SV × List AV} (hr : (loadK fi 0 cs fo fun s l => some (s, l)) = some r) :
    o.wp c.P a w (Aft G w a (after h o st r.1 none st.hp)) Q := by
  obtain ⟨d, hd1, hd2⟩ := (hc.tt t ti (tn_some hti).1).und
  rw [hk] at hd2
  obtain ⟨fields, rfl, hfl⟩ := hd2
  obtain ⟨fl, hfl1, hfl2⟩ := list_map_get _ _ _ _ (show (fields.toList.map fun f => (f.offset, f.type))[f]? = some (fo, ft) by rw [hfl]; exact hfs)
  have hfl1' : fields[f]? = some fl := by simpa using hfl1
  cases hfl2
  have hxr := evR hI x
  rw [aggC_some hcs] at hxr
  obtain ⟨vs, hv, hlen, hrel⟩ := hxr
  have ht := hc.tt fl.type fi (tn_some hfi).1
  have hz := fun w => ht.sizeOf (tn_some hfi).2 w
  have ha := fun w => ht.isAgg (tn_some hfi).2 w
  have hrun : ∀ v, (part fl.type vs.toArray fl.offset).run c.P w = .ok v w → (execOp a.eval o).run c.P w = .ok (.value v) w := by
    intro v hp
    simp only [execOp, hop, hv, Instr.field]
    simp [run_underlying hd1, hfl1', asAgg, hp]
  have ho : dnOp h o st.sl = dnAll (downs h o) st.sl := by simp [dnOp, hop]
  have hro : ∀ (i : Nat) (y : AV) (u : Value), cs[i]? = some y → vs[i]? = some u → RelR G w (ro1 y) u := fun i y u hy hu => (hrel i y u hy hu).ro
  unfold loadK at hr
  split at hr
  · rename_i hsc
    obtain ⟨v, hv', hr⟩ := Option.bind_eq_some_iff.mp hr
    cases hr
    have hx := getSc_some hv'
    obtain ⟨u, hu⟩ := get_of_len hlen hx
    have hru := hro _ _ _ hx hu
    have hag : isAg fi.k = false := by cases hkk : fi.k <;> rw [hkk] at hsc <;> first | rfl | cases hsc
    have e : u = v := by cases hru; rfl
    subst e
    refine wp_value (hrun u ?_) (aft_value hI h ho hd (fun _ => ⟨rfl, hru.one⟩) (fun _ _ _ e => by cases e))
    simp [part, ha, hag, hu]
  · split at hr
    · rename_i hsc hag
      obtain ⟨l, hl, hr⟩ := Option.bind_eq_some_iff.mp hr
      simp only [show ¬ (0 = 1) by decide, if_false] at hr
      cases hr
      obtain ⟨hle, rfl⟩ := getN_some hl
      refine wp_value (hrun (.agg ((vs.drop fl.offset).take fi.size).toArray) ?_) (aft_value hI h ho hd (fun k => ⟨_, rfl, by simp [hlen], fun i y u hy hu => ?_⟩) (fun _ _ _ e => by cases e))
      · simp [part, ha, hag, hz]
        try (rw [List.drop_take])
      · obtain ⟨y', hy', rfl⟩ := list_map_get _ _ _ _ hy
        rw [List.getElem?_take] at hy' hu
        split at hy'
        · rename_i hq
          simp only [hq, if_true] at hu
          exact (hro (fl.offset + i) y' u (by rw [← hy']; simp) (by rw [← hu]; simp)).c _
        · cases hy'
    · rename_i hsc hag
      obtain ⟨y, hy, hr⟩ := Option.bind_eq_some_iff.mp hr
      simp only [show ¬ (0 = 1) by decide, if_false] at hr
      cases hr
      have hy : cs[fl.offset]? = some y := hy
      obtain ⟨u, hu⟩ := get_of_len hlen hy
      have hag' : isAg fi.k = false := by simpa using hag
      refine wp_value (hrun u ?_) (aft_value hI h ho hd (fun k => (hro _ _ _ hy hu).s k) (fun k g off e => by cases e))
      simp [part, ha, hag', hu]

/-! ### builtins that compute -/
theorem op_len (hc : Ok c) (hI : Inv G w st a.tmps) (hd : Dst o a) (h : Nat) {cl : Call} (hop : o.op = .call cl) (hcl : cl.callee = .builtin .len) {x : Operand} (hargs : cl.args = #[x]) {t e : TypeId} {ti : TI} (hts : cl.argTypes[0]? = some t)
    (hti : c.tn t = some ti) (hk : ti.k = .sl e) {y : AV} (hx : evS st.sl x = .av y) {n : Nat} (hn : lenA y = some n) : o.wp c.P a w (Aft G w a (after h o st (.sv (.int .i64 n)) none st.hp)) Q := by
  obtain ⟨d, hd1, hd2⟩ := (hc.tt t ti (tn_some hti).1).und
  rw [hk] at hd2
  cases hd2
  have hxr := evR hI x
  rw [hx] at hxr
  obtain ⟨A, cap, hv⟩ := lenA_rel hxr hn
  refine wp_sv hI h (by simp [dnOp, downs, hop, hcl]) hd rfl ?_
  rw [run_builtin hcl hop rfl]
  simp only [Go.builtin, hargs]
  have := run_len_slice (P := c.P) hd1 A n cap cl.argTypes hts o.type w
  have hm : (#[x] : Array Operand).map a.eval = #[a.eval x] := by simp
  rw [Sem.run_bind, hm, hv, this]; rfl
theorem op_bltV (hI : Inv G w st a.tmps) (hd : Dst o a) (h : Nat) {cl : Call} (hop : o.op = .call cl) {b : Builtin} (hcl : cl.callee = .builtin b) {vs : List Value} (hvs : toVs (cl.args.toList.map (evS st.sl)) = some vs) {z : Value}
    (hz : bltV c.P b cl.argTypes o.type vs = some z) : o.wp c.P a w (Aft G w a (after h o st (.sv z) none st.hp)) Q := by
  have he := toVs_eval hI hvs
  have hargs : cl.args.map a.eval = vs.toArray := by rw [← he]; apply Array.ext'; simp
  have hb : b ≠ .append := by rintro rfl; simp [bltV] at hz
  have hdn : dnOp h o st.sl = dnAll (downs h o) st.sl := by simp [dnOp, hop]
  have fin : ∀ s : Sem Value, one (pureOf c.P s) = some z → (∀ k, Go.builtin b cl.argTypes o.type k vs.toArray = (do pure (.value (← s)))) → o.wp c.P a w (Aft G w a (after h o st (.sv z) none st.hp)) Q := by
    intro s hs he'
    refine wp_sv hI h hdn hd (one_some hs).2 ?_
    rw [run_builtin hcl hop rfl, hargs, he', Sem.run_bind, pureOf_run (one_some hs).1 w]; rfl
  cases b <;> simp only [bltV] at hz <;> first | cases hz; done | exact fin _ hz (fun _ => rfl)
end
end Go.Proofs.Ytmnefpfbgadnkaa.AI
