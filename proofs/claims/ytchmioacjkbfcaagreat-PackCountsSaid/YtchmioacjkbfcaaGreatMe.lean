/- The abstract machine and what is true of it. -/
import Derived.Test.YtchmioacjkbfcaaGreatTab
import Derived.Below
import Derived.ProofKit
import Derived.RowKit
import Derived.OpenShut
import Derived.ChangeOld
import Derived.SizedLaws
import Derived.Carry
/- From a run to a statement: the ghost at the start, arguments read, what is left. -/
namespace Go.Proofs.YtchmioacjkbfcaaGreat.AI
open Go Go.RowKit
set_option linter.unusedVariables false
set_option linter.unusedSimpArgs false

/-- All that stands is another's, and stays. -/
def gh0 (W : World) : Gh where
  Om b := if b < W.heap.size then .oth else .fr
  I b := match W.heap[b]? with
    | some (.cells arr _ _) => arr.size
    | _ => 0
  mu _ _ := none
  la _ _ := none
theorem hpI0 (W : World) : HpI (gh0 W) W hp0 where
  heap b g cs h := by cases h
  next b g _ := rfl
  hlt b g cs h := by cases h
  new b hb := ⟨by simp [gh0]; omega, by simp [gh0, Array.getElem?_eq_none hb]⟩
  vars b hb := by
    exfalso
    rcases hb with ⟨k, g, h⟩ | ⟨k, g, h⟩ <;> simp only [gh0] at h <;> split at h <;> cases h
theorem fr_below {W W' : World} {G' : Gh} (h : Fr (gh0 W) W G' W') : Below W.heap.size W W' :=
  ⟨h.rest.1, h.rest.2.1, h.rest.2.2, h.size, fun k hk => (h.same k hk (.inr (by simp [gh0, hk]))).1⟩
/-- A scalar argument. -/
theorem arg_sc (W : World) (v : Value) (h : v.oneCell' = true) : ArgR (gh0 W) W (.sc v) v := fun _ => RelR.sc v h
theorem cell_lt {W : World} {b i : Nat} {c : Value} (h : W.cell? ⟨b, i, none⟩ = some c) : i < (gh0 W).I b := by
  simp only [World.cell?] at h
  simp only [gh0]
  split at h
  · rename_i arr t fz e
    rw [e]
    exact (Array.getElem?_eq_some_iff.mp (by simpa using h)).1
  · cases h
/-- A slice argument: its cells stand in memory. -/
theorem arg_sl {W : World} {a : Addr} {n cap sz : Nat} {cs : List AV} {vs : List Value} (hsz : 0 < sz) (hcs : cs.length = n * sz) (hlen : vs.length = cs.length) (hcap : n ≤ cap)
    (hcell : ∀ (i : Nat) (v : Value), vs[i]? = some v → W.cell? (a.add i) = some v) (hvl : ∀ x ∈ cs, vl x = true) (hrel : ∀ (i : Nat) (x : AV) (v : Value), cs[i]? = some x → vs[i]? = some v → RelR (gh0 W) W x v) :
    ArgR (gh0 W) W (.sl sz cs) (.slice (some a) n cap) := by
  intro p
  have key : RelR (gh0 W) W (.sl sz cs) (.slice (some a) n cap) := by
    by_cases hn : n = 0
    · subst hn
      have : cs = [] := List.length_eq_zero_iff.mp (by simpa using hcs)
      subst this
      exact .sl0 sz a cap hsz
    · obtain ⟨b, o, sp⟩ := a
      have hpos : 0 < vs.length := by rw [hlen, hcs]; exact Nat.mul_pos (Nat.pos_of_ne_zero hn) hsz
      have hsp : sp = none := by
        have h0 := hcell 0 vs[0] (List.getElem?_eq_getElem hpos)
        have e : (⟨b, o, sp⟩ : Addr).add 0 = ⟨b, o, sp⟩ := rfl
        rw [e] at h0
        simp only [World.cell?] at h0
        split at h0
        · cases sp with
          | none => rfl
          | some q => simp at h0
        · cases h0
      subst hsp
      have hc' : ∀ k c, vs[k]? = some c → W.cell? ⟨b, o + k, none⟩ = some c := fun k c hk => by rw [← addr_add]; exact hcell k c hk
      refine .sl sz cs n cap b o vs hsz (Nat.pos_of_ne_zero hn) hcs hcap ?_ hlen hc' hvl hrel
      have hl : vs.length - 1 < vs.length := by omega
      have := cell_lt (hc' (vs.length - 1) _ (List.getElem?_eq_getElem hl))
      omega
  exact (key.c (p 0)).v
/-- What a law's function answers: a truth value. -/
theorem law_bool {c : Cx} (hc : Ok c ∧ DstOk c) {f : FuncId} {xs : List AV} {vs : List Value} {v : Value} {hp' : Hp} {W : World} (h : run c f xs hp0 = some (.sc v, hp')) (hl : xs.length = vs.length)
    (ha : ∀ (i : Nat) (x : AV) (u : Value), xs[i]? = some x → vs[i]? = some u → ArgR (gh0 W) W x u) : Calls c.P f vs.toArray W fun e W' => e = .returned v ∧ Below W.heap.size W W' := by
  refine (run_sound hc.1 hc.2 h (hpI0 W) hl ha).mono fun e W' hg => ?_
  obtain ⟨u, G', rfl, hf, _, hr⟩ := hg
  have hr' : RelR G' W' (.sc v) u := hr
  cases hr' with
  | sc _ _ => exact ⟨rfl, fr_below hf⟩
end Go.Proofs.YtchmioacjkbfcaaGreat.AI

/- What the machine's small parts answer on numbers and on lists: for reckoning by 'simp'. -/
namespace Go.Proofs.YtchmioacjkbfcaaGreat.AI
open Go
set_option linter.unusedVariables false
set_option linter.unusedSimpArgs false

section
variable (P : Program) (t : TypeId) (x y : Operand) (k k' : IntKind) (a b : Int)
theorem eqGuard_int (op : BinOp) : eqGuard op t x y (.int k a) (.int k' b) = pure () := by
  cases op <;> rfl
theorem binV_int (op : BinOp) (h : op ≠ .shl) (h' : op ≠ .shr) : binV P op t x y (.int k a) (.int k b) = one (pureOf P (match op with
    | .add | .sub | .mul => Op.intArith op k a b
    | .quo | .rem => Op.intDiv op k a b
    | .and | .or | .xor | .andNot => Op.intBits op k a b
    | _ => Op.intCmp op a b)) := by
  unfold binV
  rw [eqGuard_int]
  cases op <;> simp [Go.binOp] <;> first | rfl | exact absurd rfl h | exact absurd rfl h'
@[simp] theorem binV_add : binV P .add t x y (.int k a) (.int k b) = some (.int k (k.wrap (a + b))) := by rw [binV_int P t x y k a b .add (by decide) (by decide)]; rfl
@[simp] theorem binV_sub : binV P .sub t x y (.int k a) (.int k b) = some (.int k (k.wrap (a - b))) := by rw [binV_int P t x y k a b .sub (by decide) (by decide)]; rfl
@[simp] theorem binV_mul : binV P .mul t x y (.int k a) (.int k b) = some (.int k (k.wrap (a * b))) := by rw [binV_int P t x y k a b .mul (by decide) (by decide)]; rfl
@[simp] theorem binV_eql : binV P .eql t x y (.int k a) (.int k b) = some (.bool (decide (a = b))) := by rw [binV_int P t x y k a b .eql (by decide) (by decide)]; show some (Value.bool (a == b)) = _; congr 2
@[simp] theorem binV_neq : binV P .neq t x y (.int k a) (.int k b) = some (.bool (!decide (a = b))) := by rw [binV_int P t x y k a b .neq (by decide) (by decide)]; show some (Value.bool (a != b)) = _; rfl
@[simp] theorem binV_lss : binV P .lss t x y (.int k a) (.int k b) = some (.bool (decide (a < b))) := by rw [binV_int P t x y k a b .lss (by decide) (by decide)]; rfl
@[simp] theorem binV_leq : binV P .leq t x y (.int k a) (.int k b) = some (.bool (decide (a ≤ b))) := by rw [binV_int P t x y k a b .leq (by decide) (by decide)]; rfl
@[simp] theorem binV_gtr : binV P .gtr t x y (.int k a) (.int k b) = some (.bool (decide (a > b))) := by rw [binV_int P t x y k a b .gtr (by decide) (by decide)]; rfl
@[simp] theorem binV_geq : binV P .geq t x y (.int k a) (.int k b) = some (.bool (decide (a ≥ b))) := by rw [binV_int P t x y k a b .geq (by decide) (by decide)]; rfl
theorem binV_quo (h : b ≠ 0) : binV P .quo t x y (.int k a) (.int k b) = some (.int k (k.wrap (a.tdiv b))) := by
  rw [binV_int P t x y k a b .quo (by decide) (by decide)]; simp only [Op.intDiv, h, if_false]; rfl
theorem binV_rem (h : b ≠ 0) : binV P .rem t x y (.int k a) (.int k b) = some (.int k (a.tmod b)) := by
  rw [binV_int P t x y k a b .rem (by decide) (by decide)]; simp only [Op.intDiv, h, if_false]; rfl
@[simp] theorem binV_and : binV P .and t x y (.int k a) (.int k b) = some (.int k (k.wrap (BitVec.ofInt k.bits a &&& BitVec.ofInt k.bits b).toNat)) := by rw [binV_int P t x y k a b .and (by decide) (by decide)]; rfl
@[simp] theorem binV_or : binV P .or t x y (.int k a) (.int k b) = some (.int k (k.wrap (BitVec.ofInt k.bits a ||| BitVec.ofInt k.bits b).toNat)) := by rw [binV_int P t x y k a b .or (by decide) (by decide)]; rfl
@[simp] theorem binV_xor : binV P .xor t x y (.int k a) (.int k b) = some (.int k (k.wrap (BitVec.ofInt k.bits a ^^^ BitVec.ofInt k.bits b).toNat)) := by rw [binV_int P t x y k a b .xor (by decide) (by decide)]; rfl
@[simp] theorem unV_not (c : Bool) : unV P .not (.bool c) = some (.bool !c) := rfl
@[simp] theorem asB_bool (c : Bool) : asB (.bool c) = some c := rfl
@[simp] theorem asI_int : asI (.int k a) = some a := rfl
@[simp] theorem asSc_sc (v : Value) : asSc (.sc v) = some v := rfl
end

theorem pureOf_bind {α β : Type} (P : Program) (s : Sem α) (f : α → Sem β) : pureOf P (s >>= f) = (pureOf P s).bind fun a => pureOf P (f a) := by
  show pureOf P (Sem.bind s f) = _
  induction s with
  | pure a => rfl
  | program k ih => simp only [Sem.bind, pureOf]; exact ih P
  | mark x k ih => simp only [Sem.bind, pureOf]; exact ih
  | _ => rfl
@[simp] theorem pureOf_pure {α : Type} (P : Program) (a : α) : pureOf P (pure a : Sem α) = some a := rfl
theorem eqGuard_str (P : Program) (t : TypeId) (x y : Operand) (op : BinOp) (a b : ByteArray) : eqGuard op t x y (.string a) (.string b) = pure () := by
  cases op <;> rfl
theorem ba_eq (a b : ByteArray) : (a.toList == b.toList) = decide (a.data.toList = b.data.toList) := by
  rw [ByteArray.toList_eq, ByteArray.toList_eq]
  by_cases h : a.data.toList = b.data.toList
  · rw [h]; simp
  · rw [decide_eq_false h]; exact beq_eq_false_iff_ne.mpr h
@[simp] theorem binV_seql (P : Program) (t : TypeId) (x y : Operand) (a b : ByteArray) : binV P .eql t x y (.string a) (.string b) = some (.bool (decide (a.data.toList = b.data.toList))) := by
  unfold binV
  rw [eqGuard_str P]
  show some (Value.bool (a.toList == b.toList)) = _
  rw [ba_eq]
@[simp] theorem binV_sneq (P : Program) (t : TypeId) (x y : Operand) (a b : ByteArray) : binV P .neq t x y (.string a) (.string b) = some (.bool (!decide (a.data.toList = b.data.toList))) := by
  unfold binV
  rw [eqGuard_str P]
  show some (Value.bool (!(a.toList == b.toList))) = _
  rw [ba_eq]
/-! ### lists -/
/-- A slice that is read: nil, owned or not. -/
def Rd (sz : Nat) (x : AV) (cs : List AV) : Prop := x = .sl sz cs ∨ x = .us sz cs ∨ (x = .sc nil0 ∧ cs = [])
section
variable {sz : Nat} {x : AV} {cs : List AV}
theorem Rd.ro (h : Rd sz x cs) : Rd sz (AI.ro x) cs := by
  rcases h with rfl | rfl | ⟨rfl, rfl⟩
  · exact .inl rfl
  · exact .inl rfl
  · exact .inr (.inr ⟨rfl, rfl⟩)
theorem Rd.ro1 (h : Rd sz x cs) : Rd sz (AI.ro1 x) cs := by
  rcases h with rfl | rfl | ⟨rfl, rfl⟩
  · exact .inl rfl
  · exact .inl rfl
  · exact .inr (.inr ⟨rfl, rfl⟩)
theorem Rd.len (h : Rd 1 x cs) : lenA x = some cs.length := by
  rcases h with rfl | rfl | ⟨rfl, rfl⟩ <;> rfl
theorem Rd.idx (h : Rd 1 x cs) {k : IntKind} {z : Int} {i : Nat} {y : AV} (hz : z = (i : Int)) (hy : cs[i]? = some y) : idxA 1 x (.int k z) = some [y] := by
  subst hz
  have hlt := (List.getElem?_eq_some_iff.mp hy).1
  have key : ((AI.idx (if 1 = 1 then cs.length else cs.length / 1) (.int k (i : Int))).bind fun i => getN cs (i * 1) 1) = some [y] := by
    have hc : (0 : Int) ≤ (i : Int) ∧ (i : Int) < (cs.length : Int) := ⟨Int.natCast_nonneg i, by omega⟩
    simp only [if_true, AI.idx, asI, Option.bind_some, hc, and_self, Int.toNat_natCast, Nat.mul_one]
    unfold getN
    rw [if_pos (by omega)]
    congr 1
    obtain ⟨h1, h2⟩ := List.getElem?_eq_some_iff.mp hy
    rw [List.drop_eq_getElem_cons h1, h2]
    rfl
  rcases h with rfl | rfl | ⟨rfl, rfl⟩
  · simp only [idxA, if_true]; simpa using key
  · simp only [idxA, if_true]; simpa using key
  · simp at hy
theorem Rd.slc (h : Rd 1 x cs) {k : IntKind} {z : Int} {i : Nat} (hz : z = (i : Int)) (hi : i ≤ cs.length) : ∃ y, slcA 1 x (some (.int k z)) none none = some y ∧ Rd 1 y (cs.drop i) := by
  subst hz
  have hb : ∀ n : Nat, i ≤ n → bound 0 (n : Int) (some (.int k (i : Int))) 0 = some i := by
    intro n hn
    have : (0 : Int) ≤ (i : Int) ∧ (i : Int) ≤ (n : Int) := ⟨Int.natCast_nonneg i, by omega⟩
    simp only [bound, asI, Option.bind_some, this, and_self, if_true, Int.toNat_natCast]
  have key : (cs.drop (i * 1)).take ((cs.length - i) * 1) = cs.drop i := by
    rw [Nat.mul_one, Nat.mul_one]
    exact List.take_of_length_le (by simp)
  rcases h with rfl | rfl | ⟨rfl, rfl⟩
  · refine ⟨.sl 1 (cs.drop i), ?_, .inl rfl⟩
    simp only [slcA, if_true]
    show (bound 0 _ none _).bind _ = _
    simp only [bound, Option.bind_some]
    have := hb cs.length hi
    simp only [bound] at this
    rw [this]
    simp only [Option.bind_some, key]
  · refine ⟨.sl 1 (cs.drop i), ?_, .inl rfl⟩
    simp only [slcA, if_true]
    show (bound 0 _ none _).bind _ = _
    simp only [bound, Option.bind_some]
    have := hb cs.length hi
    simp only [bound] at this
    rw [this]
    simp only [Option.bind_some, key]
  · have hi0 : i = 0 := by simpa using hi
    subst hi0
    refine ⟨.sc nil0, ?_, .inr (.inr ⟨rfl, rfl⟩)⟩
    rfl
end
/-- A slice that may be appended to. -/
def Wd (sz : Nat) (x : AV) (cs : List AV) : Prop := x = .us sz cs ∨ (x = .sc nil0 ∧ cs = [])
theorem Wd.rd {sz : Nat} {x : AV} {cs : List AV} (h : Wd sz x cs) : Rd sz x cs := by
  rcases h with rfl | ⟨rfl, rfl⟩
  · exact .inr (.inl rfl)
  · exact .inr (.inr ⟨rfl, rfl⟩)
/-- Cells without a hold. -/
def Flat (ys : List AV) : Prop := ys.map ro1 = ys
theorem Wd.app {bytes sz : Nat} {d s : AV} {cs ys : List AV} (hd : Wd sz d cs) (hs : Rd sz s ys) (hf : Flat ys) (hfit : ys ≠ [] → fits bytes sz (cs.length + ys.length) = true) :
    ∃ z, appA bytes sz d s = some z ∧ Wd sz z (cs ++ ys) := by
  have hsrc : srcA sz s = some ys := by
    rcases hs with rfl | rfl | ⟨rfl, rfl⟩
    · simp [srcA]
    · simp [srcA]
    · rfl
  unfold appA appY
  rw [hsrc]
  simp only [Option.bind_some]
  cases ys with
  | nil =>
    rw [List.append_nil]
    rcases hd with rfl | ⟨rfl, rfl⟩
    · exact ⟨.us sz cs, by simp, .inl rfl⟩
    · exact ⟨.sc nil0, rfl, .inr ⟨rfl, rfl⟩⟩
  | cons y ys =>
    have hfit := hfit (by simp)
    rcases hd with rfl | ⟨rfl, rfl⟩
    · refine ⟨.us sz (cs ++ (y :: ys)), ?_, .inl rfl⟩
      have hf' : (y :: ys).map ro1 = y :: ys := hf
      have hfit2 : fits bytes sz (cs.length + (ys.length + 1)) = true := by simpa using hfit
      have hm : ro1 y :: List.map ro1 ys = y :: ys := hf'
      simp [hfit2, hm]
    · refine ⟨.us sz (y :: ys), ?_, .inl rfl⟩
      have hf' : (y :: ys).map ro1 = y :: ys := hf
      have hfit' : fits bytes sz (y :: ys).length = true := by simpa using hfit
      have hn : isNil nil0 = true := rfl
      simp only [hn, Bool.true_and, hfit', if_true, hf', List.nil_append]
theorem wrap64 {z : Int} (h1 : -9223372036854775808 ≤ z) (h2 : z < 9223372036854775808) : IntKind.i64.wrap z = z := by
  rw [IntKind.wrap_i64]; omega
@[simp] theorem wrap64_0 : IntKind.i64.wrap 0 = 0 := rfl
@[simp] theorem wrap64_1 : IntKind.i64.wrap 1 = 1 := rfl
@[simp] theorem wrap64_2 : IntKind.i64.wrap 2 = 2 := rfl
@[simp] theorem wrap64_3 : IntKind.i64.wrap 3 = 3 := rfl
@[simp] theorem wrap64_4 : IntKind.i64.wrap 4 = 4 := rfl
@[simp] theorem wrap64_5 : IntKind.i64.wrap 5 = 5 := rfl
@[simp] theorem wrap64_6 : IntKind.i64.wrap 6 = 6 := rfl
@[simp] theorem wrap64_7 : IntKind.i64.wrap 7 = 7 := rfl
@[simp] theorem wrap64_8 : IntKind.i64.wrap 8 = 8 := rfl
@[simp] theorem wrap64_9 : IntKind.i64.wrap 9 = 9 := rfl
@[simp] theorem wrap64_10 : IntKind.i64.wrap 10 = 10 := rfl
@[simp] theorem wrap64_11 : IntKind.i64.wrap 11 = 11 := rfl
@[simp] theorem wrap64_12 : IntKind.i64.wrap 12 = 12 := rfl
@[simp] theorem wrap64_13 : IntKind.i64.wrap 13 = 13 := rfl
@[simp] theorem wrap64_14 : IntKind.i64.wrap 14 = 14 := rfl
@[simp] theorem wrap64_15 : IntKind.i64.wrap 15 = 15 := rfl
@[simp] theorem wrap64_16 : IntKind.i64.wrap 16 = 16 := rfl
end Go.Proofs.YtchmioacjkbfcaaGreat.AI

/- Slices as functions of a tag and of their cells: so that 'simp' reckons with them. -/
namespace Go.Proofs.YtchmioacjkbfcaaGreat.AI
open Go
set_option linter.unusedVariables false
set_option linter.unusedSimpArgs false

/-- A slice: 0 read alone, 1 owned, 2 nil or owned, 3 nil or read alone. -/
def S (k sz : Nat) (cs : List AV) : AV :=
  match k with
  | 0 => .sl sz cs
  | 1 => .us sz cs
  | 2 => match cs with
    | [] => .sc nil0
    | _ => .us sz cs
  | _ => match cs with
    | [] => .sc nil0
    | _ => .sl sz cs
/-- The tag of what is read. -/
def rk : Nat → Nat
  | 0 => 0
  | 1 => 0
  | _ => 3
/-- The tag behind a cut. -/
def tg (k : Nat) (cs : List AV) : Nat :=
  match cs with
  | [] => rk k
  | _ => 0
@[simp] theorem rk_rk (k : Nat) : rk (rk k) = rk k := by
  match k with
  | 0 => rfl
  | 1 => rfl
  | n + 2 => rfl
@[simp] theorem rk0 : rk 0 = 0 := rfl
@[simp] theorem rk1 : rk 1 = 0 := rfl
@[simp] theorem rk2 : rk 2 = 3 := rfl
@[simp] theorem rk3 : rk 3 = 3 := rfl
section
variable (k sz : Nat) (cs : List AV)
theorem S_cases : S k sz cs = .sl sz cs ∨ S k sz cs = .us sz cs ∨ (S k sz cs = .sc nil0 ∧ cs = []) := by
  unfold S
  match k, cs with
  | 0, _ => exact .inl rfl
  | 1, _ => exact .inr (.inl rfl)
  | 2, [] => exact .inr (.inr ⟨rfl, rfl⟩)
  | 2, _ :: _ => exact .inr (.inl rfl)
  | n + 3, [] => exact .inr (.inr ⟨rfl, rfl⟩)
  | n + 3, _ :: _ => exact .inl rfl
@[simp] theorem ro1_S : ro1 (S k sz cs) = S (rk k) sz cs := by
  match k, cs with
  | 0, _ => rfl
  | 1, _ => rfl
  | 2, [] => rfl
  | 2, _ :: _ => rfl
  | n + 3, [] => rfl
  | n + 3, _ :: _ => rfl
@[simp] theorem ro_S : ro (S k sz cs) = S (rk k) sz cs := by
  match k, cs with
  | 0, _ => rfl
  | 1, _ => rfl
  | 2, [] => rfl
  | 2, _ :: _ => rfl
  | n + 3, [] => rfl
  | n + 3, _ :: _ => rfl
theorem rd_S : Rd sz (S k sz cs) cs := S_cases k sz cs
@[simp] theorem lenA_S : lenA (S k 1 cs) = some cs.length := (rd_S k 1 cs).len
@[simp] theorem idxA_S (K : IntKind) (z : Int) : idxA 1 (S k 1 cs) (.int K z) = if 0 ≤ z then (cs[z.toNat]?).map fun c => [c] else none := by
  by_cases hz : 0 ≤ z
  · rw [if_pos hz]
    cases h : cs[z.toNat]? with
    | some y => exact (rd_S k 1 cs).idx (by omega) h
    | none =>
      have hl : cs.length ≤ z.toNat := by simpa using h
      have hn : ¬(z < (cs.length : Int)) := by omega
      rcases S_cases k 1 cs with e | e | ⟨e, e'⟩
      · rw [e]; simp [idxA, idx, asI, hn]
      · rw [e]; simp [idxA, idx, asI, hn]
      · rw [e]; rfl
  · rw [if_neg hz]
    rcases S_cases k 1 cs with e | e | ⟨e, e'⟩
    · rw [e]; simp [idxA, idx, asI, hz]
    · rw [e]; simp [idxA, idx, asI, hz]
    · rw [e]; rfl
@[simp] theorem cellsN_S : cellsN 1 (S k sz cs) = some [S k sz cs] := by
  rcases S_cases k sz cs with e | e | ⟨e, e'⟩ <;> rw [e] <;> rfl
@[simp] theorem noTup_S : noTup (S k sz cs) = some () := by
  rcases S_cases k sz cs with e | e | ⟨e, e'⟩ <;> rw [e] <;> rfl
@[simp] theorem srcA_S : srcA sz (S k sz cs) = some cs := by
  rcases S_cases k sz cs with e | e | ⟨e, e'⟩
  · rw [e]; simp [srcA]
  · rw [e]; simp [srcA]
  · rw [e, e']; rfl
@[simp] theorem us_S : AV.us sz cs = S 1 sz cs := rfl
@[simp] theorem sl_S : AV.sl sz cs = S 0 sz cs := rfl
end
theorem nil_S (sz : Nat) : AV.sc nil0 = S 2 sz [] := rfl
@[simp] theorem nil_S1 : AV.sc (Value.slice none 0 0) = S 2 1 [] := rfl
@[simp] theorem S3_nil (sz : Nat) : S 3 sz [] = S 2 sz [] := rfl
theorem slcA_S (k : Nat) (cs : List AV) (K : IntKind) (z : Int) (h : 0 ≤ z) (h' : z ≤ cs.length) : slcA 1 (S k 1 cs) (some (.int K z)) none none = some (S (tg k cs) 1 (cs.drop z.toNat)) := by
  obtain ⟨i, rfl⟩ : ∃ i : Nat, z = i := ⟨z.toNat, by omega⟩
  have hi : i ≤ cs.length := by omega
  have hb : ∀ n : Nat, i ≤ n → bound 0 (n : Int) (some (.int K (i : Int))) 0 = some i := by
    intro n hn
    have : (0 : Int) ≤ (i : Int) ∧ (i : Int) ≤ (n : Int) := ⟨Int.natCast_nonneg i, by omega⟩
    simp only [bound, asI, Option.bind_some, this, and_self, if_true, Int.toNat_natCast]
  have key : (cs.drop (i * 1)).take ((cs.length - i) * 1) = cs.drop i := by
    rw [Nat.mul_one, Nat.mul_one]
    exact List.take_of_length_le (by simp)
  have this := hb cs.length hi
  simp only [bound] at this
  have a : slcA 1 (.sl 1 cs) (some (.int K i)) none none = some (.sl 1 (cs.drop i)) := by
    simp only [slcA, if_true]
    show (bound 0 _ none _).bind _ = _
    simp only [bound, Option.bind_some]
    rw [this]
    simp only [Option.bind_some, key]
  have b : slcA 1 (.us 1 cs) (some (.int K i)) none none = some (.sl 1 (cs.drop i)) := by
    simp only [slcA, if_true]
    show (bound 0 _ none _).bind _ = _
    simp only [bound, Option.bind_some]
    rw [this]
    simp only [Option.bind_some, key]
  rw [Int.toNat_natCast]
  match k, cs with
  | 0, [] => exact a
  | 0, _ :: _ => exact a
  | 1, [] => exact b
  | 1, _ :: _ => exact b
  | 2, [] => obtain rfl : i = 0 := by simpa using hi
             rfl
  | 2, _ :: _ => exact b
  | n + 3, [] => obtain rfl : i = 0 := by simpa using hi
                 rfl
  | n + 3, _ :: _ => exact a
/-- What an append makes. -/
theorem appA_S (b sz k : Nat) (cs ys : List AV) (k' : Nat) (hk : k = 1 ∨ k = 2) (hf : Flat ys) (hfit : ys = [] ∨ fits b sz (cs.length + ys.length) = true) :
    appA b sz (S k sz cs) (S k' sz ys) = some (S k sz (cs ++ ys)) := by
  unfold appA appY
  rw [srcA_S]
  simp only [Option.bind_some]
  have hf' : ys.map ro1 = ys := hf
  match ys, hf', hfit with
  | [], _, _ =>
    rw [List.append_nil]
    rcases hk with rfl | rfl
    · show (if sz = sz then some (AV.us sz cs) else none) = _
      rw [if_pos rfl]; rfl
    · cases cs with
      | nil => rfl
      | cons c cs => exact if_pos rfl
  | y :: ys, hf', hfit =>
    have hfit : fits b sz (cs.length + (y :: ys).length) = true := hfit.resolve_left (by simp)
    rcases hk with rfl | rfl
    · simp only [S, hf', hfit, Bool.and_true, decide_true, if_true]
    · cases cs with
      | nil =>
        have h0 : fits b sz (y :: ys).length = true := by simpa using hfit
        simp only [S, hf', h0, isNil, nil0, Bool.and_true, if_true, List.nil_append]
      | cons c cs => simp only [S, hf', hfit, Bool.and_true, decide_true, if_true, List.cons_append]
theorem fits_ok {b sz n : Nat} (hb : 0 < b) (h : n * b ≤ 140737488355328 * sz) : fits b sz n = true := by
  simp [fits, h, hb]
@[simp] theorem flat_one (v : Value) : Flat [.sc v] := rfl
theorem flat_map {α : Type} (f : α → Value) (l : List α) : Flat (l.map fun x => .sc (f x)) := by
  unfold Flat; rw [List.map_map]; rfl
@[simp] theorem ro1_sc (v : Value) : ro1 (.sc v) = .sc v := rfl
@[simp] theorem ro_sc (v : Value) : ro (.sc v) = .sc v := rfl
@[simp] theorem ro_agg (l : List AV) : ro (.agg l) = .agg (l.map ro1) := rfl
@[simp] theorem noTup_sc (v : Value) : noTup (.sc v) = some () := rfl
@[simp] theorem noTup_agg (l : List AV) : noTup (.agg l) = some () := rfl
@[simp] theorem vl_S (k sz : Nat) (cs : List AV) : vl (S k sz cs) = true := by
  rcases S_cases k sz cs with e | e | ⟨e, e'⟩ <;> rw [e] <;> rfl
@[simp] theorem vlF_S (k sz : Nat) (cs : List AV) : vlF (S k sz cs) = true := by
  rcases S_cases k sz cs with e | e | ⟨e, e'⟩ <;> rw [e] <;> rfl
@[simp] theorem vlV_S (k sz : Nat) (cs : List AV) : vlV (S k sz cs) = true := by
  rcases S_cases k sz cs with e | e | ⟨e, e'⟩ <;> rw [e] <;> rfl
@[simp] theorem vl_sc (v : Value) : vl (.sc v) = true := rfl
@[simp] theorem vlF_sc (v : Value) : vlF (.sc v) = true := rfl
@[simp] theorem vlV_sc (v : Value) : vlV (.sc v) = true := rfl
@[simp] theorem vlF_agg (l : List AV) : vlF (.agg l) = l.all vl := rfl
@[simp] theorem vlV_agg (l : List AV) : vlV (.agg l) = l.all vl := rfl
@[simp] theorem vlV_tup (l : List AV) : vlV (.tup l) = l.all vlF := rfl
@[simp] theorem vl_fn (f : FuncId) : vl (.fn f []) = true := rfl
@[simp] theorem vlF_fn (f : FuncId) : vlF (.fn f []) = true := rfl
@[simp] theorem okArgs_eq (xs caps : List AV) : okArgs xs caps = chk (xs.all vlF = true ∧ caps.all vl = true) := rfl
@[simp] theorem chkN_eq (a b : Nat) : chkN a b = chk (a = b) := rfl
@[simp] theorem chkB_eq (b : Bool) : chkB b = chk (b = true) := rfl
@[simp] theorem okV_eq (cs : List AV) : okV cs = chk (cs.all vl = true) := rfl
@[simp] theorem tN_eq (n : Int) : tN n = n.toNat := rfl
theorem okMake_ok {b z : Nat} {n : Int} (h0 : 0 ≤ n) (hf : n.toNat * b ≤ 140737488355328) (hb : 0 < b) (hz : 0 < z) : okMake b z n n = some () :=
  if_pos ⟨rfl, h0, by simp [fits]; omega, hz⟩
@[simp] theorem okRes_eq (y : AV) : okRes y = chk (vlV y = true) := rfl
theorem chk_ok {p : Prop} [Decidable p] (h : p) : chk p = some () := if_pos h
@[simp] theorem chk_true : chk True = some () := rfl
@[simp] theorem chk_eq {α : Type} [DecidableEq α] (a : α) : chk (a = a) = some () := if_pos rfl
@[simp] theorem aggX_agg (l : List AV) : aggX (.agg l) = some l := rfl
@[simp] theorem chkTup_tup (n : Nat) (l : List AV) : chkTup n (.tup l) = if l.length = n then some () else none := rfl
@[simp] theorem nthA_tup (l : List AV) (i : Nat) : nthA (.tup l) i = l.getD i (.tup []) := rfl
theorem okArgs_sc (v : Value) : okArgs [.sc v] [] = some () := by rw [okArgs_eq]; exact if_pos ⟨by simp, by simp⟩
theorem okRes_sc (v : Value) : okRes (.sc v) = some () := by rw [okRes_eq]; exact if_pos (by simp)
@[simp] theorem chk_and2 : chk (True ∧ True) = some () := rfl
@[simp] theorem cellsN_agg (n : Nat) (l : List AV) : cellsN n (.agg l) = if l.length = n then some l else none := rfl
@[simp] theorem asSc_nil : asSc (.sc nil0) = some nil0 := rfl
theorem drop_cons {α : Type} {l : List α} {i : Nat} {x : α} {r : List α} (h : l.drop i = x :: r) : l[i]? = some x ∧ l.drop (i + 1) = r ∧ ∃ h : i < l.length, l[i] = x := by
  have hi : i < l.length := by
    by_cases hi : i < l.length
    · exact hi
    · rw [List.drop_eq_nil_of_le (by omega)] at h; cases h
  rw [List.drop_eq_getElem_cons hi] at h
  injection h with h1 h2
  exact ⟨by rw [List.getElem?_eq_getElem hi, h1], h2, hi, h1⟩
theorem drop_nil {α : Type} {l : List α} {i : Nat} (h : l.drop i = []) : l.length ≤ i := by simpa using h
/-! ### rows of whole numbers -/
def LI (K : IntKind) (l : List Int) : List AV := l.map fun n => .sc (.int K n)
section
variable (K : IntKind) (l : List Int)
theorem flatI : Flat (LI K l) := flat_map _ l
@[simp] theorem vlI : (LI K l).all vl = true := by simp [LI, List.all_map]
@[simp] theorem lenI : (LI K l).length = l.length := by simp [LI]
@[simp] theorem getI? (i : Nat) : (LI K l)[i]? = (l[i]?).map fun n => .sc (.int K n) := by simp [LI]
@[simp] theorem getI (i : Nat) (h : i < (LI K l).length) : (LI K l)[i] = .sc (.int K (l[i]'(by simpa using h))) := by simp [LI]
@[simp] theorem dropI (i : Nat) : (LI K l).drop i = LI K (l.drop i) := by simp [LI]
@[simp] theorem tailI : (LI K l).tail = LI K l.tail := by simp [LI]
@[simp] theorem nilI : LI K [] = [] := rfl
theorem appI (k : Nat) (hk : k = 1 ∨ k = 2) (b : Nat) (hb : 0 < b ∧ b ≤ 1000) (n : Int) (h : l.length ≤ 1000000) : appA b 1 (S k 1 (LI K l)) (S 1 1 [.sc (.int K n)]) = some (S k 1 (LI K (l ++ [n]))) := by
  rw [appA_S b 1 k _ _ 1 hk (flat_one _) (.inr (fits_ok hb.1 ?_))]
  · simp [LI]
  · simp only [lenI, List.length_cons, List.length_nil]
    have : (l.length + (0 + 1)) * b ≤ 1000001 * 1000 := Nat.mul_le_mul (by omega) hb.2
    omega
theorem appsI (k : Nat) (hk : k = 1 ∨ k = 2) (b : Nat) (hb : 0 < b ∧ b ≤ 1000) (k' : Nat) (m : List Int) (h : l.length + m.length ≤ 1000000) : appA b 1 (S k 1 (LI K l)) (S k' 1 (LI K m)) = some (S k 1 (LI K (l ++ m))) := by
  rw [appA_S b 1 k _ _ k' hk (flatI _ _) (.inr (fits_ok hb.1 ?_))]
  · simp [LI]
  · simp only [lenI]
    have : (l.length + m.length) * b ≤ 1000000 * 1000 := Nat.mul_le_mul (by omega) hb.2
    omega
end
section
variable (P : Program) (t : TypeId) (x y : Operand) (k k' : IntKind) (a b : Int)
theorem binV_shr (h : 0 ≤ b) : binV P .shr t x y (.int k a) (.int k' b) = some (.int k (a.fdiv (2 ^ (min b.toNat k.bits)))) := by
  unfold binV
  rw [eqGuard_int]
  simp only [Go.binOp, Op.shift]
  rw [if_neg (by omega)]
  rfl
theorem binV_shl (h : 0 ≤ b) : binV P .shl t x y (.int k a) (.int k' b) = some (.int k (k.wrap (a * 2 ^ (min b.toNat k.bits)))) := by
  unfold binV
  rw [eqGuard_int]
  simp only [Go.binOp, Op.shift]
  rw [if_neg (by omega)]
  rfl
end
theorem wrapu8 {z : Int} (h1 : 0 ≤ z) (h2 : z < 256) : IntKind.u8.wrap z = z := by rw [IntKind.wrap_u8]; omega
theorem wrapu16 {z : Int} (h1 : 0 ≤ z) (h2 : z < 65536) : IntKind.u16.wrap z = z := by rw [IntKind.wrap_u16]; omega
theorem wrapu32 {z : Int} (h1 : 0 ≤ z) (h2 : z < 4294967296) : IntKind.u32.wrap z = z := by rw [IntKind.wrap_u32]; omega
theorem wrapu64 {z : Int} (h1 : 0 ≤ z) (h2 : z < 18446744073709551616) : IntKind.u64.wrap z = z := by rw [IntKind.wrap_u64]; omega
theorem tmod_pos {a b : Int} (h : 0 ≤ a) : a.tmod b = a % b := Int.tmod_eq_emod_of_nonneg h
@[simp] theorem bltV_max (P : Program) (ts : Array TypeId) (t : TypeId) (k k' : IntKind) (a b : Int) : bltV P .max ts t [.int k a, .int k' b] = some (.int k (max a b)) := by
  show some (Value.int k (if b > a then b else a)) = _
  congr 2
  split <;> omega
@[simp] theorem bltV_min (P : Program) (ts : Array TypeId) (t : TypeId) (k k' : IntKind) (a b : Int) : bltV P .min ts t [.int k a, .int k' b] = some (.int k (min a b)) := by
  show some (Value.int k (if b < a then b else a)) = _
  congr 2
  split <;> omega
/-! ### slices that are written -/
@[simp] theorem getMs_ms (b g o n z : Nat) : getMs (.ms b g o n z) = some (b, g, o, n, z) := rfl
@[simp] theorem ro_ms (b g o n z : Nat) : ro (.ms b g o n z) = .ms b g o n z := rfl
@[simp] theorem ro1_ms (b g o n z : Nat) : ro1 (.ms b g o n z) = .ms b g o n z := rfl
@[simp] theorem lenA_ms (b g o n z : Nat) : lenA (.ms b g o n z) = some n := rfl
@[simp] theorem cellsN_ms (b g o n z : Nat) : cellsN 1 (.ms b g o n z) = some [.ms b g o n z] := rfl
@[simp] theorem noTup_ms (b g o n z : Nat) : noTup (.ms b g o n z) = some () := rfl
theorem idx_ok {n : Nat} {K : IntKind} {z : Int} (h : 0 ≤ z) (h' : z < n) : idx n (.int K z) = some z.toNat := by
  simp [idx, h, h']
theorem idx_nat {n i : Nat} (K : IntKind) (h : i < n) : idx n (.int K (i : Int)) = some i := by
  have h1 : (i : Int) < (n : Int) := by omega
  simp [idx, h1]
theorem rd_new (hp : Hp) (cs : List AV) : (hp.new cs).rd hp.next 0 = some cs := by simp [Hp.rd, Hp.new]
theorem rd_put (hp : Hp) (b : Nat) (cs : List AV) : (hp.put b 0 cs).rd b 0 = some cs := by simp [Hp.rd, Hp.put]
theorem putN_I (K : IntKind) (l : List Int) (i : Nat) (n : Int) (h : i < l.length) : putN (LI K l) i [.sc (.int K n)] = some (LI K (l.set i n)) := by
  unfold putN
  rw [if_pos (by simp; omega)]
  congr 1
  apply List.ext_getElem?
  intro j
  simp only [List.length_cons, List.length_nil, LI, List.getElem?_map, List.getElem?_append, List.length_append, List.length_take, List.length_map, List.getElem?_take, List.getElem?_drop, List.getElem?_set, List.length_cons, List.length_nil]
  by_cases h1 : j < i
  · have e1 : j < min i l.length + (0 + 1) := by omega
    have e2 : j < min i l.length := by omega
    have e3 : ¬(i = j) := by omega
    simp [e1, e2, e3, h1]
  · by_cases h2 : j = i
    · subst h2
      have e2 : ¬(j < min j l.length) := by omega
      have e3 : j - min j l.length = 0 := by omega
      have e4 : min j l.length = j := by omega
      simp [e2, e3, e4, h]
    · have e1 : ¬(j < min i l.length + (0 + 1)) := by omega
      have e2 : ¬(i = j) := by omega
      have e3 : i + (0 + 1) + (j - (min i l.length + (0 + 1))) = j := by omega
      have e4 : ¬(j < min i l.length) := by omega
      simp only [e1, e2, e3, if_false]
theorem getN_all (cs : List AV) : getN cs 0 cs.length = some cs := by simp [getN]
theorem frz1_ms (hp : Hp) (b : Nat) (cs : List AV) (hb : hp.rd b 0 = some cs) (hv : cs.all vl = true) : frz1 hp (.ms b 0 0 cs.length 1) = some (.sl 1 (cs.map ro1), hp.del b) := by
  have e : getN cs 0 (cs.length * 1) = some cs := by rw [Nat.mul_one]; exact getN_all cs
  simp only [frz1, hb, Option.bind_some, e, hv, chk]
  rfl
theorem frz1_I (K : IntKind) (l : List Int) (hp : Hp) (b : Nat) (hb : hp.rd b 0 = some (LI K l)) : frz1 hp (.ms b 0 0 l.length 1) = some (S 0 1 (LI K l), hp.del b) := by
  have h := frz1_ms hp b (LI K l) hb (vlI K l)
  rw [lenI] at h
  rw [h, flatI K l]
  rfl
@[simp] theorem frz1_S (k sz : Nat) (cs : List AV) (hp : Hp) : frz1 hp (S k sz cs) = some (S k sz cs, hp) := by
  rcases S_cases k sz cs with e | e | ⟨e, e'⟩ <;> rw [e] <;> rfl
@[simp] theorem frz1_sc (v : Value) (hp : Hp) : frz1 hp (.sc v) = some (.sc v, hp) := rfl
@[simp] theorem frzL_nil (hp : Hp) : frzL hp [] = some ([], hp) := rfl
@[simp] theorem frzL_cons (hp : Hp) (x : AV) (r : List AV) : frzL hp (x :: r) = (frz1 hp x).bind fun p => (frzL p.2 r).bind fun q => some (p.1 :: q.1, q.2) := rfl
@[simp] theorem many_one (cs : List AV) : many 1 cs = cs.length := rfl
/-- An append to a fresh slice. -/
theorem srcM_S (hp : Hp) (k sz : Nat) (cs : List AV) : srcM hp sz (S k sz cs) = some cs := by
  unfold srcM
  rcases S_cases k sz cs with e | e | ⟨e, e'⟩ <;> rw [e]
  · simp [getMs, srcA]
  · simp [getMs, srcA]
  · simp [getMs, srcA, e', nil0]
theorem appM_fresh (K : IntKind) (l : List Int) (k : Nat) (b : Nat) (hb : 0 < b ∧ b ≤ 1000) (hl : l.length ≤ 1000000) (hne : l ≠ []) (hp : Hp) : appM b 1 (S 1 1 []) (S k 1 (LI K l)) hp = some (.ms hp.next 0 0 l.length 1, hp.new (LI K l)) := by
  unfold appM
  rw [srcM_S]
  simp only [Option.bind_some]
  cases l with
  | nil => exact absurd rfl hne
  | cons x l =>
    have hf : fits b 1 (LI K (x :: l)).length = true := fits_ok hb.1 (by
      rw [lenI]
      have : (x :: l).length * b ≤ 1000000 * 1000 := Nat.mul_le_mul hl hb.2
      omega)
    have e : LI K (x :: l) = .sc (.int K x) :: LI K l := rfl
    rw [e] at hf ⊢
    show (chk (1 = 1 ∧ fits b 1 (AV.sc (Value.int K x) :: LI K l).length = true)).bind _ = _
    rw [chk_ok ⟨rfl, hf⟩]
    simp [lenI]
theorem appM_nil (b : Nat) (k : Nat) (hp : Hp) : appM b 1 (S 1 1 []) (S k 1 []) hp = some (S 1 1 [], hp) := by
  unfold appM
  rw [srcM_S]
  rfl
/-- An append of one number, to a slice that may be written. -/
theorem appM_one (K : IntKind) (l : List Int) (n : Int) (b x : Nat) (hb : 0 < b ∧ b ≤ 1000) (hl : l.length ≤ 1000000) (hne : l ≠ []) (hp : Hp) (hx : hp.rd x 0 = some (LI K l)) :
    appM b 1 (.ms x 0 0 l.length 1) (S 1 1 [.sc (.int K n)]) hp = some (.ms hp.next 0 0 (l.length + 1) 1, (hp.del x).new (LI K (l ++ [n]))) := by
  have hpos : 0 < l.length := List.length_pos_iff.mpr hne
  have hf : fits b 1 (l.length * 1 + 1) = true := fits_ok hb.1 (by
    have : (l.length * 1 + 1) * b ≤ 1000001 * 1000 := Nat.mul_le_mul (by omega) hb.2
    omega)
  unfold appM
  rw [srcM_S]
  simp only [Option.bind_some, hx, List.length_cons, List.length_nil, many_one]
  rw [chk_ok (by simp [hpos])]
  simp only [Option.bind_some]
  rw [chk_ok ⟨by rw [lenI]; omega, hf⟩]
  have e : ((LI K l).take (l.length * 1)).map ro1 ++ [AV.sc (.int K n)] = LI K (l ++ [n]) := by
    rw [Nat.mul_one, List.take_of_length_le (by simp), flatI]
    simp [LI]
  simp only [Option.bind_some, e]
theorem appM_first (K : IntKind) (n : Int) (b : Nat) (hb : 0 < b ∧ b ≤ 1000) (hp : Hp) : appM b 1 (S 2 1 []) (S 1 1 [.sc (.int K n)]) hp = some (.ms hp.next 0 0 1 1, hp.new (LI K [n])) := by
  have hf : fits b 1 1 = true := fits_ok hb.1 (by omega)
  unfold appM
  rw [srcM_S]
  show (chk (isNil nil0 = true ∧ fits b 1 1 = true)).bind _ = _
  rw [chk_ok ⟨rfl, hf⟩]
  rfl
theorem zeros_I (K : IntKind) (n : Nat) : zerosA (n : Int) [.int K 0] = LI K (List.replicate n 0) := by
  unfold zerosA LI
  rw [Int.toNat_natCast]
  induction n with
  | zero => rfl
  | succ n ih =>
    rw [List.replicate_succ, List.replicate_succ, List.flatten_cons, ih]
    rfl
@[simp] theorem bound_none (lo hi : Int) (d : Nat) : bound lo hi none d = some d := rfl
theorem bound_nat {hi d n : Nat} (K : IntKind) (h : n ≤ hi) : bound 0 (hi : Int) (some (.int K (n : Int))) d = some n := by
  have h1 : (n : Int) ≤ (hi : Int) := by omega
  simp [bound, h1]
theorem getN_I (K : IntKind) (l : List Int) (i n : Nat) (h : i + n ≤ l.length) : getN (LI K l) i n = some (LI K ((l.drop i).take n)) := by
  unfold getN
  rw [if_pos (by simpa using h)]
  simp [LI, List.map_drop, List.map_take]
theorem putNs_I (K : IntKind) (l m : List Int) (i : Nat) (h : i + m.length ≤ l.length) : putN (LI K l) i (LI K m) = some (LI K (l.take i ++ m ++ l.drop (i + m.length))) := by
  unfold putN
  rw [if_pos (by simpa using h)]
  simp [LI, List.map_drop, List.map_take]
theorem takeI (K : IntKind) (l : List Int) (n : Nat) : (LI K l).take n = LI K (l.take n) := by simp [LI, List.map_take]
theorem srcM_ms (K : IntKind) (l : List Int) (hp : Hp) (b o n : Nat) (hb : hp.rd b 0 = some (LI K l)) (h : o + n ≤ l.length) : srcM hp 1 (.ms b 0 o n 1) = some (LI K ((l.drop o).take n)) := by
  unfold srcM
  have e := getN_I K l o n h
  have e1 : chk (1 = 1 ∧ 0 < 1) = some () := chk_ok ⟨rfl, by decide⟩
  show (chk (1 = 1 ∧ 0 < 1)).bind _ = _
  rw [e1]
  simp only [Option.bind_some, hb, Nat.mul_one, e]
  rw [flatI]
theorem sameG_ok {q : AV × Nat} {g g' : Nat → Option (Nat × List AV)} (h : seeG q g = seeG q g') : sameG q g g' = some () := by
  unfold sameG
  exact if_pos h
@[simp] theorem sameG_self (q : AV × Nat) (g : Nat → Option (Nat × List AV)) : sameG q g g = some () := sameG_ok rfl
/-- An append to a fresh slice, of one that may be written. -/
theorem appM_freshM (K : IntKind) (l : List Int) (x : AV) (b : Nat) (hb : 0 < b ∧ b ≤ 1000) (hl : l.length ≤ 1000000) (hne : l ≠ []) (hp : Hp) (hx : srcM hp 1 x = some (LI K l)) : appM b 1 (S 1 1 []) x hp = some (.ms hp.next 0 0 l.length 1, hp.new (LI K l)) := by
  have h := appM_fresh K l 0 b hb hl hne hp
  unfold appM at h ⊢
  rw [srcM_S] at h
  rw [hx]
  exact h
theorem appM_nilM (b : Nat) (x : AV) (hp : Hp) (hx : srcM hp 1 x = some []) : appM b 1 (S 1 1 []) x hp = some (S 1 1 [], hp) := by
  unfold appM
  rw [hx]
  rfl
theorem srcM_all (K : IntKind) (l : List Int) (hp : Hp) (b : Nat) (hb : hp.rd b 0 = some (LI K l)) : srcM hp 1 (.ms b 0 0 l.length 1) = some (LI K l) := by
  have h := srcM_ms K l hp b 0 l.length hb (by omega)
  rwa [List.drop_zero, List.take_of_length_le (Nat.le_refl _)] at h
end Go.Proofs.YtchmioacjkbfcaaGreat.AI

/- Arguments of a law, read into the abstract machine's values. -/
namespace Go.Proofs.YtchmioacjkbfcaaGreat.AI
open Go Go.RowKit Go.ChangeShapes Go.WideShapes Go.ChangeAt
set_option linter.unusedVariables false
set_option linter.unusedSimpArgs false

/-- Within a kind's bounds. -/
def InK (k : IntKind) (n : Int) : Prop := (Lit.int k n).wf = true
theorem InK.le {k : IntKind} {n : Int} (h : InK k n) : k.min ≤ n ∧ n ≤ k.max := by
  simpa [InK, Lit.wf] using h
theorem InK.u8 {n : Int} (h : InK .u8 n) : 0 ≤ n ∧ n < 256 := by
  have := h.le; simp [IntKind.min, IntKind.max, IntKind.signed, IntKind.bits] at this; omega
theorem InK.u16 {n : Int} (h : InK .u16 n) : 0 ≤ n ∧ n < 65536 := by
  have := h.le; simp [IntKind.min, IntKind.max, IntKind.signed, IntKind.bits] at this; omega
theorem InK.u32 {n : Int} (h : InK .u32 n) : 0 ≤ n ∧ n < 4294967296 := by
  have := h.le; simp [IntKind.min, IntKind.max, IntKind.signed, IntKind.bits] at this; omega
theorem InK.u64 {n : Int} (h : InK .u64 n) : 0 ≤ n ∧ n < 18446744073709551616 := by
  have := h.le; simp [IntKind.min, IntKind.max, IntKind.signed, IntKind.bits] at this; omega
theorem InK.i64 {n : Int} (h : InK .i64 n) : -9223372036854775808 ≤ n ∧ n < 9223372036854775808 := by
  have := h.le; simp [IntKind.min, IntKind.max, IntKind.signed, IntKind.bits] at this; omega
/-- Arguments, one by one. -/
def ArgsR (W : World) (xs : List AV) (vs : List Value) : Prop := xs.length = vs.length ∧ ∀ (i : Nat) (x : AV) (u : Value), xs[i]? = some x → vs[i]? = some u → ArgR (gh0 W) W x u
theorem ArgsR.nil (W : World) : ArgsR W [] [] := ⟨rfl, by simp⟩
theorem ArgsR.cons {W : World} {x : AV} {v : Value} {xs : List AV} {vs : List Value} (h : ArgR (gh0 W) W x v) (t : ArgsR W xs vs) : ArgsR W (x :: xs) (v :: vs) := by
  refine ⟨by simp [t.1], fun i y u hx hu => ?_⟩
  cases i with
  | zero =>
    simp at hx hu
    subst hx hu
    exact h
  | succ i => exact t.2 i y u (by simpa using hx) (by simpa using hu)
theorem law_args {c : Cx} (hc : Ok c ∧ DstOk c) {f : FuncId} {xs : List AV} {vs : List Value} {v : Value} {hp' : Hp} {W : World} (ha : ArgsR W xs vs) (h : run c f xs hp0 = some (.sc v, hp')) : Calls c.P f vs.toArray W fun e W' => e = .returned v ∧ Below W.heap.size W W' :=
  law_bool hc h ha.1 ha.2
section
variable {H : Type} {enc : TypeId × Value → H} {P : Program} {W : World} {fuel : Nat} {t e : TypeId} {cs : List Value} {y : DataW H × List MemPlace} {K : IntKind}
theorem rd_int (ht : P.underlying t = some (.int K)) (h : DataW.trod enc P W 0 (fun _ => true) true fuel t cs = some y) : ∃ n, cs = [.int K n] ∧ InK K n := by
  obtain ⟨n, h1, h2, h3⟩ := DataW.trod_int ht h
  exact ⟨n, h1, h3⟩
theorem rd_bool (ht : P.underlying t = some .bool) (h : DataW.trod enc P W 0 (fun _ => true) true fuel t cs = some y) : ∃ b : Bool, cs = [.bool b] := by
  obtain ⟨n, h1, h2⟩ := DataW.trod_bool ht h
  exact ⟨n, h1⟩
theorem relR_ints {a : Addr} {len cap : Nat} {zs : List Int} (hl : len ≤ cap) (hz : zs.length = cap) (hcell : ∀ i, i < zs.length → W.cell? (a.add i) = some (.int K (zs.getD i 0))) :
    RelR (gh0 W) W (S 0 1 (LI K (zs.take len))) (.slice (some a) len cap) := by
  have hg : ∀ i, i < zs.length → zs.getD i 0 = zs[i]?.getD 0 := fun i _ => by simp
  have := arg_sl (W := W) (a := a) (n := len) (cap := cap) (sz := 1) (cs := LI K (zs.take len)) (vs := (zs.take len).map fun n => .int K n) (by omega) (by simp; omega) (by simp) hl
    (fun i v hv => by
      simp only [List.getElem?_map, Option.map_eq_some_iff] at hv
      obtain ⟨n, hn, rfl⟩ := hv
      have hi : i < (zs.take len).length := (List.getElem?_eq_some_iff.mp hn).1
      simp at hi
      rw [hcell i (by omega)]
      rw [List.getElem?_take_of_lt (by omega)] at hn
      simp [hn])
    (fun x hx => by
      obtain ⟨n, _, rfl⟩ := List.mem_map.mp hx
      rfl)
    (fun i x v hx hv => by
      simp only [LI, List.getElem?_map, Option.map_eq_some_iff] at hx hv
      obtain ⟨n, hn, rfl⟩ := hx
      obtain ⟨m, hm, rfl⟩ := hv
      rw [hn] at hm
      cases hm
      exact .sc _ rfl)
  exact this (fun _ => .fr)
theorem rd_ints (ht : P.underlying t = some (.slice e)) (he : P.underlying e = some (.int K)) (hc : P.cellsOf e = 1) (h : DataW.trod enc P W 0 (fun _ => true) true fuel t cs = some y) :
    ∃ k l v, cs = [v] ∧ RelR (gh0 W) W (S k 1 (LI K l)) v ∧ (k = 0 ∨ (k = 2 ∧ l = [])) ∧ ∀ n ∈ l, InK K n := by
  rcases open_ints ht he hc h with ⟨hcs, _⟩ | ⟨a, len, cap, zs, hcs, _, hl, hm, hz, _, hcell, hwz⟩
  · exact ⟨2, [], _, hcs, .sc nil0 rfl, .inr ⟨rfl, rfl⟩, by simp⟩
  · exact ⟨0, zs.take len, _, hcs, relR_ints hl (by simpa using hz) hcell, .inl rfl, fun n hn => hwz n (List.mem_of_mem_take hn)⟩
theorem relR_C {x : AV} {v : Value} {p : Ow} (h : RelR (gh0 W) W x v) : RelC (gh0 W) W p x v := h.c p
theorem arg_R {x : AV} {v : Value} (h : RelR (gh0 W) W x v) : ArgR (gh0 W) W x v := fun p => (h.c (p 0)).v
/-- A struct's cells. -/
theorem arg_agg {xs : List AV} {vs : List Value} (hl : xs.length = vs.length) (h : ∀ (i : Nat) (x : AV) (v : Value), xs[i]? = some x → vs[i]? = some v → RelR (gh0 W) W x v) : ArgR (gh0 W) W (.agg xs) (.agg vs.toArray) :=
  fun p => ⟨vs, rfl, hl, fun i x v hx hv => (h i x v hx hv).c (p i)⟩
theorem cells_nil : ∀ (i : Nat) (x : AV) (v : Value), ([] : List AV)[i]? = some x → ([] : List Value)[i]? = some v → RelR (gh0 W) W x v := by simp
theorem cells_cons {x : AV} {v : Value} {xs : List AV} {vs : List Value} (h : RelR (gh0 W) W x v) (t : ∀ (i : Nat) (x : AV) (v : Value), xs[i]? = some x → vs[i]? = some v → RelR (gh0 W) W x v) :
    ∀ (i : Nat) (y : AV) (u : Value), (x :: xs)[i]? = some y → (v :: vs)[i]? = some u → RelR (gh0 W) W y u := by
  intro i y u hx hu
  cases i with
  | zero =>
    simp at hx hu
    subst hx hu
    exact h
  | succ i => exact t i y u (by simpa using hx) (by simpa using hu)
end
theorem cell_at {l : List Value} {o n : Nat} {a : Value} (h : (l.drop o).take n = [a]) : l[o]? = some a := by
  have h0 : ((l.drop o).take n)[0]? = some a := by rw [h]; rfl
  have hn : 0 < n := by
    cases n with
    | zero => simp at h
    | succ n => omega
  rw [List.getElem?_take_of_lt hn] at h0
  simpa using h0
theorem list_eq1 {l : List Value} {a0 : Value} (h : l.length = 1) (h0 : l[0]? = some a0) : l = [a0] := by
  apply List.ext_getElem?
  intro i
  match i with
  | 0 => rw [h0]; rfl
  | i + 1 => rw [List.getElem?_eq_none (by omega), List.getElem?_eq_none (by simp)]
theorem list_eq2 {l : List Value} {a0 a1 : Value} (h : l.length = 2) (h0 : l[0]? = some a0) (h1 : l[1]? = some a1) : l = [a0, a1] := by
  apply List.ext_getElem?
  intro i
  match i with
  | 0 => rw [h0]; rfl
  | 1 => rw [h1]; rfl
  | i + 2 => rw [List.getElem?_eq_none (by omega), List.getElem?_eq_none (by simp)]
theorem list_eq3 {l : List Value} {a0 a1 a2 : Value} (h : l.length = 3) (h0 : l[0]? = some a0) (h1 : l[1]? = some a1) (h2 : l[2]? = some a2) : l = [a0, a1, a2] := by
  apply List.ext_getElem?
  intro i
  match i with
  | 0 => rw [h0]; rfl
  | 1 => rw [h1]; rfl
  | 2 => rw [h2]; rfl
  | i + 3 => rw [List.getElem?_eq_none (by omega), List.getElem?_eq_none (by simp)]
theorem list_eq4 {l : List Value} {a0 a1 a2 a3 : Value} (h : l.length = 4) (h0 : l[0]? = some a0) (h1 : l[1]? = some a1) (h2 : l[2]? = some a2) (h3 : l[3]? = some a3) : l = [a0, a1, a2, a3] := by
  apply List.ext_getElem?
  intro i
  match i with
  | 0 => rw [h0]; rfl
  | 1 => rw [h1]; rfl
  | 2 => rw [h2]; rfl
  | 3 => rw [h3]; rfl
  | i + 4 => rw [List.getElem?_eq_none (by omega), List.getElem?_eq_none (by simp)]
theorem list_eq5 {l : List Value} {a0 a1 a2 a3 a4 : Value} (h : l.length = 5) (h0 : l[0]? = some a0) (h1 : l[1]? = some a1) (h2 : l[2]? = some a2) (h3 : l[3]? = some a3) (h4 : l[4]? = some a4) : l = [a0, a1, a2, a3, a4] := by
  apply List.ext_getElem?
  intro i
  match i with
  | 0 => rw [h0]; rfl
  | 1 => rw [h1]; rfl
  | 2 => rw [h2]; rfl
  | 3 => rw [h3]; rfl
  | 4 => rw [h4]; rfl
  | i + 5 => rw [List.getElem?_eq_none (by omega), List.getElem?_eq_none (by simp)]
theorem list_eq6 {l : List Value} {a0 a1 a2 a3 a4 a5 : Value} (h : l.length = 6) (h0 : l[0]? = some a0) (h1 : l[1]? = some a1) (h2 : l[2]? = some a2) (h3 : l[3]? = some a3) (h4 : l[4]? = some a4) (h5 : l[5]? = some a5) : l = [a0, a1, a2, a3, a4, a5] := by
  apply List.ext_getElem?
  intro i
  match i with
  | 0 => rw [h0]; rfl
  | 1 => rw [h1]; rfl
  | 2 => rw [h2]; rfl
  | 3 => rw [h3]; rfl
  | 4 => rw [h4]; rfl
  | 5 => rw [h5]; rfl
  | i + 6 => rw [List.getElem?_eq_none (by omega), List.getElem?_eq_none (by simp)]
theorem list_eq7 {l : List Value} {a0 a1 a2 a3 a4 a5 a6 : Value} (h : l.length = 7) (h0 : l[0]? = some a0) (h1 : l[1]? = some a1) (h2 : l[2]? = some a2) (h3 : l[3]? = some a3) (h4 : l[4]? = some a4) (h5 : l[5]? = some a5) (h6 : l[6]? = some a6) : l = [a0, a1, a2, a3, a4, a5, a6] := by
  apply List.ext_getElem?
  intro i
  match i with
  | 0 => rw [h0]; rfl
  | 1 => rw [h1]; rfl
  | 2 => rw [h2]; rfl
  | 3 => rw [h3]; rfl
  | 4 => rw [h4]; rfl
  | 5 => rw [h5]; rfl
  | 6 => rw [h6]; rfl
  | i + 7 => rw [List.getElem?_eq_none (by omega), List.getElem?_eq_none (by simp)]
theorem list_eq8 {l : List Value} {a0 a1 a2 a3 a4 a5 a6 a7 : Value} (h : l.length = 8) (h0 : l[0]? = some a0) (h1 : l[1]? = some a1) (h2 : l[2]? = some a2) (h3 : l[3]? = some a3) (h4 : l[4]? = some a4) (h5 : l[5]? = some a5) (h6 : l[6]? = some a6) (h7 : l[7]? = some a7) : l = [a0, a1, a2, a3, a4, a5, a6, a7] := by
  apply List.ext_getElem?
  intro i
  match i with
  | 0 => rw [h0]; rfl
  | 1 => rw [h1]; rfl
  | 2 => rw [h2]; rfl
  | 3 => rw [h3]; rfl
  | 4 => rw [h4]; rfl
  | 5 => rw [h5]; rfl
  | 6 => rw [h6]; rfl
  | 7 => rw [h7]; rfl
  | i + 8 => rw [List.getElem?_eq_none (by omega), List.getElem?_eq_none (by simp)]
end Go.Proofs.YtchmioacjkbfcaaGreat.AI
