/- What the machine's small parts answer on numbers and on lists: for reckoning by 'simp'. -/
import Derived.Test.YtalnoedhacobkaaLaw
namespace Go.Proofs.Ytalnoedhacobkaa.AI
open Go
set_option linter.unusedVariables false
set_option linter.unusedSimpArgs false

section
variable (P : Program) (t : TypeId) (x y : Operand) (k k' : IntKind) (a b : Int)
theorem eqGuard_int (op : BinOp) : eqGuard op t x y (.int k a) (.int k' b) = pure () := by
  cases op <;> rfl
theorem binV_int (op : BinOp) (h : op ≠ .shl) (h' : op ≠ .shr) : binV P op t x y (.int k a) (.int k b) = one (pureOf P (match op with
    | .add | .sub | .mul => Op.intArith op k a b
    | .quo | .rem => Op.intDiv op k a b
    | .and | .or | .xor | .andNot => Op.intBits op k a b
    | _ => Op.intCmp op a b)) := by
  unfold binV
  rw [eqGuard_int]
  cases op <;> simp [Go.binOp] <;> first | rfl | exact absurd rfl h | exact absurd rfl h'
@[simp] theorem binV_add : binV P .add t x y (.int k a) (.int k b) = some (.int k (k.wrap (a + b))) := by rw [binV_int P t x y k a b .add (by decide) (by decide)]; rfl
@[simp] theorem binV_sub : binV P .sub t x y (.int k a) (.int k b) = some (.int k (k.wrap (a - b))) := by rw [binV_int P t x y k a b .sub (by decide) (by decide)]; rfl
@[simp] theorem binV_mul : binV P .mul t x y (.int k a) (.int k b) = some (.int k (k.wrap (a * b))) := by rw [binV_int P t x y k a b .mul (by decide) (by decide)]; rfl
@[simp] theorem binV_eql : binV P .eql t x y (.int k a) (.int k b) = some (.bool (decide (a = b))) := by rw [binV_int P t x y k a b .eql (by decide) (by decide)]; show some (Value.bool (a == b)) = _; congr 2
@[simp] theorem binV_neq : binV P .neq t x y (.int k a) (.int k b) = some (.bool (!decide (a = b))) := by rw [binV_int P t x y k a b .neq (by decide) (by decide)]; show some (Value.bool (a != b)) = _; rfl
@[simp] theorem binV_lss : binV P .lss t x y (.int k a) (.int k b) = some (.bool (decide (a < b))) := by rw [binV_int P t x y k a b .lss (by decide) (by decide)]; rfl
@[simp] theorem binV_leq : binV P .leq t x y (.int k a) (.int k b) = some (.bool (decide (a ≤ b))) := by rw [binV_int P t x y k a b .leq (by decide) (by decide)]; rfl
@[simp] theorem binV_gtr : binV P .gtr t x y (.int k a) (.int k b) = some (.bool (decide (a > b))) := by rw [binV_int P t x y k a b .gtr (by decide) (by decide)]; rfl
@[simp] theorem binV_geq : binV P .geq t x y (.int k a) (.int k b) = some (.bool (decide (a ≥ b))) := by rw [binV_int P t x y k a b .geq (by decide) (by decide)]; rfl
theorem binV_quo (h : b ≠ 0) : binV P .quo t x y (.int k a) (.int k b) = some (.int k (k.wrap (a.tdiv b))) := by
  rw [binV_int P t x y k a b .quo (by decide) (by decide)]; simp only [Op.intDiv, h, if_false]; rfl
theorem binV_rem (h : b ≠ 0) : binV P .rem t x y (.int k a) (.int k b) = some (.int k (a.tmod b)) := by
  rw [binV_int P t x y k a b .rem (by decide) (by decide)]; simp only [Op.intDiv, h, if_false]; rfl
@[simp] theorem binV_and : binV P .and t x y (.int k a) (.int k b) = some (.int k (k.wrap (BitVec.ofInt k.bits a &&& BitVec.ofInt k.bits b).toNat)) := by rw [binV_int P t x y k a b .and (by decide) (by decide)]; rfl
@[simp] theorem binV_or : binV P .or t x y (.int k a) (.int k b) = some (.int k (k.wrap (BitVec.ofInt k.bits a ||| BitVec.ofInt k.bits b).toNat)) := by rw [binV_int P t x y k a b .or (by decide) (by decide)]; rfl
@[simp] theorem binV_xor : binV P .xor t x y (.int k a) (.int k b) = some (.int k (k.wrap (BitVec.ofInt k.bits a ^^^ BitVec.ofInt k.bits b).toNat)) := by rw [binV_int P t x y k a b .xor (by decide) (by decide)]; rfl
@[simp] theorem unV_not (c : Bool) : unV P .not (.bool c) = some (.bool !c) := rfl
@[simp] theorem asB_bool (c : Bool) : asB (.bool c) = some c := rfl
@[simp] theorem asI_int : asI (.int k a) = some a := rfl
@[simp] theorem asSc_sc (v : Value) : asSc (.sc v) = some v := rfl
end

theorem pureOf_bind {α β : Type} (P : Program) (s : Sem α) (f : α → Sem β) : pureOf P (s >>= f) = (pureOf P s).bind fun a => pureOf P (f a) := by
  show pureOf P (Sem.bind s f) = _
  induction s with
  | pure a => rfl
  | program k ih => simp only [Sem.bind, pureOf]; exact ih P
  | mark x k ih => simp only [Sem.bind, pureOf]; exact ih
  | _ => rfl
@[simp] theorem pureOf_pure {α : Type} (P : Program) (a : α) : pureOf P (pure a : Sem α) = some a := rfl
theorem eqGuard_str (P : Program) (t : TypeId) (x y : Operand) (op : BinOp) (a b : ByteArray) : eqGuard op t x y (.string a) (.string b) = pure () := by
  cases op <;> rfl
theorem ba_eq (a b : ByteArray) : (a.toList == b.toList) = decide (a.data.toList = b.data.toList) := by
  rw [ByteArray.toList_eq, ByteArray.toList_eq]
  by_cases h : a.data.toList = b.data.toList
  · rw [h]; simp
  · rw [decide_eq_false h]; exact beq_eq_false_iff_ne.mpr h
@[simp] theorem binV_seql (P : Program) (t : TypeId) (x y : Operand) (a b : ByteArray) : binV P .eql t x y (.string a) (.string b) = some (.bool (decide (a.data.toList = b.data.toList))) := by
  unfold binV
  rw [eqGuard_str P]
  show some (Value.bool (a.toList == b.toList)) = _
  rw [ba_eq]
@[simp] theorem binV_sneq (P : Program) (t : TypeId) (x y : Operand) (a b : ByteArray) : binV P .neq t x y (.string a) (.string b) = some (.bool (!decide (a.data.toList = b.data.toList))) := by
  unfold binV
  rw [eqGuard_str P]
  show some (Value.bool (!(a.toList == b.toList))) = _
  rw [ba_eq]
/-! ### lists -/
/-- A slice that is read: nil, owned or not. -/
def Rd (sz : Nat) (x : AV) (cs : List AV) : Prop := x = .sl sz cs ∨ x = .us sz cs ∨ (x = .sc nil0 ∧ cs = [])
section
variable {sz : Nat} {x : AV} {cs : List AV}
theorem Rd.ro (h : Rd sz x cs) : Rd sz (AI.ro x) cs := by
  rcases h with rfl | rfl | ⟨rfl, rfl⟩
  · exact .inl rfl
  · exact .inl rfl
  · exact .inr (.inr ⟨rfl, rfl⟩)
theorem Rd.ro1 (h : Rd sz x cs) : Rd sz (AI.ro1 x) cs := by
  rcases h with rfl | rfl | ⟨rfl, rfl⟩
  · exact .inl rfl
  · exact .inl rfl
  · exact .inr (.inr ⟨rfl, rfl⟩)
theorem Rd.len (h : Rd 1 x cs) : lenA x = some cs.length := by
  rcases h with rfl | rfl | ⟨rfl, rfl⟩ <;> rfl
theorem Rd.idx (h : Rd 1 x cs) {k : IntKind} {z : Int} {i : Nat} {y : AV} (hz : z = (i : Int)) (hy : cs[i]? = some y) : idxA 1 x (.int k z) = some [y] := by
  subst hz
  have hlt := (List.getElem?_eq_some_iff.mp hy).1
  have key : ((AI.idx (if 1 = 1 then cs.length else cs.length / 1) (.int k (i : Int))).bind fun i => getN cs (i * 1) 1) = some [y] := by
    have hc : (0 : Int) ≤ (i : Int) ∧ (i : Int) < (cs.length : Int) := ⟨Int.natCast_nonneg i, by omega⟩
    simp only [if_true, AI.idx, asI, Option.bind_some, hc, and_self, Int.toNat_natCast, Nat.mul_one]
    unfold getN
    rw [if_pos (by omega)]
    congr 1
    obtain ⟨h1, h2⟩ := List.getElem?_eq_some_iff.mp hy
    rw [List.drop_eq_getElem_cons h1, h2]
    rfl
  rcases h with rfl | rfl | ⟨rfl, rfl⟩
  · simp only [idxA, if_true]; simpa using key
  · simp only [idxA, if_true]; simpa using key
  · simp at hy
theorem Rd.slc (h : Rd 1 x cs) {k : IntKind} {z : Int} {i : Nat} (hz : z = (i : Int)) (hi : i ≤ cs.length) : ∃ y, slcA 1 x (some (.int k z)) none none = some y ∧ Rd 1 y (cs.drop i) := by
  subst hz
  have hb : ∀ n : Nat, i ≤ n → bound 0 (n : Int) (some (.int k (i : Int))) 0 = some i := by
    intro n hn
    have : (0 : Int) ≤ (i : Int) ∧ (i : Int) ≤ (n : Int) := ⟨Int.natCast_nonneg i, by omega⟩
    simp only [bound, asI, Option.bind_some, this, and_self, if_true, Int.toNat_natCast]
  have key : (cs.drop (i * 1)).take ((cs.length - i) * 1) = cs.drop i := by
    rw [Nat.mul_one, Nat.mul_one]
    exact List.take_of_length_le (by simp)
  rcases h with rfl | rfl | ⟨rfl, rfl⟩
  · refine ⟨.sl 1 (cs.drop i), ?_, .inl rfl⟩
    simp only [slcA, if_true]
    show (bound 0 _ none _).bind _ = _
    simp only [bound, Option.bind_some]
    have := hb cs.length hi
    simp only [bound] at this
    rw [this]
    simp only [Option.bind_some, key]
  · refine ⟨.sl 1 (cs.drop i), ?_, .inl rfl⟩
    simp only [slcA, if_true]
    show (bound 0 _ none _).bind _ = _
    simp only [bound, Option.bind_some]
    have := hb cs.length hi
    simp only [bound] at this
    rw [this]
    simp only [Option.bind_some, key]
  · have hi0 : i = 0 := by simpa using hi
    subst hi0
    refine ⟨.sc nil0, ?_, .inr (.inr ⟨rfl, rfl⟩)⟩
    rfl
end
/-- A slice that may be appended to. -/
def Wd (sz : Nat) (x : AV) (cs : List AV) : Prop := x = .us sz cs ∨ (x = .sc nil0 ∧ cs = [])
theorem Wd.rd {sz : Nat} {x : AV} {cs : List AV} (h : Wd sz x cs) : Rd sz x cs := by
  rcases h with rfl | ⟨rfl, rfl⟩
  · exact .inr (.inl rfl)
  · exact .inr (.inr ⟨rfl, rfl⟩)
/-- Cells without a hold. -/
def Flat (ys : List AV) : Prop := ys.map ro1 = ys
theorem Wd.app {bytes sz : Nat} {d s : AV} {cs ys : List AV} (hd : Wd sz d cs) (hs : Rd sz s ys) (hf : Flat ys) (hfit : ys ≠ [] → fits bytes sz (cs.length + ys.length) = true) :
    ∃ z, appA bytes sz d s = some z ∧ Wd sz z (cs ++ ys) := by
  have hsrc : srcA sz s = some ys := by
    rcases hs with rfl | rfl | ⟨rfl, rfl⟩
    · simp [srcA]
    · simp [srcA]
    · rfl
  unfold appA
  rw [hsrc]
  simp only [Option.bind_some]
  cases ys with
  | nil =>
    rw [List.append_nil]
    rcases hd with rfl | ⟨rfl, rfl⟩
    · exact ⟨.us sz cs, by simp, .inl rfl⟩
    · exact ⟨.sc nil0, rfl, .inr ⟨rfl, rfl⟩⟩
  | cons y ys =>
    have hfit := hfit (by simp)
    rcases hd with rfl | ⟨rfl, rfl⟩
    · refine ⟨.us sz (cs ++ (y :: ys)), ?_, .inl rfl⟩
      have hf' : (y :: ys).map ro1 = y :: ys := hf
      have hfit2 : fits bytes sz (cs.length + (ys.length + 1)) = true := by simpa using hfit
      have hm : ro1 y :: List.map ro1 ys = y :: ys := hf'
      simp [hfit2, hm]
    · refine ⟨.us sz (y :: ys), ?_, .inl rfl⟩
      have hf' : (y :: ys).map ro1 = y :: ys := hf
      have hfit' : fits bytes sz (y :: ys).length = true := by simpa using hfit
      have hn : isNil nil0 = true := rfl
      simp only [hn, Bool.true_and, hfit', if_true, hf', List.nil_append]
theorem wrap64 {z : Int} (h1 : -9223372036854775808 ≤ z) (h2 : z < 9223372036854775808) : IntKind.i64.wrap z = z := by
  rw [IntKind.wrap_i64]; omega
@[simp] theorem wrap64_0 : IntKind.i64.wrap 0 = 0 := rfl
@[simp] theorem wrap64_1 : IntKind.i64.wrap 1 = 1 := rfl
@[simp] theorem wrap64_2 : IntKind.i64.wrap 2 = 2 := rfl
@[simp] theorem wrap64_3 : IntKind.i64.wrap 3 = 3 := rfl
@[simp] theorem wrap64_4 : IntKind.i64.wrap 4 = 4 := rfl
@[simp] theorem wrap64_5 : IntKind.i64.wrap 5 = 5 := rfl
@[simp] theorem wrap64_6 : IntKind.i64.wrap 6 = 6 := rfl
@[simp] theorem wrap64_7 : IntKind.i64.wrap 7 = 7 := rfl
@[simp] theorem wrap64_8 : IntKind.i64.wrap 8 = 8 := rfl
@[simp] theorem wrap64_9 : IntKind.i64.wrap 9 = 9 := rfl
@[simp] theorem wrap64_10 : IntKind.i64.wrap 10 = 10 := rfl
@[simp] theorem wrap64_11 : IntKind.i64.wrap 11 = 11 := rfl
@[simp] theorem wrap64_12 : IntKind.i64.wrap 12 = 12 := rfl
@[simp] theorem wrap64_13 : IntKind.i64.wrap 13 = 13 := rfl
@[simp] theorem wrap64_14 : IntKind.i64.wrap 14 = 14 := rfl
@[simp] theorem wrap64_15 : IntKind.i64.wrap 15 = 15 := rfl
@[simp] theorem wrap64_16 : IntKind.i64.wrap 16 = 16 := rfl
end Go.Proofs.Ytalnoedhacobkaa.AI
