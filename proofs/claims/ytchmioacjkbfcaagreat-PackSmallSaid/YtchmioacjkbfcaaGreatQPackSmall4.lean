/- Texts that the proof of PackSmall rests on, part 4. -/
import Derived.Test.YtchmioacjkbfcaaGreatQPackSmall3
import Derived.Below
import Derived.ProofKit
import Derived.RowKit
import Derived.OpenShut
import Derived.ChangeOld
import Derived.SizedLaws
import Derived.Carry
import GoSem.Core.Float
import GoSem.Core.View
namespace Go.Proofs.YtchmioacjkbfcaaGreat.AI
open Go Go.RowKit
set_option linter.unusedVariables false
set_option linter.unusedSimpArgs false
def gh0 (W : World) : Gh where
 Om b := if b < W.heap.size then .oth else .fr
 I b := match W.heap[b]? with
  | some (.cells arr _ _) => arr.size
  | _ => 0
 mu _ _ := none
 la _ _ := none
theorem hpI0 (W : World) : HpI (gh0 W) W hp0 where
 heap b g cs h := by cases h
 next b g _ := rfl
 hlt b g cs h := by cases h
 new b hb := ⟨by simp [gh0]; omega, by simp [gh0, Array.getElem?_eq_none hb]⟩
 vars b hb := by
  exfalso
  rcases hb with ⟨k, g, h⟩ | ⟨k, g, h⟩ <;> simp only [gh0] at h <;> split at h <;> cases h
theorem fr_below {W W' : World} {G' : Gh} (h : Fr (gh0 W) W G' W') : Below W.heap.size W W' :=
 ⟨h.rest.1, h.rest.2.1, h.rest.2.2, h.size, fun k hk => (h.same k hk (.inr (by simp [gh0, hk]))).1⟩
theorem arg_sc (W : World) (v : Value) (h : v.oneCell' = true) : ArgR (gh0 W) W (.sc v) v := fun _ => RelR.sc v h
theorem cell_lt {W : World} {b i : Nat} {c : Value} (h : W.cell? ⟨b, i, none⟩ = some c) : i < (gh0 W).I b := by
 simp only [World.cell?] at h
 simp only [gh0]
 split at h
 ·rename_i arr t fz e
  rw [e]
  exact (Array.getElem?_eq_some_iff.mp (by simpa using h)).1
 ·cases h
theorem arg_sl {W : World} {a : Addr} {n cap sz : Nat} {cs : List AV} {vs : List Value} (hsz : 0 < sz) (hcs : cs.length = n * sz) (hlen : vs.length = cs.length) (hcap : n ≤ cap)
  (hcell : ∀ (i : Nat) (v : Value), vs[i]? = some v → W.cell? (a.add i) = some v) (hvl : ∀ x ∈ cs, vl x = true) (hrel : ∀ (i : Nat) (x : AV) (v : Value), cs[i]? = some x → vs[i]? = some v → RelR (gh0 W) W x v) :
  ArgR (gh0 W) W (.sl sz cs) (.slice (some a) n cap) := by
 intro p
 have key : RelR (gh0 W) W (.sl sz cs) (.slice (some a) n cap) := by
  by_cases hn : n = 0
  ·subst hn
   have : cs = [] := List.length_eq_zero_iff.mp (by simpa using hcs)
   subst this
   exact .sl0 sz a cap hsz
  ·obtain ⟨b, o, sp⟩ := a
   have hpos : 0 < vs.length := by rw [hlen, hcs]; exact Nat.mul_pos (Nat.pos_of_ne_zero hn) hsz
   have hsp : sp = none := by
    have h0 := hcell 0 vs[0] (List.getElem?_eq_getElem hpos)
    have e : (⟨b, o, sp⟩ : Addr).add 0 = ⟨b, o, sp⟩ := rfl
    rw [e] at h0
    simp only [World.cell?] at h0
    split at h0
    ·cases sp with
     | none => rfl
     | some q => simp at h0
    ·cases h0
   subst hsp
   have hc' : ∀ k c, vs[k]? = some c → W.cell? ⟨b, o + k, none⟩ = some c := fun k c hk => by rw [← qF]; exact hcell k c hk
   refine .sl sz cs n cap b o vs hsz (Nat.pos_of_ne_zero hn) hcs hcap ?_ hlen hc' hvl hrel
   have hl : vs.length - 1 < vs.length := by omega
   have := cell_lt (hc' (vs.length - 1) _ (List.getElem?_eq_getElem hl))
   omega
 exact (key.c (p 0)).v
theorem law_bool {c : Cx} (hc : Ok c ∧ DstOk c) {f : FuncId} {xs : List AV} {vs : List Value} {v : Value} {hp' : Hp} {W : World} (h : run c f xs hp0 = some (.sc v, hp')) (hl : xs.length = vs.length)
  (ha : ∀ (i : Nat) (x : AV) (u : Value), xs[i]? = some x → vs[i]? = some u → ArgR (gh0 W) W x u) : Calls c.P f vs.toArray W fun e W' => e = .returned v ∧ Below W.heap.size W W' := by
 refine (run_sound hc.1 hc.2 h (hpI0 W) hl ha).mono fun e W' hg => ?_
 obtain ⟨u, G', rfl, hf, _, hr⟩ := hg
 have hr' : RelR G' W' (.sc v) u := hr
 cases hr' with
 | sc _ _ => exact ⟨rfl, fr_below hf⟩
end Go.Proofs.YtchmioacjkbfcaaGreat.AI
namespace Go.Proofs.YtchmioacjkbfcaaGreat.AI
open Go
set_option linter.unusedVariables false
set_option linter.unusedSimpArgs false
set_option maxRecDepth 100000
set_option maxHeartbeats 0
section
variable (P : Program) (t : TypeId) (x y : Operand) (k k' : IntKind) (a b : Int)
theorem eqGuard_int (op : BinOp) : eqGuard op t x y (.int k a) (.int k' b) = pure () := by
 cases op <;> rfl
theorem zh (op : BinOp) (h : op ≠ .shl) (h' : op ≠ .shr) : binV P op t x y (.int k a) (.int k b) = one (qD P (match op with
  | .add | .sub | .mul => Op.intArith op k a b
  | .quo | .rem => Op.intDiv op k a b
  | .and | .or | .xor | .andNot => Op.intBits op k a b
  | _ => Op.intCmp op a b)) := by
 unfold binV
 rw [eqGuard_int]
 cases op <;> simp [Go.binOp] <;> first | rfl | exact absurd rfl h | exact absurd rfl h'
@[simp] theorem zR : binV P .add t x y (.int k a) (.int k b) = some (.int k (k.wrap (a + b))) := by rw [zh P t x y k a b .add (by decide) (by decide)]; rfl
@[simp] theorem yw : binV P .sub t x y (.int k a) (.int k b) = some (.int k (k.wrap (a - b))) := by rw [zh P t x y k a b .sub (by decide) (by decide)]; rfl
@[simp] theorem binV_mul : binV P .mul t x y (.int k a) (.int k b) = some (.int k (k.wrap (a * b))) := by rw [zh P t x y k a b .mul (by decide) (by decide)]; rfl
@[simp] theorem binV_eql : binV P .eql t x y (.int k a) (.int k b) = some (.bool (decide (a = b))) := by rw [zh P t x y k a b .eql (by decide) (by decide)]; show some (Value.bool (a == b)) = _; congr 2
@[simp] theorem binV_neq : binV P .neq t x y (.int k a) (.int k b) = some (.bool (!decide (a = b))) := by rw [zh P t x y k a b .neq (by decide) (by decide)]; show some (Value.bool (a != b)) = _; rfl
@[simp] theorem jI : binV P .lss t x y (.int k a) (.int k b) = some (.bool (decide (a < b))) := by rw [zh P t x y k a b .lss (by decide) (by decide)]; rfl
@[simp] theorem binV_leq : binV P .leq t x y (.int k a) (.int k b) = some (.bool (decide (a ≤ b))) := by rw [zh P t x y k a b .leq (by decide) (by decide)]; rfl
@[simp] theorem binV_gtr : binV P .gtr t x y (.int k a) (.int k b) = some (.bool (decide (a > b))) := by rw [zh P t x y k a b .gtr (by decide) (by decide)]; rfl
@[simp] theorem yU : binV P .geq t x y (.int k a) (.int k b) = some (.bool (decide (a ≥ b))) := by rw [zh P t x y k a b .geq (by decide) (by decide)]; rfl
theorem binV_quo (h : b ≠ 0) : binV P .quo t x y (.int k a) (.int k b) = some (.int k (k.wrap (a.tdiv b))) := by
 rw [zh P t x y k a b .quo (by decide) (by decide)]; simp only [Op.intDiv, h, if_false]; rfl
theorem qI (h : b ≠ 0) : binV P .rem t x y (.int k a) (.int k b) = some (.int k (a.tmod b)) := by
 rw [zh P t x y k a b .rem (by decide) (by decide)]; simp only [Op.intDiv, h, if_false]; rfl
@[simp] theorem qL : binV P .and t x y (.int k a) (.int k b) = some (.int k (k.wrap (BitVec.ofInt k.bits a &&& BitVec.ofInt k.bits b).toNat)) := by rw [zh P t x y k a b .and (by decide) (by decide)]; rfl
@[simp] theorem zT : binV P .or t x y (.int k a) (.int k b) = some (.int k (k.wrap (BitVec.ofInt k.bits a ||| BitVec.ofInt k.bits b).toNat)) := by rw [zh P t x y k a b .or (by decide) (by decide)]; rfl
@[simp] theorem yv : binV P .xor t x y (.int k a) (.int k b) = some (.int k (k.wrap (BitVec.ofInt k.bits a ^^^ BitVec.ofInt k.bits b).toNat)) := by rw [zh P t x y k a b .xor (by decide) (by decide)]; rfl
@[simp] theorem unV_not (c : Bool) : unV P .not (.bool c) = some (.bool !c) := rfl
@[simp] theorem qW (c : Bool) : asB (.bool c) = some c := rfl
@[simp] theorem asI_int : asI (.int k a) = some a := rfl
@[simp] theorem jV (v : Value) : asSc (.sc v) = some v := rfl
end
theorem qy {α β : Type} (P : Program) (s : Sem α) (f : α → Sem β) : qD P (s >>= f) = (qD P s).bind fun a => qD P (f a) := by
 show qD P (Sem.bind s f) = _
 induction s with
 | pure a => rfl
 | program k ih => simp only [Sem.bind, qD]; exact ih P
 | mark x k ih => simp only [Sem.bind, qD]; exact ih
 | _ => rfl
@[simp] theorem pureOf_pure {α : Type} (P : Program) (a : α) : qD P (pure a : Sem α) = some a := rfl
theorem eqGuard_str (P : Program) (t : TypeId) (x y : Operand) (op : BinOp) (a b : ByteArray) : eqGuard op t x y (.string a) (.string b) = pure () := by
 cases op <;> rfl
theorem ba_eq (a b : ByteArray) : (a.toList == b.toList) = decide (a.data.toList = b.data.toList) := by
 rw [ByteArray.toList_eq, ByteArray.toList_eq]
 by_cases h : a.data.toList = b.data.toList
 ·rw [h]; simp
 ·rw [decide_eq_false h]; exact beq_eq_false_iff_ne.mpr h
@[simp] theorem binV_seql (P : Program) (t : TypeId) (x y : Operand) (a b : ByteArray) : binV P .eql t x y (.string a) (.string b) = some (.bool (decide (a.data.toList = b.data.toList))) := by
 unfold binV
 rw [eqGuard_str P]
 show some (Value.bool (a.toList == b.toList)) = _
 rw [ba_eq]
@[simp] theorem binV_sneq (P : Program) (t : TypeId) (x y : Operand) (a b : ByteArray) : binV P .neq t x y (.string a) (.string b) = some (.bool (!decide (a.data.toList = b.data.toList))) := by
 unfold binV
 rw [eqGuard_str P]
 show some (Value.bool (!(a.toList == b.toList))) = _
 rw [ba_eq]
def Rd (sz : Nat) (x : AV) (cs : List AV) : Prop := x = .sl sz cs ∨ x = .us sz cs ∨ (x = .sc nil0 ∧ cs = [])
section
variable {sz : Nat} {x : AV} {cs : List AV}
theorem Rd.ro (h : Rd sz x cs) : Rd sz (AI.ro x) cs := by
 rcases h with rfl | rfl | ⟨rfl, rfl⟩
 ·exact .inl rfl
 ·exact .inl rfl
 ·exact .inr (.inr ⟨rfl, rfl⟩)
theorem Rd.ro1 (h : Rd sz x cs) : Rd sz (AI.ro1 x) cs := by
 rcases h with rfl | rfl | ⟨rfl, rfl⟩
 ·exact .inl rfl
 ·exact .inl rfl
 ·exact .inr (.inr ⟨rfl, rfl⟩)
theorem Rd.len (h : Rd 1 x cs) : lenA x = some cs.length := by
 rcases h with rfl | rfl | ⟨rfl, rfl⟩ <;> rfl
theorem Rd.idx (h : Rd 1 x cs) {k : IntKind} {z : Int} {i : Nat} {y : AV} (hz : z = (i : Int)) (hy : cs[i]? = some y) : idxA 1 x (.int k z) = some [y] := by
 subst hz
 have hlt := (List.getElem?_eq_some_iff.mp hy).1
 have key : ((AI.idx (if 1 = 1 then cs.length else cs.length / 1) (.int k (i : Int))).bind fun i => getN cs (i * 1) 1) = some [y] := by
  have hc : (0 : Int) ≤ (i : Int) ∧ (i : Int) < (cs.length : Int) := ⟨Int.natCast_nonneg i, by omega⟩
  simp only [if_true, AI.idx, asI, Option.bind_some, hc, and_self, Int.toNat_natCast, Nat.mul_one]
  unfold getN
  rw [if_pos (by omega)]
  congr 1
  obtain ⟨h1, h2⟩ := List.getElem?_eq_some_iff.mp hy
  rw [List.drop_eq_getElem_cons h1, h2]
  rfl
 rcases h with rfl | rfl | ⟨rfl, rfl⟩
 ·simp only [idxA, if_true]; simpa using key
 ·simp only [idxA, if_true]; simpa using key
 ·simp at hy
end
def Wd (sz : Nat) (x : AV) (cs : List AV) : Prop := x = .us sz cs ∨ (x = .sc nil0 ∧ cs = [])
theorem Wd.rd {sz : Nat} {x : AV} {cs : List AV} (h : Wd sz x cs) : Rd sz x cs := by
 rcases h with rfl | ⟨rfl, rfl⟩
 ·exact .inr (.inl rfl)
 ·exact .inr (.inr ⟨rfl, rfl⟩)
def Flat (ys : List AV) : Prop := ys.map ro1 = ys
theorem qg {z : Int} (h1 : -9223372036854775808 ≤ z) (h2 : z < 9223372036854775808) : IntKind.i64.wrap z = z := by
 rw [IntKind.wrap_i64]; omega
@[simp] theorem wrap64_0 : IntKind.i64.wrap 0 = 0 := rfl
@[simp] theorem wrap64_1 : IntKind.i64.wrap 1 = 1 := rfl
@[simp] theorem wrap64_2 : IntKind.i64.wrap 2 = 2 := rfl
@[simp] theorem wrap64_3 : IntKind.i64.wrap 3 = 3 := rfl
@[simp] theorem wrap64_4 : IntKind.i64.wrap 4 = 4 := rfl
@[simp] theorem wrap64_5 : IntKind.i64.wrap 5 = 5 := rfl
@[simp] theorem wrap64_6 : IntKind.i64.wrap 6 = 6 := rfl
@[simp] theorem wrap64_7 : IntKind.i64.wrap 7 = 7 := rfl
@[simp] theorem wrap64_8 : IntKind.i64.wrap 8 = 8 := rfl
@[simp] theorem wrap64_9 : IntKind.i64.wrap 9 = 9 := rfl
@[simp] theorem wrap64_10 : IntKind.i64.wrap 10 = 10 := rfl
@[simp] theorem wrap64_11 : IntKind.i64.wrap 11 = 11 := rfl
@[simp] theorem wrap64_12 : IntKind.i64.wrap 12 = 12 := rfl
@[simp] theorem wrap64_13 : IntKind.i64.wrap 13 = 13 := rfl
@[simp] theorem wrap64_14 : IntKind.i64.wrap 14 = 14 := rfl
@[simp] theorem wrap64_15 : IntKind.i64.wrap 15 = 15 := rfl
@[simp] theorem wrap64_16 : IntKind.i64.wrap 16 = 16 := rfl
def S (k sz : Nat) (cs : List AV) : AV :=
 match k with
 | 0 => .sl sz cs
 | 1 => .us sz cs
 | 2 => match cs with
  | [] => .sc nil0
  | _ => .us sz cs
 | _ => match cs with
  | [] => .sc nil0
  | _ => .sl sz cs
def rk : Nat → Nat
 | 0 => 0
 | 1 => 0
 | _ => 3
def tg (k : Nat) (cs : List AV) : Nat :=
 match cs with
 | [] => rk k
 | _ => 0
@[simp] theorem rk_rk (k : Nat) : rk (rk k) = rk k := by
 match k with
 | 0 => rfl
 | 1 => rfl
 | n + 2 => rfl
@[simp] theorem rk0 : rk 0 = 0 := rfl
@[simp] theorem rk1 : rk 1 = 0 := rfl
@[simp] theorem rk2 : rk 2 = 3 := rfl
@[simp] theorem rk3 : rk 3 = 3 := rfl
section
variable (k sz : Nat) (cs : List AV)
theorem zp : S k sz cs = .sl sz cs ∨ S k sz cs = .us sz cs ∨ (S k sz cs = .sc nil0 ∧ cs = []) := by
 unfold S
 match k, cs with
 | 0, _ => exact .inl rfl
 | 1, _ => exact .inr (.inl rfl)
 | 2, [] => exact .inr (.inr ⟨rfl, rfl⟩)
 | 2, _ :: _ => exact .inr (.inl rfl)
 | n + 3, [] => exact .inr (.inr ⟨rfl, rfl⟩)
 | n + 3, _ :: _ => exact .inl rfl
@[simp] theorem ro1_S : ro1 (S k sz cs) = S (rk k) sz cs := by
 match k, cs with
 | 0, _ => rfl
 | 1, _ => rfl
 | 2, [] => rfl
 | 2, _ :: _ => rfl
 | n + 3, [] => rfl
 | n + 3, _ :: _ => rfl
@[simp] theorem ro_S : ro (S k sz cs) = S (rk k) sz cs := by
 match k, cs with
 | 0, _ => rfl
 | 1, _ => rfl
 | 2, [] => rfl
 | 2, _ :: _ => rfl
 | n + 3, [] => rfl
 | n + 3, _ :: _ => rfl
theorem rd_S : Rd sz (S k sz cs) cs := zp k sz cs
@[simp] theorem lenA_S : lenA (S k 1 cs) = some cs.length := (rd_S k 1 cs).len
@[simp] theorem idxA_S (K : IntKind) (z : Int) : idxA 1 (S k 1 cs) (.int K z) = if 0 ≤ z then (cs[z.toNat]?).map fun c => [c] else none := by
 by_cases hz : 0 ≤ z
 ·rw [if_pos hz]
  cases h : cs[z.toNat]? with
  | some y => exact (rd_S k 1 cs).idx (by omega) h
  | none =>
   have hl : cs.length ≤ z.toNat := by simpa using h
   have hn : ¬(z < (cs.length : Int)) := by omega
   rcases zp k 1 cs with e | e | ⟨e, e'⟩
   ·rw [e]; simp [idxA, idx, asI, hn]
   ·rw [e]; simp [idxA, idx, asI, hn]
   ·rw [e]; rfl
 ·rw [if_neg hz]
  rcases zp k 1 cs with e | e | ⟨e, e'⟩
  ·rw [e]; simp [idxA, idx, asI, hz]
  ·rw [e]; simp [idxA, idx, asI, hz]
  ·rw [e]; rfl
@[simp] theorem cellsN_S : qh 1 (S k sz cs) = some [S k sz cs] := by
 rcases zp k sz cs with e | e | ⟨e, e'⟩ <;> rw [e] <;> rfl
@[simp] theorem noTup_S : qM (S k sz cs) = some () := by
 rcases zp k sz cs with e | e | ⟨e, e'⟩ <;> rw [e] <;> rfl
@[simp] theorem srcA_S : srcA sz (S k sz cs) = some cs := by
 rcases zp k sz cs with e | e | ⟨e, e'⟩
 ·rw [e]; simp [srcA]
 ·rw [e]; simp [srcA]
 ·rw [e, e']; rfl
@[simp] theorem us_S : AV.us sz cs = S 1 sz cs := rfl
@[simp] theorem sl_S : AV.sl sz cs = S 0 sz cs := rfl
end
@[simp] theorem nil_S1 : AV.sc (Value.slice none 0 0) = S 2 1 [] := rfl
@[simp] theorem S3_nil (sz : Nat) : S 3 sz [] = S 2 sz [] := rfl
theorem yM (k : Nat) (cs : List AV) (K : IntKind) (z : Int) (h : 0 ≤ z) (h' : z ≤ cs.length) : slcA 1 (S k 1 cs) (some (.int K z)) none none = some (S (tg k cs) 1 (cs.drop z.toNat)) := by
  obtain ⟨i, rfl⟩ : ∃ i : Nat, z = i := ⟨z.toNat, by omega⟩
  have hi : i ≤ cs.length := by omega
  have hb : ∀ n : Nat, i ≤ n → qH 0 (n : Int) (some (.int K (i : Int))) 0 = some i := by
    intro n hn
    have : (0 : Int) ≤ (i : Int) ∧ (i : Int) ≤ (n : Int) := ⟨Int.natCast_nonneg i, by omega⟩
    simp only [qH, asI, Option.bind_some, this, and_self, if_true, Int.toNat_natCast]
  have key : (cs.drop (i * 1)).take ((cs.length - i) * 1) = cs.drop i := by
    rw [Nat.mul_one, Nat.mul_one]
    exact List.take_of_length_le (by simp)
  have this := hb cs.length hi
  simp only [qH] at this
  have a : slcA 1 (.sl 1 cs) (some (.int K i)) none none = some (.sl 1 (cs.drop i)) := by
    simp only [slcA, if_true]
    show (qH 0 _ none _).bind _ = _
    simp only [qH, Option.bind_some]
    rw [this]
    simp only [Option.bind_some, key]
  have b : slcA 1 (.us 1 cs) (some (.int K i)) none none = some (.sl 1 (cs.drop i)) := by
    simp only [slcA, if_true]
    show (qH 0 _ none _).bind _ = _
    simp only [qH, Option.bind_some]
    rw [this]
    simp only [Option.bind_some, key]
  rw [Int.toNat_natCast]
  match k, cs with
  | 0, [] => exact a
  | 0, _ :: _ => exact a
  | 1, [] => exact b
  | 1, _ :: _ => exact b
  | 2, [] => obtain rfl : i = 0 := by simpa using hi
             rfl
  | 2, _ :: _ => exact b
  | n + 3, [] => obtain rfl : i = 0 := by simpa using hi
                 rfl
  | n + 3, _ :: _ => exact a
theorem appA_S (b sz k : Nat) (cs ys : List AV) (k' : Nat) (hk : k = 1 ∨ k = 2) (hf : Flat ys) (hfit : ys = [] ∨ fits b sz (cs.length + ys.length) = true) :
  appA b sz (S k sz cs) (S k' sz ys) = some (S k sz (cs ++ ys)) := by
 unfold appA appY
 rw [srcA_S]
 simp only [Option.bind_some]
 have hf' : ys.map ro1 = ys := hf
 match ys, hf', hfit with
 | [], _, _ =>
  rw [List.append_nil]
  rcases hk with rfl | rfl
  ·show (if sz = sz then some (AV.us sz cs) else none) = _
   rw [if_pos rfl]; rfl
  ·cases cs with
   | nil => rfl
   | cons c cs => exact if_pos rfl
 | y :: ys, hf', hfit =>
  have hfit : fits b sz (cs.length + (y :: ys).length) = true := hfit.resolve_left (by simp)
  rcases hk with rfl | rfl
  ·simp only [S, hf', hfit, Bool.and_true, decide_true, if_true]
  ·cases cs with
   | nil =>
    have h0 : fits b sz (y :: ys).length = true := by simpa using hfit
    simp only [S, hf', h0, isNil, nil0, Bool.and_true, if_true, List.nil_append]
   | cons c cs => simp only [S, hf', hfit, Bool.and_true, decide_true, if_true, List.cons_append]
theorem xl {b sz n : Nat} (hb : 0 < b) (h : n * b ≤ 140737488355328 * sz) : fits b sz n = true := by
 simp [fits, h, hb]
@[simp] theorem flat_one (v : Value) : Flat [.sc v] := rfl
theorem flat_map {α : Type} (f : α → Value) (l : List α) : Flat (l.map fun x => .sc (f x)) := by
 unfold Flat; rw [List.map_map]; rfl
@[simp] theorem ro1_sc (v : Value) : ro1 (.sc v) = .sc v := rfl
@[simp] theorem ro_sc (v : Value) : ro (.sc v) = .sc v := rfl
@[simp] theorem ro_agg (l : List AV) : ro (.agg l) = .agg (l.map ro1) := rfl
@[simp] theorem noTup_sc (v : Value) : qM (.sc v) = some () := rfl
@[simp] theorem noTup_agg (l : List AV) : qM (.agg l) = some () := rfl
@[simp] theorem vl_S (k sz : Nat) (cs : List AV) : vl (S k sz cs) = true := by
 rcases zp k sz cs with e | e | ⟨e, e'⟩ <;> rw [e] <;> rfl
@[simp] theorem vlF_S (k sz : Nat) (cs : List AV) : vlF (S k sz cs) = true := by
 rcases zp k sz cs with e | e | ⟨e, e'⟩ <;> rw [e] <;> rfl
@[simp] theorem vlV_S (k sz : Nat) (cs : List AV) : vlV (S k sz cs) = true := by
 rcases zp k sz cs with e | e | ⟨e, e'⟩ <;> rw [e] <;> rfl
@[simp] theorem vl_sc (v : Value) : vl (.sc v) = true := rfl
@[simp] theorem vlF_sc (v : Value) : vlF (.sc v) = true := rfl
@[simp] theorem vlV_sc (v : Value) : vlV (.sc v) = true := rfl
@[simp] theorem vlF_agg (l : List AV) : vlF (.agg l) = l.all vl := rfl
@[simp] theorem vlV_agg (l : List AV) : vlV (.agg l) = l.all vl := rfl
@[simp] theorem vlV_tup (l : List AV) : vlV (.tup l) = l.all vlF := rfl
@[simp] theorem vl_fn (f : FuncId) : vl (.fn f []) = true := rfl
@[simp] theorem vlF_fn (f : FuncId) : vlF (.fn f []) = true := rfl
@[simp] theorem okArgs_eq (xs caps : List AV) : qi xs caps = chk (xs.all vlF = true ∧ caps.all vl = true) := rfl
@[simp] theorem xm (a b : Nat) : chkN a b = chk (a = b) := rfl
@[simp] theorem chkB_eq (b : Bool) : chkB b = chk (b = true) := rfl
@[simp] theorem okV_eq (cs : List AV) : okV cs = chk (cs.all vl = true) := rfl
@[simp] theorem tN_eq (n : Int) : tN n = n.toNat := rfl
theorem okMake_ok {b z : Nat} {n : Int} (h0 : 0 ≤ n) (hf : n.toNat * b ≤ 140737488355328) (hb : 0 < b) (hz : 0 < z) : okMake b z n n = some () :=
 if_pos ⟨rfl, h0, by simp [fits]; omega, hz⟩
@[simp] theorem okRes_eq (y : AV) : qm y = chk (vlV y = true) := rfl
theorem chk_ok {p : Prop} [Decidable p] (h : p) : chk p = some () := if_pos h
@[simp] theorem yq : chk True = some () := rfl
@[simp] theorem chk_eq {α : Type} [DecidableEq α] (a : α) : chk (a = a) = some () := if_pos rfl
@[simp] theorem aggX_agg (l : List AV) : aggX (.agg l) = some l := rfl
@[simp] theorem chkTup_tup (n : Nat) (l : List AV) : qo n (.tup l) = if l.length = n then some () else none := rfl
@[simp] theorem nthA_tup (l : List AV) (i : Nat) : nthA (.tup l) i = l.getD i (.tup []) := rfl
theorem okRes_sc (v : Value) : qm (.sc v) = some () := by rw [okRes_eq]; exact if_pos (by simp)
@[simp] theorem chk_and2 : chk (True ∧ True) = some () := rfl
@[simp] theorem cellsN_agg (n : Nat) (l : List AV) : qh n (.agg l) = if l.length = n then some l else none := rfl
@[simp] theorem asSc_nil : asSc (.sc nil0) = some nil0 := rfl
theorem qr {α : Type} {l : List α} {i : Nat} {x : α} {r : List α} (h : l.drop i = x :: r) : l[i]? = some x ∧ l.drop (i + 1) = r ∧ ∃ h : i < l.length, l[i] = x := by
 have hi : i < l.length := by
  by_cases hi : i < l.length
  ·exact hi
  ·rw [List.drop_eq_nil_of_le (by omega)] at h; cases h
 rw [List.drop_eq_getElem_cons hi] at h
 injection h with h1 h2
 exact ⟨by rw [List.getElem?_eq_getElem hi, h1], h2, hi, h1⟩
theorem qw {α : Type} {l : List α} {i : Nat} (h : l.drop i = []) : l.length ≤ i := by simpa using h
def LI (K : IntKind) (l : List Int) : List AV := l.map fun n => .sc (.int K n)
section
variable (K : IntKind) (l : List Int)
theorem flatI : Flat (LI K l) := flat_map _ l
@[simp] theorem vlI : (LI K l).all vl = true := by simp [LI, List.all_map]
@[simp] theorem lenI : (LI K l).length = l.length := by simp [LI]
@[simp] theorem getI? (i : Nat) : (LI K l)[i]? = (l[i]?).map fun n => .sc (.int K n) := by simp [LI]
@[simp] theorem getI (i : Nat) (h : i < (LI K l).length) : (LI K l)[i] = .sc (.int K (l[i]'(by simpa using h))) := by simp [LI]
@[simp] theorem dropI (i : Nat) : (LI K l).drop i = LI K (l.drop i) := by simp [LI]
@[simp] theorem tailI : (LI K l).tail = LI K l.tail := by simp [LI]
@[simp] theorem nilI : LI K [] = [] := rfl
theorem appI (k : Nat) (hk : k = 1 ∨ k = 2) (b : Nat) (hb : 0 < b ∧ b ≤ 1000) (n : Int) (h : l.length ≤ 1000000) : appA b 1 (S k 1 (LI K l)) (S 1 1 [.sc (.int K n)]) = some (S k 1 (LI K (l ++ [n]))) := by
 rw [appA_S b 1 k _ _ 1 hk (flat_one _) (.inr (xl hb.1 ?_))]
 ·simp [LI]
 ·simp only [lenI, List.length_cons, List.length_nil]
  have : (l.length + (0 + 1)) * b ≤ 1000001 * 1000 := Nat.mul_le_mul (by omega) hb.2
  omega
theorem appsI (k : Nat) (hk : k = 1 ∨ k = 2) (b : Nat) (hb : 0 < b ∧ b ≤ 1000) (k' : Nat) (m : List Int) (h : l.length + m.length ≤ 1000000) : appA b 1 (S k 1 (LI K l)) (S k' 1 (LI K m)) = some (S k 1 (LI K (l ++ m))) := by
 rw [appA_S b 1 k _ _ k' hk (flatI _ _) (.inr (xl hb.1 ?_))]
 ·simp [LI]
 ·simp only [lenI]
  have : (l.length + m.length) * b ≤ 1000000 * 1000 := Nat.mul_le_mul (by omega) hb.2
  omega
end
section
variable (P : Program) (t : TypeId) (x y : Operand) (k k' : IntKind) (a b : Int)
theorem zK (h : 0 ≤ b) : binV P .shr t x y (.int k a) (.int k' b) = some (.int k (a.fdiv (2 ^ (min b.toNat k.bits)))) := by
 unfold binV
 rw [eqGuard_int]
 simp only [Go.binOp, Op.shift]
 rw [if_neg (by omega)]
 rfl
theorem zL (h : 0 ≤ b) : binV P .shl t x y (.int k a) (.int k' b) = some (.int k (k.wrap (a * 2 ^ (min b.toNat k.bits)))) := by
 unfold binV
 rw [eqGuard_int]
 simp only [Go.binOp, Op.shift]
 rw [if_neg (by omega)]
 rfl
end
theorem zt {z : Int} (h1 : 0 ≤ z) (h2 : z < 256) : IntKind.u8.wrap z = z := by rw [IntKind.wrap_u8]; omega
theorem zi {z : Int} (h1 : 0 ≤ z) (h2 : z < 4294967296) : IntKind.u32.wrap z = z := by rw [IntKind.wrap_u32]; omega
theorem qt {z : Int} (h1 : 0 ≤ z) (h2 : z < 18446744073709551616) : IntKind.u64.wrap z = z := by rw [IntKind.wrap_u64]; omega
theorem qG {a b : Int} (h : 0 ≤ a) : a.tmod b = a % b := Int.tmod_eq_emod_of_nonneg h
@[simp] theorem bltV_max (P : Program) (ts : Array TypeId) (t : TypeId) (k k' : IntKind) (a b : Int) : bltV P .max ts t [.int k a, .int k' b] = some (.int k (max a b)) := by
 show some (Value.int k (if b > a then b else a)) = _
 congr 2
 split <;> omega
@[simp] theorem bltV_min (P : Program) (ts : Array TypeId) (t : TypeId) (k k' : IntKind) (a b : Int) : bltV P .min ts t [.int k a, .int k' b] = some (.int k (min a b)) := by
 show some (Value.int k (if b < a then b else a)) = _
 congr 2
 split <;> omega
@[simp] theorem yl (b g o n z : Nat) : qR (.ms b g o n z) = some (b, g, o, n, z) := rfl
@[simp] theorem ro_ms (b g o n z : Nat) : ro (.ms b g o n z) = .ms b g o n z := rfl
@[simp] theorem ro1_ms (b g o n z : Nat) : ro1 (.ms b g o n z) = .ms b g o n z := rfl
@[simp] theorem lenA_ms (b g o n z : Nat) : lenA (.ms b g o n z) = some n := rfl
@[simp] theorem cellsN_ms (b g o n z : Nat) : qh 1 (.ms b g o n z) = some [.ms b g o n z] := rfl
@[simp] theorem noTup_ms (b g o n z : Nat) : qM (.ms b g o n z) = some () := rfl
theorem zr {n i : Nat} (K : IntKind) (h : i < n) : idx n (.int K (i : Int)) = some i := by
 have h1 : (i : Int) < (n : Int) := by omega
 simp [idx, h1]
theorem qB (hp : Hp) (cs : List AV) : (hp.new cs).rd hp.next 0 = some cs := by simp [Hp.rd, Hp.new]
theorem qp (hp : Hp) (b : Nat) (cs : List AV) : (hp.put b 0 cs).rd b 0 = some cs := by simp [Hp.rd, Hp.put]
theorem putN_I (K : IntKind) (l : List Int) (i : Nat) (n : Int) (h : i < l.length) : putN (LI K l) i [.sc (.int K n)] = some (LI K (l.set i n)) := by
 unfold putN
 rw [if_pos (by simp; omega)]
 congr 1
 apply List.ext_getElem?
 intro j
 simp only [List.length_cons, List.length_nil, LI, List.getElem?_map, List.getElem?_append, List.length_append, List.length_take, List.length_map, List.getElem?_take, List.getElem?_drop, List.getElem?_set, List.length_cons, List.length_nil]
 by_cases h1 : j < i
 ·have e1 : j < min i l.length + (0 + 1) := by omega
  have e2 : j < min i l.length := by omega
  have e3 : ¬(i = j) := by omega
  simp [e1, e2, e3, h1]
 ·by_cases h2 : j = i
  ·subst h2
   have e2 : ¬(j < min j l.length) := by omega
   have e3 : j - min j l.length = 0 := by omega
   have e4 : min j l.length = j := by omega
   simp [e2, e3, e4, h]
  ·have e1 : ¬(j < min i l.length + (0 + 1)) := by omega
   have e2 : ¬(i = j) := by omega
   have e3 : i + (0 + 1) + (j - (min i l.length + (0 + 1))) = j := by omega
   have e4 : ¬(j < min i l.length) := by omega
   simp only [e1, e2, e3, if_false]
theorem getN_all (cs : List AV) : getN cs 0 cs.length = some cs := by simp [getN]
theorem frz1_ms (hp : Hp) (b : Nat) (cs : List AV) (hb : hp.rd b 0 = some cs) (hv : cs.all vl = true) : frz1 hp (.ms b 0 0 cs.length 1) = some (.sl 1 (cs.map ro1), hp.del b) := by
 have e : getN cs 0 (cs.length * 1) = some cs := by rw [Nat.mul_one]; exact getN_all cs
 simp only [frz1, hb, Option.bind_some, e, hv, chk]
 rfl
theorem frz1_I (K : IntKind) (l : List Int) (hp : Hp) (b : Nat) (hb : hp.rd b 0 = some (LI K l)) : frz1 hp (.ms b 0 0 l.length 1) = some (S 0 1 (LI K l), hp.del b) := by
 have h := frz1_ms hp b (LI K l) hb (vlI K l)
 rw [lenI] at h
 rw [h, flatI K l]
 rfl
@[simp] theorem frz1_S (k sz : Nat) (cs : List AV) (hp : Hp) : frz1 hp (S k sz cs) = some (S k sz cs, hp) := by
 rcases zp k sz cs with e | e | ⟨e, e'⟩ <;> rw [e] <;> rfl
@[simp] theorem frz1_sc (v : Value) (hp : Hp) : frz1 hp (.sc v) = some (.sc v, hp) := rfl
@[simp] theorem frzL_nil (hp : Hp) : frzL hp [] = some ([], hp) := rfl
@[simp] theorem frzL_cons (hp : Hp) (x : AV) (r : List AV) : frzL hp (x :: r) = (frz1 hp x).bind fun p => (frzL p.2 r).bind fun q => some (p.1 :: q.1, q.2) := rfl
@[simp] theorem many_one (cs : List AV) : many 1 cs = cs.length := rfl
theorem srcM_S (hp : Hp) (k sz : Nat) (cs : List AV) : srcM hp sz (S k sz cs) = some cs := by
 unfold srcM
 rcases zp k sz cs with e | e | ⟨e, e'⟩ <;> rw [e]
 ·simp [qR, srcA]
 ·simp [qR, srcA]
 ·simp [qR, srcA, e', nil0]
theorem xn (K : IntKind) (l : List Int) (k : Nat) (b : Nat) (hb : 0 < b ∧ b ≤ 1000) (hl : l.length ≤ 1000000) (hne : l ≠ []) (hp : Hp) : appM b 1 (S 1 1 []) (S k 1 (LI K l)) hp = some (.ms hp.next 0 0 l.length 1, hp.new (LI K l)) := by
 unfold appM
 rw [srcM_S]
 simp only [Option.bind_some]
 cases l with
 | nil => exact absurd rfl hne
 | cons x l =>
  have hf : fits b 1 (LI K (x :: l)).length = true := xl hb.1 (by
   rw [lenI]
   have : (x :: l).length * b ≤ 1000000 * 1000 := Nat.mul_le_mul hl hb.2
   omega)
  have e : LI K (x :: l) = .sc (.int K x) :: LI K l := rfl
  rw [e] at hf ⊢
  show (chk (1 = 1 ∧ fits b 1 (AV.sc (Value.int K x) :: LI K l).length = true)).bind _ = _
  rw [chk_ok ⟨rfl, hf⟩]
  simp [lenI]
theorem appM_nil (b : Nat) (k : Nat) (hp : Hp) : appM b 1 (S 1 1 []) (S k 1 []) hp = some (S 1 1 [], hp) := by
 unfold appM
 rw [srcM_S]
 rfl
theorem appM_one (K : IntKind) (l : List Int) (n : Int) (b x : Nat) (hb : 0 < b ∧ b ≤ 1000) (hl : l.length ≤ 1000000) (hne : l ≠ []) (hp : Hp) (hx : hp.rd x 0 = some (LI K l)) :
  appM b 1 (.ms x 0 0 l.length 1) (S 1 1 [.sc (.int K n)]) hp = some (.ms hp.next 0 0 (l.length + 1) 1, (hp.del x).new (LI K (l ++ [n]))) := by
 have hpos : 0 < l.length := List.length_pos_iff.mpr hne
 have hf : fits b 1 (l.length * 1 + 1) = true := xl hb.1 (by
  have : (l.length * 1 + 1) * b ≤ 1000001 * 1000 := Nat.mul_le_mul (by omega) hb.2
  omega)
 unfold appM
 rw [srcM_S]
 simp only [Option.bind_some, hx, List.length_cons, List.length_nil, many_one]
 rw [chk_ok (by simp [hpos])]
 simp only [Option.bind_some]
 rw [chk_ok ⟨by rw [lenI]; omega, hf⟩]
 have e : ((LI K l).take (l.length * 1)).map ro1 ++ [AV.sc (.int K n)] = LI K (l ++ [n]) := by
  rw [Nat.mul_one, List.take_of_length_le (by simp), flatI]
  simp [LI]
 simp only [Option.bind_some, e]
theorem appM_first (K : IntKind) (n : Int) (b : Nat) (hb : 0 < b ∧ b ≤ 1000) (hp : Hp) : appM b 1 (S 2 1 []) (S 1 1 [.sc (.int K n)]) hp = some (.ms hp.next 0 0 1 1, hp.new (LI K [n])) := by
 have hf : fits b 1 1 = true := xl hb.1 (by omega)
 unfold appM
 rw [srcM_S]
 show (chk (isNil nil0 = true ∧ fits b 1 1 = true)).bind _ = _
 rw [chk_ok ⟨rfl, hf⟩]
 rfl
theorem zeros_I (K : IntKind) (n : Nat) : zerosA (n : Int) [.int K 0] = LI K (List.replicate n 0) := by
 unfold zerosA LI
 rw [Int.toNat_natCast]
 induction n with
 | zero => rfl
 | succ n ih =>
  rw [List.replicate_succ, List.replicate_succ, List.flatten_cons, ih]
  rfl
@[simp] theorem bound_none (lo hi : Int) (d : Nat) : qH lo hi none d = some d := rfl
theorem bound_nat {hi d n : Nat} (K : IntKind) (h : n ≤ hi) : qH 0 (hi : Int) (some (.int K (n : Int))) d = some n := by
 have h1 : (n : Int) ≤ (hi : Int) := by omega
 simp [qH, h1]
theorem getN_I (K : IntKind) (l : List Int) (i n : Nat) (h : i + n ≤ l.length) : getN (LI K l) i n = some (LI K ((l.drop i).take n)) := by
 unfold getN
 rw [if_pos (by simpa using h)]
 simp [LI, List.map_drop, List.map_take]
theorem putNs_I (K : IntKind) (l m : List Int) (i : Nat) (h : i + m.length ≤ l.length) : putN (LI K l) i (LI K m) = some (LI K (l.take i ++ m ++ l.drop (i + m.length))) := by
 unfold putN
 rw [if_pos (by simpa using h)]
 simp [LI, List.map_drop, List.map_take]
theorem takeI (K : IntKind) (l : List Int) (n : Nat) : (LI K l).take n = LI K (l.take n) := by simp [LI, List.map_take]
theorem srcM_ms (K : IntKind) (l : List Int) (hp : Hp) (b o n : Nat) (hb : hp.rd b 0 = some (LI K l)) (h : o + n ≤ l.length) : srcM hp 1 (.ms b 0 o n 1) = some (LI K ((l.drop o).take n)) := by
 unfold srcM
 have e := getN_I K l o n h
 have e1 : chk (1 = 1 ∧ 0 < 1) = some () := chk_ok ⟨rfl, by decide⟩
 show (chk (1 = 1 ∧ 0 < 1)).bind _ = _
 rw [e1]
 simp only [Option.bind_some, hb, Nat.mul_one, e]
 rw [flatI]
theorem sameG_ok {q : AV × Nat} {g g' : Nat → Option (Nat × List AV)} (h : seeG q g = seeG q g') : sameG q g g' = some () := by
 unfold sameG
 exact if_pos h
@[simp] theorem sameG_self (q : AV × Nat) (g : Nat → Option (Nat × List AV)) : sameG q g g = some () := sameG_ok rfl
theorem appM_freshM (K : IntKind) (l : List Int) (x : AV) (b : Nat) (hb : 0 < b ∧ b ≤ 1000) (hl : l.length ≤ 1000000) (hne : l ≠ []) (hp : Hp) (hx : srcM hp 1 x = some (LI K l)) : appM b 1 (S 1 1 []) x hp = some (.ms hp.next 0 0 l.length 1, hp.new (LI K l)) := by
 have h := xn K l 0 b hb hl hne hp
 unfold appM at h ⊢
 rw [srcM_S] at h
 rw [hx]
 exact h
theorem srcM_all (K : IntKind) (l : List Int) (hp : Hp) (b : Nat) (hb : hp.rd b 0 = some (LI K l)) : srcM hp 1 (.ms b 0 0 l.length 1) = some (LI K l) := by
 have h := srcM_ms K l hp b 0 l.length hb (by omega)
 rwa [List.drop_zero, List.take_of_length_le (Nat.le_refl _)] at h
end Go.Proofs.YtchmioacjkbfcaaGreat.AI
namespace Go.Proofs.YtchmioacjkbfcaaGreat.AI
open Go Go.RowKit Go.ChangeShapes Go.WideShapes Go.ChangeAt
set_option linter.unusedVariables false
set_option linter.unusedSimpArgs false
def InK (k : IntKind) (n : Int) : Prop := (Lit.int k n).wf = true
theorem InK.le {k : IntKind} {n : Int} (h : InK k n) : k.min ≤ n ∧ n ≤ k.max := by
 simpa [InK, Lit.wf] using h
theorem InK.u8 {n : Int} (h : InK .u8 n) : 0 ≤ n ∧ n < 256 := by
 have := h.le; simp [IntKind.min, IntKind.max, IntKind.signed, IntKind.bits] at this; omega
theorem InK.u16 {n : Int} (h : InK .u16 n) : 0 ≤ n ∧ n < 65536 := by
 have := h.le; simp [IntKind.min, IntKind.max, IntKind.signed, IntKind.bits] at this; omega
theorem InK.u32 {n : Int} (h : InK .u32 n) : 0 ≤ n ∧ n < 4294967296 := by
 have := h.le; simp [IntKind.min, IntKind.max, IntKind.signed, IntKind.bits] at this; omega
theorem InK.u64 {n : Int} (h : InK .u64 n) : 0 ≤ n ∧ n < 18446744073709551616 := by
 have := h.le; simp [IntKind.min, IntKind.max, IntKind.signed, IntKind.bits] at this; omega
theorem InK.i64 {n : Int} (h : InK .i64 n) : -9223372036854775808 ≤ n ∧ n < 9223372036854775808 := by
 have := h.le; simp [IntKind.min, IntKind.max, IntKind.signed, IntKind.bits] at this; omega
def ArgsR (W : World) (xs : List AV) (vs : List Value) : Prop := xs.length = vs.length ∧ ∀ (i : Nat) (x : AV) (u : Value), xs[i]? = some x → vs[i]? = some u → ArgR (gh0 W) W x u
theorem ArgsR.nil (W : World) : ArgsR W [] [] := ⟨rfl, by simp⟩
theorem ArgsR.cons {W : World} {x : AV} {v : Value} {xs : List AV} {vs : List Value} (h : ArgR (gh0 W) W x v) (t : ArgsR W xs vs) : ArgsR W (x :: xs) (v :: vs) := by
 refine ⟨by simp [t.1], fun i y u hx hu => ?_⟩
 cases i with
 | zero =>
  simp at hx hu
  subst hx hu
  exact h
 | succ i => exact t.2 i y u (by simpa using hx) (by simpa using hu)
theorem law_args {c : Cx} (hc : Ok c ∧ DstOk c) {f : FuncId} {xs : List AV} {vs : List Value} {v : Value} {hp' : Hp} {W : World} (ha : ArgsR W xs vs) (h : run c f xs hp0 = some (.sc v, hp')) : Calls c.P f vs.toArray W fun e W' => e = .returned v ∧ Below W.heap.size W W' :=
 law_bool hc h ha.1 ha.2
section
variable {H : Type} {enc : TypeId × Value → H} {P : Program} {W : World} {fuel : Nat} {t e : TypeId} {cs : List Value} {y : DataW H × List MemPlace} {K : IntKind}
theorem rd_int (ht : P.underlying t = some (.int K)) (h : DataW.trod enc P W 0 (fun _ => true) true fuel t cs = some y) : ∃ n, cs = [.int K n] ∧ InK K n := by
 obtain ⟨n, h1, h2, h3⟩ := DataW.trod_int ht h
 exact ⟨n, h1, h3⟩
theorem rd_bool (ht : P.underlying t = some .bool) (h : DataW.trod enc P W 0 (fun _ => true) true fuel t cs = some y) : ∃ b : Bool, cs = [.bool b] := by
 obtain ⟨n, h1, h2⟩ := DataW.trod_bool ht h
 exact ⟨n, h1⟩
theorem relR_ints {a : Addr} {len cap : Nat} {zs : List Int} (hl : len ≤ cap) (hz : zs.length = cap) (hcell : ∀ i, i < zs.length → W.cell? (a.add i) = some (.int K (zs.getD i 0))) :
    RelR (gh0 W) W (S 0 1 (LI K (zs.take len))) (.slice (some a) len cap) := by
  have hg : ∀ i, i < zs.length → zs.getD i 0 = zs[i]?.getD 0 := fun i _ => by simp
  have := arg_sl (W := W) (a := a) (n := len) (cap := cap) (sz := 1) (cs := LI K (zs.take len)) (vs := (zs.take len).map fun n => .int K n) (by omega) (by simp; omega) (by simp) hl
    (fun i v hv => by
      simp only [List.getElem?_map, Option.map_eq_some_iff] at hv
      obtain ⟨n, hn, rfl⟩ := hv
      have hi : i < (zs.take len).length := (List.getElem?_eq_some_iff.mp hn).1
      simp at hi
      rw [hcell i (by omega)]
      rw [List.getElem?_take_of_lt (by omega)] at hn
      simp [hn])
    (fun x hx => by
      obtain ⟨n, _, rfl⟩ := List.mem_map.mp hx
      rfl)
    (fun i x v hx hv => by
      simp only [LI, List.getElem?_map, Option.map_eq_some_iff] at hx hv
      obtain ⟨n, hn, rfl⟩ := hx
      obtain ⟨m, hm, rfl⟩ := hv
      rw [hn] at hm
      cases hm
      exact .sc _ rfl)
  exact this (fun _ => .fr)
theorem rd_ints (ht : P.underlying t = some (.slice e)) (he : P.underlying e = some (.int K)) (hc : P.cellsOf e = 1) (h : DataW.trod enc P W 0 (fun _ => true) true fuel t cs = some y) :
  ∃ k l v, cs = [v] ∧ RelR (gh0 W) W (S k 1 (LI K l)) v ∧ (k = 0 ∨ (k = 2 ∧ l = [])) ∧ ∀ n ∈ l, InK K n := by
 rcases open_ints ht he hc h with ⟨hcs, _⟩ | ⟨a, len, cap, zs, hcs, _, hl, hm, hz, _, hcell, hwz⟩
 ·exact ⟨2, [], _, hcs, .sc nil0 rfl, .inr ⟨rfl, rfl⟩, by simp⟩
 ·exact ⟨0, zs.take len, _, hcs, relR_ints hl (by simpa using hz) hcell, .inl rfl, fun n hn => hwz n (List.mem_of_mem_take hn)⟩
theorem arg_agg {xs : List AV} {vs : List Value} (hl : xs.length = vs.length) (h : ∀ (i : Nat) (x : AV) (v : Value), xs[i]? = some x → vs[i]? = some v → RelR (gh0 W) W x v) : ArgR (gh0 W) W (.agg xs) (.agg vs.toArray) :=
 fun p => ⟨vs, rfl, hl, fun i x v hx hv => (h i x v hx hv).c (p i)⟩
theorem cells_nil : ∀ (i : Nat) (x : AV) (v : Value), ([] : List AV)[i]? = some x → ([] : List Value)[i]? = some v → RelR (gh0 W) W x v := by simp
theorem cells_cons {x : AV} {v : Value} {xs : List AV} {vs : List Value} (h : RelR (gh0 W) W x v) (t : ∀ (i : Nat) (x : AV) (v : Value), xs[i]? = some x → vs[i]? = some v → RelR (gh0 W) W x v) :
  ∀ (i : Nat) (y : AV) (u : Value), (x :: xs)[i]? = some y → (v :: vs)[i]? = some u → RelR (gh0 W) W y u := by
 intro i y u hx hu
 cases i with
 | zero =>
  simp at hx hu
  subst hx hu
  exact h
 | succ i => exact t i y u (by simpa using hx) (by simpa using hu)
end
theorem cell_at {l : List Value} {o n : Nat} {a : Value} (h : (l.drop o).take n = [a]) : l[o]? = some a := by
 have h0 : ((l.drop o).take n)[0]? = some a := by rw [h]; rfl
 have hn : 0 < n := by
  cases n with
  | zero => simp at h
  | succ n => omega
 rw [List.getElem?_take_of_lt hn] at h0
 simpa using h0
theorem list_eq7 {l : List Value} {a0 a1 a2 a3 a4 a5 a6 : Value} (h : l.length = 7) (h0 : l[0]? = some a0) (h1 : l[1]? = some a1) (h2 : l[2]? = some a2) (h3 : l[3]? = some a3) (h4 : l[4]? = some a4) (h5 : l[5]? = some a5) (h6 : l[6]? = some a6) : l = [a0, a1, a2, a3, a4, a5, a6] := by
 apply List.ext_getElem?
 intro i
 match i with
 | 0 => rw [h0]; rfl
 | 1 => rw [h1]; rfl
 | 2 => rw [h2]; rfl
 | 3 => rw [h3]; rfl
 | 4 => rw [h4]; rfl
 | 5 => rw [h5]; rfl
 | 6 => rw [h6]; rfl
 | i + 7 => rw [List.getElem?_eq_none (by omega), List.getElem?_eq_none (by simp)]
end Go.Proofs.YtchmioacjkbfcaaGreat.AI
namespace Go.Proofs.YtchmioacjkbfcaaGreat.AI
open Go
set_option linter.unusedVariables false
set_option linter.unusedSimpArgs false
set_option maxRecDepth 100000
set_option maxHeartbeats 0
def nbs (n : Nat) : Nat → List Bool
 | 0 => []
 | k + 1 => n.testBit k :: nbs n k
def una (n : Nat) : List Bool := List.replicate n true ++ [false]
def by8 (l : List Bool) (s : Nat) : Nat :=
 (l.getD s false).toNat * 128 + (l.getD (s + 1) false).toNat * 64 + (l.getD (s + 2) false).toNat * 32 + (l.getD (s + 3) false).toNat * 16
  + (l.getD (s + 4) false).toNat * 8 + (l.getD (s + 5) false).toNat * 4 + (l.getD (s + 6) false).toNat * 2 + (l.getD (s + 7) false).toNat
def pk (l : List Bool) : List Int := (List.range ((l.length + 7) / 8)).map fun i => (by8 l (8 * i) : Int)
def bitAt (b : List Int) (i : Nat) : Bool := (b.getD (i / 8) 0).toNat.testBit (7 - i % 8)
@[simp] theorem nbs_len (n k : Nat) : (nbs n k).length = k := by
 induction k with
 | zero => rfl
 | succ k ih => simp [nbs, ih]
@[simp] theorem una_len (n : Nat) : (una n).length = n + 1 := by simp [una]
@[simp] theorem jL (l : List Bool) : (pk l).length = (l.length + 7) / 8 := by simp [pk]
theorem pk_nil : pk [] = [] := rfl
theorem b2n (b : Bool) : b.toNat ≤ 1 := by cases b <;> decide
theorem by8_lt (l : List Bool) (s : Nat) : by8 l s < 256 := by
 unfold by8
 have := b2n (l.getD s false); have := b2n (l.getD (s + 1) false); have := b2n (l.getD (s + 2) false); have := b2n (l.getD (s + 3) false)
 have := b2n (l.getD (s + 4) false); have := b2n (l.getD (s + 5) false); have := b2n (l.getD (s + 6) false); have := b2n (l.getD (s + 7) false)
 omega
theorem pk_getD (l : List Bool) (i : Nat) (h : i < (l.length + 7) / 8) : (pk l).getD i 0 = (by8 l (8 * i) : Int) := by
 unfold pk
 rw [List.getD_eq_getElem?_getD, List.getElem?_map, List.getElem?_range h]
 rfl
theorem pk_rng {l : List Bool} {x : Int} (h : x ∈ pk l) : 0 ≤ x ∧ x < 256 := by
 unfold pk at h
 obtain ⟨i, _, rfl⟩ := List.mem_map.mp h
 have := by8_lt l (8 * i)
 omega
theorem by8_bits (a b c d e f g h : Bool) (k : Nat) (hk : k < 8) :
  (a.toNat * 128 + b.toNat * 64 + c.toNat * 32 + d.toNat * 16 + e.toNat * 8 + f.toNat * 4 + g.toNat * 2 + h.toNat).testBit (7 - k) = [a, b, c, d, e, f, g, h].getD k false := by
 have : k = 0 ∨ k = 1 ∨ k = 2 ∨ k = 3 ∨ k = 4 ∨ k = 5 ∨ k = 6 ∨ k = 7 := by omega
 rcases this with r | r | r | r | r | r | r | r <;> subst r <;> revert a b c d e f g h <;> decide
theorem bitAt_pk (l : List Bool) (i : Nat) (h : i < l.length) : bitAt (pk l) i = l.getD i false := by
 unfold bitAt
 rw [pk_getD l (i / 8) (by omega), Int.toNat_natCast]
 unfold by8
 rw [by8_bits _ _ _ _ _ _ _ _ _ (by omega)]
 have hi : i = 8 * (i / 8) + i % 8 := by omega
 generalize hq : 8 * (i / 8) = q at *
 have : i % 8 = 0 ∨ i % 8 = 1 ∨ i % 8 = 2 ∨ i % 8 = 3 ∨ i % 8 = 4 ∨ i % 8 = 5 ∨ i % 8 = 6 ∨ i % 8 = 7 := by omega
 rcases this with r | r | r | r | r | r | r | r <;> (rw [r] at hi ⊢; rw [hi]; rfl)
theorem bitAt_pk_end (l : List Bool) (i : Nat) (h : l.length ≤ i) : bitAt (pk l) i = false := by
 unfold bitAt
 by_cases h1 : i / 8 < (l.length + 7) / 8
 ·rw [pk_getD l (i / 8) h1, Int.toNat_natCast]
  unfold by8
  rw [by8_bits _ _ _ _ _ _ _ _ _ (by omega)]
  have hi : i = 8 * (i / 8) + i % 8 := by omega
  have hz : ∀ j, l.length ≤ j → l.getD j false = false := fun j hj => by
   rw [List.getD_eq_getElem?_getD, List.getElem?_eq_none hj]; rfl
  generalize hq : 8 * (i / 8) = q at *
  have : i % 8 = 0 ∨ i % 8 = 1 ∨ i % 8 = 2 ∨ i % 8 = 3 ∨ i % 8 = 4 ∨ i % 8 = 5 ∨ i % 8 = 6 ∨ i % 8 = 7 := by omega
  rcases this with r | r | r | r | r | r | r | r <;> (rw [r] at hi ⊢; rw [hi] at h; first | exact hz _ h | exact hz _ (by omega))
 ·rw [List.getD_eq_getElem?_getD, List.getElem?_eq_none (by rw [jL]; omega)]
  exact Nat.zero_testBit _
theorem getD_snoc (l : List Bool) (b : Bool) (j : Nat) : (l ++ [b]).getD j false = if j < l.length then l.getD j false else if j = l.length then b else false := by
 rw [List.getD_eq_getElem?_getD, List.getD_eq_getElem?_getD]
 by_cases h : j < l.length
 ·rw [if_pos h, List.getElem?_append_left h]
 ·rw [if_neg h, List.getElem?_append_right (by omega)]
  by_cases h1 : j = l.length
  ·simp [h1]
  ·rw [if_neg h1, List.getElem?_eq_none (by simp; omega)]; rfl
theorem pk_false (l : List Bool) : pk (l ++ [false]) = if l.length % 8 = 0 then pk l ++ [0] else pk l := by
 have hb : ∀ s, by8 (l ++ [false]) s = by8 l s := by
  intro s
  have hg : ∀ j, (l ++ [false]).getD j false = l.getD j false := by
   intro j
   rw [getD_snoc]
   by_cases h : j < l.length
   ·rw [if_pos h]
   ·rw [if_neg h]
    have : l.getD j false = false := by rw [List.getD_eq_getElem?_getD, List.getElem?_eq_none (by omega)]; rfl
    rw [this]; simp
  unfold by8
  simp only [hg]
 unfold pk
 simp only [hb, List.length_append, List.length_singleton]
 by_cases h : l.length % 8 = 0
 ·rw [if_pos h]
  have e : (l.length + 1 + 7) / 8 = (l.length + 7) / 8 + 1 := by omega
  have e2 : 8 * ((l.length + 7) / 8) = l.length := by omega
  rw [e, List.range_succ, List.map_append]
  congr 1
  simp only [List.map_cons, List.map_nil, e2]
  have hz : ∀ j, l.getD (l.length + j) false = false := fun j => by
   rw [List.getD_eq_getElem?_getD, List.getElem?_eq_none (by omega)]; rfl
  have hz0 := hz 0
  rw [Nat.add_zero] at hz0
  unfold by8
  simp only [hz, hz0]
  rfl
 ·rw [if_neg h]
  have e : (l.length + 1 + 7) / 8 = (l.length + 7) / 8 := by omega
  rw [e]
theorem pk_true (l : List Bool) : pk (l ++ [true]) = (pk (l ++ [false])).set (l.length / 8) (by8 (l ++ [true]) (8 * (l.length / 8)) : Int) := by
 apply List.ext_getElem?
 intro i
 rw [List.getElem?_set]
 by_cases hi : i < (l.length + 1 + 7) / 8
 ·have e : ∀ b, (pk (l ++ [b]))[i]? = some (by8 (l ++ [b]) (8 * i) : Int) := by
   intro b
   unfold pk
   rw [List.getElem?_map, List.getElem?_range (by simpa using hi)]
   rfl
  rw [e, e, jL, List.length_append, List.length_singleton]
  by_cases h1 : l.length / 8 = i
  ·rw [if_pos h1, if_pos (by omega), h1]
  ·rw [if_neg h1]
   have hg : ∀ j, j < 8 → (l ++ [true]).getD (8 * i + j) false = (l ++ [false]).getD (8 * i + j) false := by
    intro j hj
    rw [getD_snoc, getD_snoc]
    have : 8 * i + j ≠ l.length := by omega
    simp [this]
   have h0 := hg 0 (by omega)
   rw [Nat.add_zero] at h0
   unfold by8
   rw [h0, hg 1 (by omega), hg 2 (by omega), hg 3 (by omega), hg 4 (by omega), hg 5 (by omega), hg 6 (by omega), hg 7 (by omega)]
 ·have e : ∀ b, (pk (l ++ [b]))[i]? = none := by
   intro b
   rw [List.getElem?_eq_none]
   rw [jL, List.length_append, List.length_singleton]
   omega
  rw [e, e, jL, List.length_append, List.length_singleton]
  by_cases h1 : l.length / 8 = i
  ·omega
  ·rw [if_neg h1]
theorem by8_or (l : List Bool) : (BitVec.ofNat 8 (by8 (l ++ [false]) (8 * (l.length / 8))) ||| BitVec.ofNat 8 (2 ^ (7 - l.length % 8))).toNat = by8 (l ++ [true]) (8 * (l.length / 8)) := by
 have hi : l.length = 8 * (l.length / 8) + l.length % 8 := by omega
 unfold by8
 simp only [getD_snoc]
 generalize hq : 8 * (l.length / 8) = q at *
 have hr : l.length % 8 = 0 ∨ l.length % 8 = 1 ∨ l.length % 8 = 2 ∨ l.length % 8 = 3 ∨ l.length % 8 = 4 ∨ l.length % 8 = 5 ∨ l.length % 8 = 6 ∨ l.length % 8 = 7 := by omega
 generalize l.getD q false = a0
 generalize l.getD (q + 1) false = a1
 generalize l.getD (q + 2) false = a2
 generalize l.getD (q + 3) false = a3
 generalize l.getD (q + 4) false = a4
 generalize l.getD (q + 5) false = a5
 generalize l.getD (q + 6) false = a6
 generalize l.getD (q + 7) false = a7
 generalize l.length % 8 = r at *
 rw [hi]
 rcases hr with e | e | e | e | e | e | e | e <;> subst e <;> simp [show ∀ j, ¬(q + j < q) from fun j => by omega]
 ·cases a0 <;> rfl
 ·cases a0 <;> cases a1 <;> rfl
 ·cases a0 <;> cases a1 <;> cases a2 <;> rfl
 ·cases a0 <;> cases a1 <;> cases a2 <;> cases a3 <;> rfl
 ·cases a0 <;> cases a1 <;> cases a2 <;> cases a3 <;> cases a4 <;> rfl
 ·cases a0 <;> cases a1 <;> cases a2 <;> cases a3 <;> cases a4 <;> cases a5 <;> rfl
 ·cases a0 <;> cases a1 <;> cases a2 <;> cases a3 <;> cases a4 <;> cases a5 <;> cases a6 <;> rfl
end Go.Proofs.YtchmioacjkbfcaaGreat.AI
namespace Go.Proofs.YtchmioacjkbfcaaGreat.AI
set_option linter.unusedVariables false
set_option linter.unusedSimpArgs false
def mrg : List Int → List Int → List Int
 | [], b => b
 | a, [] => a
 | x :: a, y :: b => if x < y then x :: mrg a (y :: b) else if y < x then y :: mrg (x :: a) b else x :: mrg a b
termination_by a b => a.length + b.length
@[simp] theorem mrg_nil_l (b : List Int) : mrg [] b = b := by unfold mrg; rfl
@[simp] theorem mrg_nil_r (a : List Int) : mrg a [] = a := by cases a <;> (unfold mrg; rfl)
theorem qV (x : Int) (a : List Int) (y : Int) (b : List Int) : mrg (x :: a) (y :: b) = if x < y then x :: mrg a (y :: b) else if y < x then y :: mrg (x :: a) b else x :: mrg a b := by
 rw [mrg]
theorem mrg_ind {motive : List Int → List Int → Prop} (h1 : ∀ b, motive [] b) (h2 : ∀ a, motive a []) (h3 : ∀ x a y b, x < y → motive a (y :: b) → motive (x :: a) (y :: b))
  (h4 : ∀ x a y b, y < x → motive (x :: a) b → motive (x :: a) (y :: b)) (h5 : ∀ x a b, motive a b → motive (x :: a) (x :: b)) : ∀ a b, motive a b := by
 intro a b
 generalize hn : a.length + b.length = n
 induction n using Nat.strongRecOn generalizing a b with
 | _ n ih =>
  cases a with
  | nil => exact h1 b
  | cons x a =>
   cases b with
   | nil => exact h2 _
   | cons y b =>
    by_cases hxy : x < y
    ·exact h3 x a y b hxy (ih (a.length + (y :: b).length) (by simp at hn ⊢; omega) _ _ rfl)
    ·by_cases hyx : y < x
     ·exact h4 x a y b hyx (ih ((x :: a).length + b.length) (by simp at hn ⊢; omega) _ _ rfl)
     ·have : x = y := by omega
      subst this
      exact h5 x a b (ih (a.length + b.length) (by simp at hn ⊢; omega) _ _ rfl)
theorem xj (n : Int) : ∀ a b, n ∈ mrg a b ↔ n ∈ a ∨ n ∈ b := by
 apply mrg_ind
 ·intro b; simp
 ·intro a; simp
 ·intro x a y b h ih
  rw [qV, if_pos h, List.mem_cons, ih, List.mem_cons, List.mem_cons]
  constructor
  ·rintro (h | h | h | h)
   ·exact .inl (.inl h)
   ·exact .inl (.inr h)
   ·exact .inr (.inl h)
   ·exact .inr (.inr h)
  ·rintro ((h | h) | (h | h))
   ·exact .inl h
   ·exact .inr (.inl h)
   ·exact .inr (.inr (.inl h))
   ·exact .inr (.inr (.inr h))
 ·intro x a y b h ih
  rw [qV, if_neg (by omega), if_pos h, List.mem_cons, ih, List.mem_cons, List.mem_cons]
  constructor
  ·rintro (h | (h | h) | h)
   ·exact .inr (.inl h)
   ·exact .inl (.inl h)
   ·exact .inl (.inr h)
   ·exact .inr (.inr h)
  ·rintro ((h | h) | (h | h))
   ·exact .inr (.inl (.inl h))
   ·exact .inr (.inl (.inr h))
   ·exact .inl h
   ·exact .inr (.inr h)
 ·intro x a b ih
  rw [qV, if_neg (by omega), if_neg (by omega), List.mem_cons, ih, List.mem_cons, List.mem_cons]
  constructor
  ·rintro (h | h | h)
   ·exact .inl (.inl h)
   ·exact .inl (.inr h)
   ·exact .inr (.inr h)
  ·rintro ((h | h) | (h | h))
   ·exact .inl h
   ·exact .inr (.inl h)
   ·exact .inl h
   ·exact .inr (.inr h)
abbrev Rise (l : List Int) : Prop := l.Pairwise (· < ·)
theorem rise_mrg : ∀ a b, Rise a → Rise b → Rise (mrg a b) := by
 apply mrg_ind (motive := fun a b => Rise a → Rise b → Rise (mrg a b))
 ·intro b _ h; simpa using h
 ·intro a h _; simpa using h
 ·intro x a y b h ih ha hb
  rw [qV, if_pos h]
  have ha := List.pairwise_cons.mp ha
  refine List.pairwise_cons.mpr ⟨fun n hn => ?_, ih ha.2 hb⟩
  rcases (xj n a (y :: b)).mp hn with h' | h'
  ·exact ha.1 n h'
  ·rcases List.mem_cons.mp h' with rfl | h'
   ·exact h
   ·have := (List.pairwise_cons.mp hb).1 n h'; omega
 ·intro x a y b h ih ha hb
  rw [qV, if_neg (by omega), if_pos h]
  have hb' := List.pairwise_cons.mp hb
  refine List.pairwise_cons.mpr ⟨fun n hn => ?_, ih ha hb'.2⟩
  rcases (xj n (x :: a) b).mp hn with h' | h'
  ·rcases List.mem_cons.mp h' with rfl | h'
   ·exact h
   ·have := (List.pairwise_cons.mp ha).1 n h'; omega
  ·exact hb'.1 n h'
 ·intro x a b ih ha hb
  rw [qV, if_neg (by omega), if_neg (by omega)]
  have ha' := List.pairwise_cons.mp ha
  have hb' := List.pairwise_cons.mp hb
  refine List.pairwise_cons.mpr ⟨fun n hn => ?_, ih ha'.2 hb'.2⟩
  rcases (xj n a b).mp hn with h' | h'
  ·exact ha'.1 n h'
  ·exact hb'.1 n h'
theorem len_mrg : ∀ a b, (mrg a b).length ≤ a.length + b.length := by
 apply mrg_ind (motive := fun a b => (mrg a b).length ≤ a.length + b.length)
 ·intro b; simp
 ·intro a; simp
 ·intro x a y b h ih
  rw [qV, if_pos h]; simp at ih ⊢; omega
 ·intro x a y b h ih
  rw [qV, if_neg (by omega), if_pos h]; simp at ih ⊢; omega
 ·intro x a b ih
  rw [qV, if_neg (by omega), if_neg (by omega)]; simp at ih ⊢; omega
theorem rise_ext : ∀ {a b : List Int}, Rise a → Rise b → (∀ n, n ∈ a ↔ n ∈ b) → a = b
 | [], [], _, _, _ => rfl
 | [], y :: b, _, _, h => absurd ((h y).mpr (by simp)) (by simp)
 | x :: a, [], _, _, h => absurd ((h x).mp (by simp)) (by simp)
 | x :: a, y :: b, ha, hb, h => by
  have ha' := List.pairwise_cons.mp ha
  have hb' := List.pairwise_cons.mp hb
  have hxy : x = y := by
   have h1 := List.mem_cons.mp ((h x).mp (by simp))
   have h2 := List.mem_cons.mp ((h y).mpr (by simp))
   rcases h1 with h1 | h1
   ·exact h1
   ·rcases h2 with h2 | h2
    ·exact h2.symm
    ·have := ha'.1 y h2
     have := hb'.1 x h1
     omega
  subst hxy
  congr 1
  refine rise_ext ha'.2 hb'.2 fun n => ?_
  have := h n
  constructor
  ·intro hn
   have hlt := ha'.1 n hn
   rcases List.mem_cons.mp (this.mp (List.mem_cons_of_mem _ hn)) with rfl | h'
   ·omega
   ·exact h'
  ·intro hn
   have hlt := hb'.1 n hn
   rcases List.mem_cons.mp (this.mpr (List.mem_cons_of_mem _ hn)) with rfl | h'
   ·omega
   ·exact h'
theorem mrg_sub {a b : List Int} (ha : Rise a) (hb : Rise b) (h : ∀ n ∈ b, n ∈ a) : mrg a b = a :=
 rise_ext (rise_mrg _ _ ha hb) ha fun n => by rw [xj]; exact ⟨fun h' => h'.elim id (h n), .inl⟩
end Go.Proofs.YtchmioacjkbfcaaGreat.AI
namespace Go.Proofs.YtchmioacjkbfcaaGreat.AI
set_option linter.unusedVariables false
set_option linter.unusedSimpArgs false
theorem take_mrg : ∀ (A B : List Int) (k m n : Nat), k ≤ m → k ≤ n → (mrg (A.take m) (B.take n)).take k = (mrg A B).take k := by
 apply mrg_ind (motive := fun A B => ∀ (k m n : Nat), k ≤ m → k ≤ n → (mrg (A.take m) (B.take n)).take k = (mrg A B).take k)
 ·intro b k m n hm hn
  rw [List.take_nil, mrg_nil_l, mrg_nil_l, List.take_take, Nat.min_eq_left hn]
 ·intro a k m n hm hn
  rw [List.take_nil, mrg_nil_r, mrg_nil_r, List.take_take, Nat.min_eq_left hm]
 ·intro x a y b h ih k m n hm hn
  match k, m, n, hm, hn with
  | 0, _, _, _, _ => simp
  | k + 1, m + 1, n + 1, hm, hn =>
   have := ih k m (n + 1) (by omega) (by omega)
   rw [List.take_succ_cons] at this
   rw [List.take_succ_cons, List.take_succ_cons, qV, qV, if_pos h, if_pos h, List.take_succ_cons, List.take_succ_cons, this]
 ·intro x a y b h ih k m n hm hn
  match k, m, n, hm, hn with
  | 0, _, _, _, _ => simp
  | k + 1, m + 1, n + 1, hm, hn =>
   have n1 : ¬x < y := by omega
   have := ih k (m + 1) n (by omega) (by omega)
   rw [List.take_succ_cons] at this
   rw [List.take_succ_cons, List.take_succ_cons, qV, qV, if_neg n1, if_pos h, if_neg n1, if_pos h, List.take_succ_cons, List.take_succ_cons, this]
 ·intro x a b ih k m n hm hn
  match k, m, n, hm, hn with
  | 0, _, _, _, _ => simp
  | k + 1, m + 1, n + 1, hm, hn =>
   have n1 : ¬x < x := by omega
   have := ih k m n (by omega) (by omega)
   rw [List.take_succ_cons, List.take_succ_cons, qV, qV, if_neg n1, if_neg n1, if_neg n1, if_neg n1, List.take_succ_cons, List.take_succ_cons, this]
theorem take_mrg_l (A B : List Int) (k : Nat) : (mrg (A.take k) B).take k = (mrg A B).take k := by
 have h := take_mrg A B k k (k + B.length) (by omega) (by omega)
 rwa [List.take_of_length_le (by omega : B.length ≤ k + B.length)] at h
theorem rise_take {l : List Int} (k : Nat) (h : Rise l) : Rise (l.take k) := List.Pairwise.sublist (List.take_sublist k l) h
def srt (acc : List Int) : List Int → List Int
 | [] => acc
 | n :: r => srt (mrg acc [n]) r
theorem srt_rise : ∀ (r : List Int) {acc : List Int}, Rise acc → Rise (srt acc r)
 | [], _, h => h
 | n :: r, _, h => srt_rise r (rise_mrg _ _ h (by simp))
theorem mem_srt (x : Int) : ∀ (r acc : List Int), x ∈ srt acc r ↔ x ∈ acc ∨ x ∈ r
 | [], acc => by simp [srt]
 | n :: r, acc => by
  rw [srt, mem_srt x r, xj]
  simp [or_assoc]
def kmvs (K : Nat) (acc : List Int) : List Int → List Int
 | [] => acc
 | n :: r => kmvs K ((mrg acc [n]).take K) r
theorem kmvs_srt (K : Nat) : ∀ (r acc : List Int), kmvs K (acc.take K) r = (srt acc r).take K
 | [], acc => rfl
 | n :: r, acc => by
  rw [kmvs, take_mrg_l, kmvs_srt K r, srt]
theorem kmvs_eq (K : Nat) (r : List Int) : kmvs K [] r = (srt [] r).take K := by
 simpa using kmvs_srt K r []
theorem kmvs_rise (K : Nat) (a : List Int) : Rise (kmvs K [] a) := by rw [kmvs_eq]; exact rise_take K (srt_rise a List.Pairwise.nil)
theorem kmvs_len (K : Nat) (a : List Int) : (kmvs K [] a).length ≤ K := by rw [kmvs_eq, List.length_take]; omega
theorem mem_kmvs {K : Nat} {a : List Int} {x : Int} (h : x ∈ kmvs K [] a) : x ∈ a := by
 rw [kmvs_eq] at h
 have := (mem_srt x a []).mp (List.mem_of_mem_take h)
 simpa using this
end Go.Proofs.YtchmioacjkbfcaaGreat.AI
namespace Go.Proofs.YtchmioacjkbfcaaGreat.AI
open Ieee
set_option linter.unusedVariables false
set_option linter.unusedSimpArgs false
def isN (x : Nat) : Prop := 9218868437227405312 < x % 9223372036854775808
instance (x : Nat) : Decidable (isN x) := by unfold isN; infer_instance
def fval (x : Nat) : Int := if x / 9223372036854775808 % 2 = 1 then -((x % 9223372036854775808 : Nat) : Int) else ((x % 9223372036854775808 : Nat) : Int)
def magR (r : Nat) : Nat := if r < 4503599627370496 then r else (4503599627370496 + r % 4503599627370496) * 2 ^ (r / 4503599627370496 - 1)
theorem magR_lt {a b : Nat} (h : a < b) : magR a < magR b := by
 unfold magR
 by_cases ha : a < 4503599627370496
 ·rw [if_pos ha]
  by_cases hb : b < 4503599627370496
  ·rw [if_pos hb]; exact h
  ·rw [if_neg hb]
   have h1 : 1 ≤ 2 ^ (b / 4503599627370496 - 1) := Nat.one_le_two_pow
   have h2 := Nat.mul_le_mul (Nat.le_refl (4503599627370496 + b % 4503599627370496)) h1
   omega
 ·have hb : ¬b < 4503599627370496 := by omega
  rw [if_neg ha, if_neg hb]
  by_cases hq : a / 4503599627370496 = b / 4503599627370496
  ·rw [hq]
   have hr : a % 4503599627370496 < b % 4503599627370496 := by omega
   exact Nat.mul_lt_mul_of_pos_right (by omega) (Nat.two_pow_pos _)
  ·have hq' : a / 4503599627370496 < b / 4503599627370496 := by omega
   have h1 : (4503599627370496 + a % 4503599627370496) * 2 ^ (a / 4503599627370496 - 1) < (2 * 4503599627370496) * 2 ^ (a / 4503599627370496 - 1) := by
    have : a % 4503599627370496 < 4503599627370496 := Nat.mod_lt _ (by omega)
    exact Nat.mul_lt_mul_of_pos_right (by omega) (Nat.two_pow_pos _)
   have h2 : 2 ^ (a / 4503599627370496 - 1) * 2 = 2 ^ (a / 4503599627370496) := by
    rw [← Nat.pow_succ]
    congr 1
    omega
   have h3 : 2 ^ (a / 4503599627370496) ≤ 2 ^ (b / 4503599627370496 - 1) := Nat.pow_le_pow_right (by omega) (by omega)
   have h4 : 4503599627370496 * 2 ^ (b / 4503599627370496 - 1) ≤ (4503599627370496 + b % 4503599627370496) * 2 ^ (b / 4503599627370496 - 1) := Nat.mul_le_mul (by omega) (Nat.le_refl _)
   have h5 : (2 * 4503599627370496) * 2 ^ (a / 4503599627370496 - 1) = 4503599627370496 * 2 ^ (a / 4503599627370496) := by
    rw [← h2]; generalize 2 ^ (a / 4503599627370496 - 1) = z; omega
   have h6 := Nat.mul_le_mul (Nat.le_refl 4503599627370496) h3
   omega
theorem magR_inj {a b : Nat} (h : magR a = magR b) : a = b := by
 rcases Nat.lt_trichotomy a b with h' | h' | h'
 ·have := magR_lt h'; omega
 ·exact h'
 ·have := magR_lt h'; omega
theorem magR_0 : magR 0 = 0 := rfl
theorem jT (a b : Int) : compare a b = if a < b then .lt else if a = b then .eq else .gt := rfl
theorem cmp_scale (a b : Int) {c : Int} (hc : 0 < c) : compare a b = compare (a * c) (b * c) := by
 rw [jT, jT]
 have h1 : a * c < b * c ↔ a < b := Int.mul_lt_mul_right hc
 have h2 : a * c = b * c ↔ a = b := ⟨fun h => Int.eq_of_mul_eq_mul_right (by omega) h, fun h => by rw [h]⟩
 simp only [h1, h2]
theorem read_fin {x : Nat} (h : x % 9223372036854775808 < 9218868437227405312) : ∃ (m i : Nat), double.read x = .number (x / 9223372036854775808 % 2 == 1) m (-1074 + i) ∧ m * 2 ^ i = magR (x % 9223372036854775808) := by
 have e1 : double.signWeight = 9223372036854775808 := by decide
 have e2 : double.binade = 4503599627370496 := by decide
 have e3 : double.infRung = 9218868437227405312 := by decide
 have e4 : double.leastPlace = -1074 := by decide
 unfold Format.read
 simp only [e1, e2, e3, e4]
 unfold magR
 by_cases hb : x % 9223372036854775808 < 4503599627370496
 ·rw [if_pos hb, if_pos hb]
  exact ⟨_, 0, rfl, by simp⟩
 ·rw [if_neg hb, if_neg hb, if_pos h]
  exact ⟨_, _, rfl, rfl⟩
theorem read_inf {x : Nat} (h : x % 9223372036854775808 = 9218868437227405312) : double.read x = .infinity (x / 9223372036854775808 % 2 == 1) := by
 have e1 : double.signWeight = 9223372036854775808 := by decide
 have e2 : double.binade = 4503599627370496 := by decide
 have e3 : double.infRung = 9218868437227405312 := by decide
 unfold Format.read
 simp only [e1, e2, e3]
 rw [if_neg (by omega), if_neg (by omega), if_pos h]
theorem read_nan {x : Nat} (h : isN x) : ∃ s t, double.read x = .nan s t := by
 unfold isN at h
 have e1 : double.signWeight = 9223372036854775808 := by decide
 have e2 : double.binade = 4503599627370496 := by decide
 have e3 : double.infRung = 9218868437227405312 := by decide
 unfold Format.read
 simp only [e1, e2, e3]
 rw [if_neg (by omega), if_neg (by omega), if_neg (by omega)]
 exact ⟨_, _, rfl⟩
theorem order_nan_l {x y : Nat} (h : isN x) : double.order x y = none := by
 obtain ⟨s, t, e⟩ := read_nan h
 unfold Format.order
 rw [e]
 rfl
theorem order_nan_r {x y : Nat} (h : isN y) : double.order x y = none := by
 obtain ⟨s, t, e⟩ := read_nan h
 unfold Format.order
 rw [e]
 cases double.read x <;> rfl
def sg (s : Bool) (m : Int) : Int := if s then -m else m
theorem cmp_sg (s t : Bool) (a b : Nat) : compare (sg s (magR a)) (sg t (magR b)) = compare (sg s (a : Int)) (sg t (b : Int)) := by
 have h1 : magR a < magR b ↔ a < b := by
  constructor
  ·intro h
   rcases Nat.lt_trichotomy a b with h' | h' | h'
   ·exact h'
   ·subst h'; omega
   ·have := magR_lt h'; omega
  ·exact magR_lt
 have h2 : magR a = magR b ↔ a = b := ⟨magR_inj, fun h => by rw [h]⟩
 have h3 : magR a = 0 ↔ a = 0 := ⟨fun h => magR_inj (b := 0) (by rw [h, magR_0]), fun h => by rw [h, magR_0]⟩
 have h4 : magR b = 0 ↔ b = 0 := ⟨fun h => magR_inj (b := 0) (by rw [h, magR_0]), fun h => by rw [h, magR_0]⟩
 rw [jT, jT]
 cases s <;> cases t <;> simp only [sg, if_true, if_false, Bool.false_eq_true]
 ·have c1 : ((magR a : Nat) : Int) < (magR b : Nat) ↔ (a : Int) < b := by omega
  have c2 : ((magR a : Nat) : Int) = (magR b : Nat) ↔ (a : Int) = b := by omega
  simp only [c1, c2]
 ·have c1 : ((magR a : Nat) : Int) < -(magR b : Nat) ↔ (a : Int) < -(b : Int) := by omega
  have c2 : ((magR a : Nat) : Int) = -(magR b : Nat) ↔ (a : Int) = -(b : Int) := by omega
  simp only [c1, c2]
 ·have c1 : -((magR a : Nat) : Int) < (magR b : Nat) ↔ -(a : Int) < (b : Int) := by omega
  have c2 : -((magR a : Nat) : Int) = (magR b : Nat) ↔ -(a : Int) = (b : Int) := by omega
  simp only [c1, c2]
 ·have c1 : -((magR a : Nat) : Int) < -(magR b : Nat) ↔ -(a : Int) < -(b : Int) := by omega
  have c2 : -((magR a : Nat) : Int) = -(magR b : Nat) ↔ -(a : Int) = -(b : Int) := by omega
  simp only [c1, c2]
theorem yF (x : Nat) : fval x = sg (x / 9223372036854775808 % 2 == 1) ((x % 9223372036854775808 : Nat) : Int) := by
 unfold fval sg
 by_cases h : x / 9223372036854775808 % 2 = 1 <;> simp [h]
theorem signed_sg (s : Bool) (m k : Nat) : Ieee.signed s m k = sg s ((m * 2 ^ k : Nat) : Int) := by
 unfold Ieee.signed sg
 rw [Nat.shiftLeft_eq]
 try (cases s <;> rfl)
theorem order_fin {x y : Nat} (hx : x % 9223372036854775808 < 9218868437227405312) (hy : y % 9223372036854775808 < 9218868437227405312) : double.order x y = some (compare (fval x) (fval y)) := by
 obtain ⟨m, i, e1, e2⟩ := read_fin hx
 obtain ⟨n, j, f1, f2⟩ := read_fin hy
 unfold Format.order
 rw [e1, f1]
 simp only [Datum.order]
 rw [yF, yF, ← cmp_sg, ← e2, ← f2, signed_sg, signed_sg]
 congr 1
 have hc : (0 : Int) < ((2 ^ (min i j) : Nat) : Int) := by have := Nat.two_pow_pos (min i j); omega
 rw [cmp_scale _ _ hc]
 have p1 : (-1074 + (i : Int) - min (-1074 + (i : Int)) (-1074 + (j : Int))).toNat + min i j = i := by omega
 have p2 : (-1074 + (j : Int) - min (-1074 + (i : Int)) (-1074 + (j : Int))).toNat + min i j = j := by omega
 have q : ∀ (s : Bool) (m k c : Nat), sg s ((m * 2 ^ k : Nat) : Int) * ((2 ^ c : Nat) : Int) = sg s ((m * 2 ^ (k + c) : Nat) : Int) := by
  intro s m k c
  rw [Nat.pow_add, ← Nat.mul_assoc]
  cases s
  ·simp only [sg, Bool.false_eq_true, if_false]; rw [← Int.natCast_mul]
  ·simp only [sg, if_true]; rw [Int.neg_mul, ← Int.natCast_mul]
 rw [q, q, p1, p2]
theorem order_num {x y : Nat} (hx : ¬isN x) (hy : ¬isN y) : double.order x y = some (compare (fval x) (fval y)) := by
 unfold isN at hx hy
 by_cases ix : x % 9223372036854775808 = 9218868437227405312
 ·by_cases iy : y % 9223372036854775808 = 9218868437227405312
  ·unfold Format.order
   rw [read_inf ix, read_inf iy]
   simp only [Datum.order]
   rw [yF, yF, ix, iy]
   cases (x / 9223372036854775808 % 2 == 1) <;> cases (y / 9223372036854775808 % 2 == 1) <;> decide
  ·obtain ⟨n, j, f1, f2⟩ := read_fin (x := y) (by omega)
   unfold Format.order
   rw [read_inf ix, f1]
   simp only [Datum.order]
   rw [yF, yF, ix, jT]
   generalize y % 9223372036854775808 = r at *
   cases (x / 9223372036854775808 % 2 == 1) <;> cases (y / 9223372036854775808 % 2 == 1) <;> simp only [sg, if_true, if_false, Bool.false_eq_true]
   ·rw [if_neg (by omega), if_neg (by omega)]
   ·rw [if_neg (by omega), if_neg (by omega)]
   ·rw [if_pos (by omega)]
   ·rw [if_pos (by omega)]
 ·by_cases iy : y % 9223372036854775808 = 9218868437227405312
  ·obtain ⟨n, j, f1, f2⟩ := read_fin (x := x) (by omega)
   unfold Format.order
   rw [read_inf iy, f1]
   simp only [Datum.order]
   rw [yF, yF, iy, jT]
   generalize x % 9223372036854775808 = r at *
   cases (x / 9223372036854775808 % 2 == 1) <;> cases (y / 9223372036854775808 % 2 == 1) <;> simp only [sg, if_true, if_false, Bool.false_eq_true]
   ·rw [if_pos (by omega)]
   ·rw [if_neg (by omega), if_neg (by omega)]
   ·rw [if_pos (by omega)]
   ·rw [if_neg (by omega), if_neg (by omega)]
  ·exact order_fin (by omega) (by omega)
theorem f_eq (x y : Nat) : (double.order x y == some .eq) = decide (¬isN x ∧ ¬isN y ∧ fval x = fval y) := by
 by_cases hx : isN x
 ·rw [order_nan_l hx]; simp [hx]
 ·by_cases hy : isN y
  ·rw [order_nan_r hy]; simp [hy]
  ·rw [order_num hx hy, jT]
   rcases Int.lt_trichotomy (fval x) (fval y) with h | h | h
   ·have : ¬(fval x = fval y) := by omega
    simp [hx, hy, h, this]
   ·have : ¬(fval x < fval y) := by omega
    simp [hx, hy, h]
   ·have h1 : ¬(fval x < fval y) := by omega
    have h2 : ¬(fval x = fval y) := by omega
    simp [hx, hy, h1, h2]
theorem f_lt (x y : Nat) : (double.order x y == some .lt) = decide (¬isN x ∧ ¬isN y ∧ fval x < fval y) := by
 by_cases hx : isN x
 ·rw [order_nan_l hx]; simp [hx]
 ·by_cases hy : isN y
  ·rw [order_nan_r hy]; simp [hy]
  ·rw [order_num hx hy, jT]
   rcases Int.lt_trichotomy (fval x) (fval y) with h | h | h
   ·simp [hx, hy, h]
   ·have : ¬(fval x < fval y) := by omega
    simp [hx, hy, h]
   ·have h1 : ¬(fval x < fval y) := by omega
    have h2 : ¬(fval x = fval y) := by omega
    simp [hx, hy, h1, h2]
theorem f_gt (x y : Nat) : (double.order x y == some .gt) = decide (¬isN x ∧ ¬isN y ∧ fval y < fval x) := by
 by_cases hx : isN x
 ·rw [order_nan_l hx]; simp [hx]
 ·by_cases hy : isN y
  ·rw [order_nan_r hy]; simp [hy]
  ·rw [order_num hx hy, jT]
   rcases Int.lt_trichotomy (fval x) (fval y) with h | h | h
   ·have h1 : ¬(fval y < fval x) := by omega
    simp [hx, hy, h, h1]
   ·have : ¬(fval y < fval x) := by omega
    simp [hx, hy, h]
   ·have h1 : ¬(fval x < fval y) := by omega
    have h2 : ¬(fval x = fval y) := by omega
    simp [hx, hy, h1, h2, h]
end Go.Proofs.YtchmioacjkbfcaaGreat.AI
namespace Go.Proofs.YtchmioacjkbfcaaGreat.AI
open Go
set_option linter.unusedVariables false
set_option linter.unusedSimpArgs false
set_option maxRecDepth 100000
set_option maxHeartbeats 0
theorem bv_or_top (n : Nat) (h : n < 9223372036854775808) : (BitVec.ofInt 64 (n : Int) ||| BitVec.ofInt 64 9223372036854775808).toNat = n + 9223372036854775808 := by
 rw [BitVec.toNat_or, BitVec.toNat_ofInt, BitVec.toNat_ofInt]
 have e1 : (((n : Int) % ((2 ^ 64 : Nat) : Int)).toNat) = n := by omega
 have e2 : (((9223372036854775808 : Int) % ((2 ^ 64 : Nat) : Int)).toNat) = 2 ^ 63 * 1 := by decide
 rw [e1, e2, Nat.or_comm, ← Nat.two_pow_add_eq_or_of_lt (by simpa using h)]
 omega
theorem bv_and_top_lo (n : Nat) (h : n < 9223372036854775808) : (BitVec.ofInt 64 (n : Int) &&& BitVec.ofInt 64 9223372036854775808).toNat = 0 := by
 rw [BitVec.toNat_and, BitVec.toNat_ofInt, BitVec.toNat_ofInt]
 have e1 : (((n : Int) % ((2 ^ 64 : Nat) : Int)).toNat) = n := by omega
 have e2 : (((9223372036854775808 : Int) % ((2 ^ 64 : Nat) : Int)).toNat) = 2 ^ 63 := by decide
 rw [e1, e2]
 apply Nat.eq_of_testBit_eq
 intro i
 rw [Nat.testBit_and, Nat.testBit_two_pow, Nat.zero_testBit]
 by_cases hi : 63 = i
 ·subst hi
  rw [Nat.testBit_lt_two_pow (by simpa using h)]
  rfl
 ·simp [hi]
theorem bv_and_top_hi (n : Nat) (h : 9223372036854775808 ≤ n) (h' : n < 18446744073709551616) : (BitVec.ofInt 64 (n : Int) &&& BitVec.ofInt 64 9223372036854775808).toNat = 9223372036854775808 := by
 rw [BitVec.toNat_and, BitVec.toNat_ofInt, BitVec.toNat_ofInt]
 have e1 : (((n : Int) % ((2 ^ 64 : Nat) : Int)).toNat) = n := by omega
 have e2 : (((9223372036854775808 : Int) % ((2 ^ 64 : Nat) : Int)).toNat) = 2 ^ 63 := by decide
 have e3 : (9223372036854775808 : Nat) = 2 ^ 63 := by decide
 rw [e1, e2]
 conv => rhs; rw [e3]
 obtain ⟨m, rfl⟩ : ∃ m, n = 2 ^ 63 * 1 + m := ⟨n - 2 ^ 63, by omega⟩
 rw [Nat.two_pow_add_eq_or_of_lt (by omega)]
 apply Nat.eq_of_testBit_eq
 intro i
 rw [Nat.testBit_and, Nat.testBit_or, Nat.mul_one, Nat.testBit_two_pow]
 by_cases hi : 63 = i
 ·subst hi; simp
 ·simp [hi]
theorem bv_clear_top (n : Nat) (h' : n < 18446744073709551616) : (BitVec.ofInt 64 (n : Int) &&& ~~~(BitVec.ofInt 64 9223372036854775808)).toNat = n % 9223372036854775808 := by
 have e2 : (~~~(BitVec.ofInt 64 9223372036854775808)).toNat = 2 ^ 63 - 1 := by decide
 rw [BitVec.toNat_and, BitVec.toNat_ofInt, e2, Nat.and_two_pow_sub_one_eq_mod]
 have e1 : (((n : Int) % ((2 ^ 64 : Nat) : Int)).toNat) = n := by omega
 rw [e1]
def kw (w : Nat) : Nat := if isN w then 18444492273895866369 else if w < 9223372036854775808 then w + 9223372036854775808 else 18446744073709551615 - w
def wk (k : Nat) : Nat := if k < 9223372036854775808 then 18446744073709551615 - k else k - 9223372036854775808
def ofOk (k : Nat) : Bool := decide (kw (wk k) = k)
theorem kw_lt (w : Nat) (h : w < 18446744073709551616) : kw w < 18446744073709551616 := by
 unfold kw; repeat' split
 all_goals omega
theorem wk_lt (k : Nat) (h : k < 18446744073709551616) : wk k < 18446744073709551616 := by
 unfold wk; split <;> omega
theorem wk_kw {w : Nat} (h : w < 18446744073709551616) (hn : ¬isN w) : wk (kw w) = w := by
 unfold kw
 rw [if_neg hn]
 unfold wk
 repeat' split
 all_goals omega
theorem kw_wk_kw (w : Nat) (h : w < 18446744073709551616) : kw (wk (kw w)) = kw w := by
 by_cases hn : isN w
 ·unfold kw
  rw [if_pos hn]
  decide
 ·rw [wk_kw h hn]
def yD (w : Nat) : Int := if isN w then 6 else if w = 9218868437227405312 then 5 else if w = 18442240474082181120 then 0 else if w = 9223372036854775808 then 2 else if w = 0 then 3 else if w < 9223372036854775808 then 4 else 1
def fLess (a b : Nat) : Bool := decide (¬isN a ∧ ¬isN b ∧ fval a < fval b)
end Go.Proofs.YtchmioacjkbfcaaGreat.AI
namespace Go.Proofs.YtchmioacjkbfcaaGreat.AI
set_option linter.unusedVariables false
set_option linter.unusedSimpArgs false
def Bl (x n : Nat) : Prop := x < 2 ^ n ∧ (n = 0 ∨ 2 ^ (n - 1) ≤ x)
theorem Bl.up {x k n : Nat} (h : Bl (x / 2 ^ k) n) (hx : 2 ^ k ≤ x) : Bl x (n + k) := by
 obtain ⟨h1, h2⟩ := h
 have hp := Nat.two_pow_pos k
 have hn : n ≠ 0 := by
  intro e
  subst e
  have : 1 ≤ x / 2 ^ k := (Nat.one_le_div_iff hp).mpr hx
  simp at h1
  omega
 refine ⟨?_, .inr ?_⟩
 ·rw [Nat.pow_add]
  exact (Nat.div_lt_iff_lt_mul hp).mp h1
 ·have h3 := h2.resolve_left hn
  rw [show n + k - 1 = (n - 1) + k by omega, Nat.pow_add]
  exact (Nat.le_div_iff_mul_le hp).mp h3
end Go.Proofs.YtchmioacjkbfcaaGreat.AI
namespace Go.Proofs.YtchmioacjkbfcaaGreat.AI
set_option linter.unusedVariables false
set_option linter.unusedSimpArgs false
def uv (n : Nat) : List Int := if h : n < 128 then [(n : Int)] else ((n % 128 + 128 : Nat) : Int) :: uv (n / 128)
termination_by n
decreasing_by omega
theorem uv_lt {n : Nat} (h : n < 128) : uv n = [(n : Int)] := by rw [uv]; simp [h]
theorem uv_ge {n : Nat} (h : ¬(n < 128)) : uv n = ((n % 128 + 128 : Nat) : Int) :: uv (n / 128) := by rw [uv]; simp [h]
theorem uv_in : ∀ (n : Nat) (x : Int), x ∈ uv n → 0 ≤ x ∧ x < 256 := by
 intro n
 induction n using Nat.strongRecOn with
 | _ n ih =>
  intro x hx
  by_cases h : n < 128
  ·rw [uv_lt h] at hx; simp at hx; omega
  ·rw [uv_ge h] at hx
   rcases List.mem_cons.mp hx with rfl | hx
   ·omega
   ·exact ih (n / 128) (by omega) x hx
theorem uv_len : ∀ (k n : Nat), n < 128 ^ (k + 1) → (uv n).length ≤ k + 1 := by
 intro k
 induction k with
 | zero => intro n h; rw [uv_lt (by omega)]; simp
 | succ k ih =>
  intro n h
  by_cases h1 : n < 128
  ·rw [uv_lt h1]; simp
  ·rw [uv_ge h1]
   have : n / 128 < 128 ^ (k + 1) := Nat.div_lt_of_lt_mul (by rw [Nat.pow_succ] at h; omega)
   have := ih _ this
   simp only [List.length_cons]; omega
theorem qu {n : Nat} (h : n < 18446744073709551616) : (uv n).length ≤ 10 := uv_len 9 n (Nat.lt_of_lt_of_le h (by decide))
def gU : List Int → Nat → Nat → Nat → Nat × Nat × Int
 | [], _, _, u => (0, u, 3)
 | c :: r, s, n, u =>
  if (s = 63 ∧ 1 < c) ∨ (0 < s ∧ c = 0) then (0, u + 1, 4)
  else if c < 128 then (n + c.toNat * 2 ^ s, u + 1, 0)
  else gU r (s + 7) (n + (c.toNat - 128) * 2 ^ s) (u + 1)
def zz (n : Int) : Nat := if n < 0 then ((-(n + 1)) * 2 + 1).toNat else (n * 2).toNat
theorem zz_lt {n : Int} (h1 : -9223372036854775808 ≤ n) (h2 : n < 9223372036854775808) : zz n < 18446744073709551616 := by
 unfold zz; split <;> omega
end Go.Proofs.YtchmioacjkbfcaaGreat.AI
namespace Go.Proofs.YtchmioacjkbfcaaGreat.AI
open Go
set_option linter.unusedVariables false
set_option linter.unusedSimpArgs false
set_option maxRecDepth 100000
set_option maxHeartbeats 0
def nz (l : List Nat) : List Int := l.map fun (n : Nat) => (n : Int)
@[simp] theorem nz_len (l : List Nat) : (nz l).length = l.length := by simp [nz]
def gapsF (p : Nat) : List Nat → List Nat
 | [] => []
 | x :: r => (x - p - 1) :: gapsF x r
def gaps : List Nat → List Nat
 | [] => []
 | x :: r => x :: gapsF x r
def zw : List Nat → Prop
 | [] => True
 | [_] => True
 | x :: y :: r => x < y ∧ zw (y :: r)
def yI (k : Nat) : List Nat → Nat → Nat × Bool
 | [], n => (n, true)
 | g :: r, n => if 4096 < g / 2 ^ k then (0, false) else yI k r (n + (g / 2 ^ k + 1 + k))
def parG (gs : List Nat) : Nat → Nat → Nat → Int → Nat
 | 0, _, b, _ => b
 | f + 1, k, b, m => if (yI k gs 0).2 = true ∧ (m < 0 ∨ ((yI k gs 0).1 : Int) < m) then parG gs f (k + 1) k (yI k gs 0).1 else parG gs f (k + 1) b m
def parR (gs : List Nat) : Nat := parG gs 64 0 63 (-1)
def rbits (k : Nat) : List Nat → List Bool
 | [] => []
 | g :: r => una (g / 2 ^ k) ++ nbs g k ++ rbits k r
def ricB (gs : List Nat) : List Bool := rbits (parR gs) gs
def ricY (l : List Nat) : List Int := uv l.length ++ [(parR (gaps l) : Int)] ++ uv (pk (ricB (gaps l))).length ++ pk (ricB (gaps l))
@[simp] theorem gapsF_len (p : Nat) (l : List Nat) : (gapsF p l).length = l.length := by
 induction l generalizing p with
 | nil => rfl
 | cons x r ih => simp [gapsF, ih]
@[simp] theorem gaps_len (l : List Nat) : (gaps l).length = l.length := by cases l <;> simp [gaps]
theorem gapsF_lt (l : List Nat) (p B : Nat) (h : ∀ x ∈ l, x < B) : ∀ g ∈ gapsF p l, g < B := by
 induction l generalizing p with
 | nil => intro g hg; cases hg
 | cons x r ih =>
  intro g hg
  rcases List.mem_cons.mp hg with e | e
  ·have := h x (by simp); omega
  ·exact ih x (fun y hy => h y (by simp [hy])) g e
theorem gaps_lt {l : List Nat} {B : Nat} (h : ∀ x ∈ l, x < B) : ∀ g ∈ gaps l, g < B := by
 cases l with
 | nil => intro g hg; cases hg
 | cons x r =>
  intro g hg
  rcases List.mem_cons.mp hg with e | e
  ·rw [e]; exact h x (by simp)
  ·exact gapsF_lt r x B (fun y hy => h y (by simp [hy])) g e
theorem gapsF_get : ∀ (l : List Nat) (p i : Nat), i < l.length → (gapsF p l)[i]? = some (l.getD i 0 - (p :: l).getD i 0 - 1) := by
 intro l
 induction l with
 | nil => intro p i h; cases h
 | cons x r ih =>
  intro p i h
  cases i with
  | zero => rfl
  | succ i =>
   have := ih x i (by simpa using h)
   simpa [gapsF] using this
theorem gaps_get (l : List Nat) (i : Nat) (h : i < l.length) : (gaps l)[i]? = some (if i = 0 then l.getD 0 0 else l.getD i 0 - l.getD (i - 1) 0 - 1) := by
 cases l with
 | nil => cases h
 | cons x r =>
  cases i with
  | zero => rfl
  | succ i =>
   have := gapsF_get r x i (by simpa using h)
   simpa [gaps] using this
theorem rising_get : ∀ (l : List Nat), zw l → ∀ i, i + 1 < l.length → l.getD i 0 < l.getD (i + 1) 0 := by
 intro l
 induction l with
 | nil => intro _ i h; simp at h
 | cons x r ih =>
  intro hr i h
  cases r with
  | nil => simp at h
  | cons y r =>
   cases i with
   | zero => exact hr.1
   | succ i => exact ih hr.2 i (by simpa using h)
theorem costG_ok (k : Nat) : ∀ (gs : List Nat) (n : Nat), (yI k gs n).2 = true → ∀ g ∈ gs, g / 2 ^ k ≤ 4096 := by
 intro gs
 induction gs with
 | nil => intro n _ g hg; cases hg
 | cons x r ih =>
  intro n h g hg
  unfold yI at h
  split at h
  ·cases h
  ·rcases List.mem_cons.mp hg with e | e
   ·subst e; omega
   ·exact ih _ h g e
theorem parG_ok (gs : List Nat) : ∀ (f k b : Nat) (m : Int), k + f = 64 → b ≤ 63 → (∀ g ∈ gs, g / 2 ^ b ≤ 4096) → parG gs f k b m ≤ 63 ∧ ∀ g ∈ gs, g / 2 ^ (parG gs f k b m) ≤ 4096 := by
 intro f
 induction f with
 | zero => intro k b m _ h1 h2; exact ⟨h1, h2⟩
 | succ f ih =>
  intro k b m hk h1 h2
  unfold parG
  split
  ·rename_i h
   exact ih (k + 1) k _ (by omega) (by omega) (costG_ok k gs 0 h.1)
  ·exact ih (k + 1) b m (by omega) h1 h2
theorem parR_ok {gs : List Nat} (h : ∀ g ∈ gs, g < 18446744073709551616) : parR gs ≤ 63 ∧ ∀ g ∈ gs, g / 2 ^ parR gs ≤ 4096 := by
 refine parG_ok gs 64 0 63 (-1) rfl (Nat.le_refl _) (fun g hg => ?_)
 have := h g hg
 have e : (2 : Nat) ^ 63 = 9223372036854775808 := by decide
 rw [e]
 omega
theorem rbits_len (k : Nat) (hk : k ≤ 63) : ∀ (gs : List Nat), (∀ g ∈ gs, g / 2 ^ k ≤ 4096) → (rbits k gs).length ≤ gs.length * 4160 := by
 intro gs
 induction gs with
 | nil => intro _; exact Nat.zero_le _
 | cons x r ih =>
  intro h
  have h1 := ih (fun g hg => h g (by simp [hg]))
  have h2 := h x (by simp)
  simp [rbits]
  omega
theorem pk_at (l : List Bool) (i : Nat) : bitAt (pk l) i = l.getD i false := by
 by_cases h : i < l.length
 ·exact bitAt_pk l i h
 ·rw [bitAt_pk_end l i (by omega), List.getD_eq_getElem?_getD, List.getElem?_eq_none (by omega)]
  rfl
def Ss (l m : List Bool) : Prop := ∀ i, l.getD i false = m.getD i false
theorem Ss.pk {l m : List Bool} (h : pk l = pk m) : Ss l m := fun i => by rw [← pk_at, ← pk_at, h]
theorem Ss.tail {a b : Bool} {l m : List Bool} (h : Ss (a :: l) (b :: m)) : a = b ∧ Ss l m := ⟨h 0, fun i => h (i + 1)⟩
theorem Ss.una : ∀ (q q' : Nat) (l m : List Bool), Ss (una q ++ l) (una q' ++ m) → q = q' ∧ Ss l m := by
 intro q
 induction q with
 | zero =>
  intro q' l m h
  cases q' with
  | zero => exact ⟨rfl, (Ss.tail h).2⟩
  | succ q' => exact absurd (Ss.tail h).1 (by decide)
 | succ q ih =>
  intro q' l m h
  cases q' with
  | zero => exact absurd (Ss.tail h).1 (by decide)
  | succ q' =>
   have := ih q' l m (Ss.tail h).2
   exact ⟨by omega, this.2⟩
def see (cs : List Nat) (x : Nat) : List Nat := if (cs.set x (cs.getD x 0 + 24)).sum ≤ 4096 then cs.set x (cs.getD x 0 + 24) else (cs.set x (cs.getD x 0 + 24)).map fun n => (n + 1) / 2
def okM (cs : List Nat) : Prop := cs.length = 64 ∧ cs.sum ≤ 4096 ∧ ∀ n ∈ cs, 1 ≤ n
theorem sum_set : ∀ (cs : List Nat) (x v : Nat), x < cs.length → (cs.set x v).sum + cs.getD x 0 = cs.sum + v := by
 intro cs
 induction cs with
 | nil => intro x v h; cases h
 | cons c r ih =>
  intro x v h
  cases x with
  | zero => simp; omega
  | succ x =>
   have := ih x v (by simpa using h)
   simp only [List.set_cons_succ, List.sum_cons, List.getD_cons_succ]
   omega
theorem sum_half : ∀ (cs : List Nat), 2 * (cs.map fun n => (n + 1) / 2).sum ≤ cs.sum + cs.length := by
 intro cs
 induction cs with
 | nil => exact Nat.le_refl _
 | cons c r ih => simp only [List.map_cons, List.sum_cons, List.length_cons]; omega
theorem see_ok {cs : List Nat} {x : Nat} (h : okM cs) (hx : x < 64) : okM (see cs x) := by
 obtain ⟨h1, h2, h3⟩ := h
 have hs := sum_set cs x (cs.getD x 0 + 24) (by omega)
 have hpos : ∀ n ∈ cs.set x (cs.getD x 0 + 24), 1 ≤ n := by
  intro n hn
  rcases List.mem_or_eq_of_mem_set hn with e | e
  ·exact h3 n e
  ·omega
 unfold see
 split
 ·rename_i hle
  exact ⟨by simp [h1], hle, hpos⟩
 ·have hh := sum_half (cs.set x (cs.getD x 0 + 24))
  rw [List.length_set, h1] at hh
  refine ⟨by simp [h1], by omega, fun n hn => ?_⟩
  obtain ⟨m, hm, rfl⟩ := List.mem_map.mp hn
  have := hpos m hm
  omega
theorem zq : ∀ (cs : List Nat) (x : Nat), x < cs.length → (cs.take (x + 1)).sum = (cs.take x).sum + cs.getD x 0 := by
 intro cs
 induction cs with
 | nil => intro x h; cases h
 | cons c r ih =>
  intro x h
  cases x with
  | zero => simp
  | succ x =>
   have := ih x (by simpa using h)
   simp only [List.take_succ_cons, List.sum_cons, List.getD_cons_succ]
   omega
theorem sum_take_le : ∀ (cs : List Nat) (x y : Nat), x ≤ y → (cs.take x).sum ≤ (cs.take y).sum := by
 intro cs
 induction cs with
 | nil => intro x y _; simp
 | cons c r ih =>
  intro x y h
  cases x with
  | zero => simp
  | succ x =>
   cases y with
   | zero => omega
   | succ y =>
    have := ih x y (by omega)
    simp only [List.take_succ_cons, List.sum_cons]
    omega
theorem zm (cs : List Nat) (x : Nat) : (cs.take x).sum ≤ cs.sum := by
 by_cases h : x ≤ cs.length
 ·have := sum_take_le cs x cs.length h
  rwa [List.take_length] at this
 ·rw [List.take_of_length_le (by omega)]; exact Nat.le_refl _
structure En where
 low : Nat
 width : Nat
 held : Nat
 last : Nat
 begun : Bool
 out : List Int
def sh (s : En) : En :=
 if s.low < 4278190080 ∨ 4294967296 ≤ s.low then
  ⟨s.low % 16777216 * 256, s.width, 0, s.low / 16777216 % 256, true, s.out ++ (if s.begun then [(((s.last + s.low / 4294967296 % 256) % 256 : Nat) : Int)] else []) ++ List.replicate s.held (((255 + s.low / 4294967296 % 256) % 256 : Nat) : Int)⟩
 else ⟨s.low % 16777216 * 256, s.width, s.held + 1, s.last, s.begun, s.out⟩
def wid (s : En) (w : Nat) : En := ⟨s.low, w, s.held, s.last, s.begun, s.out⟩
def norm : Nat → En → En
 | 0, s => s
 | f + 1, s => if s.width < 16777216 then norm f (sh (wid s (s.width * 256))) else s
def nar (s : En) (cs : List Nat) (x : Nat) : En := ⟨s.low + s.width / cs.sum * (cs.take x).sum, s.width / cs.sum * cs.getD x 0, s.held, s.last, s.begun, s.out⟩
def enc : List Nat → En → List Nat → En
 | _, s, [] => s
 | cs, s, x :: r => enc (see cs x) (norm 4 (nar s cs x)) r
def en0 : En := ⟨0, 4294967295, 0, 0, false, []⟩
def cs0 : List Nat := List.replicate 64 1
def cod (l : List Nat) : List Int := (sh (sh (sh (sh (sh (enc cs0 en0 l)))))).out
def bnum (l : List Int) : Nat := l.foldl (fun a b => a * 256 + b.toNat) 0
theorem jt (l : List Int) (b : Int) : bnum (l ++ [b]) = bnum l * 256 + b.toNat := by simp [bnum, List.foldl_append]
theorem bnum_zeros (l : List Int) : ∀ h, bnum (l ++ List.replicate h 0) = bnum l * 256 ^ h := by
 intro h
 induction h with
 | zero => simp
 | succ h ih =>
  rw [List.replicate_succ', ← List.append_assoc, jt, ih, Nat.pow_succ, Nat.mul_assoc]
  simp
theorem bnum_full (l : List Int) : ∀ h, bnum (l ++ List.replicate h 255) + 1 = (bnum l + 1) * 256 ^ h := by
 intro h
 induction h with
 | zero => simp
 | succ h ih =>
  rw [List.replicate_succ', ← List.append_assoc, jt, Nat.pow_succ, ← Nat.mul_assoc, ← ih]
  have e : (255 : Int).toNat = 255 := rfl
  rw [e]
  omega
def bl (s : En) : List Int := s.out ++ (if s.begun then [(s.last : Int)] else []) ++ List.replicate s.held 255
def eV (s : En) : Nat := bnum (bl s) * 4294967296 + s.low
def eK (s : En) : Nat := s.out.length + s.begun.toNat + s.held
theorem bl_len (s : En) : (bl s).length = eK s := by
 unfold bl eK
 cases s.begun <;> simp <;> omega
def okE (s : En) (w : Nat) : Prop := s.low + w ≤ 8589934592 ∧ s.last < 256 ∧ 0 < w ∧ ((s.begun = false ∨ s.last = 255) → s.low + w ≤ 4294967296)
theorem okE_le {s : En} {w v : Nat} (h : okE s w) (h1 : v ≤ w) (h2 : 0 < v) : okE s v :=
 ⟨by have := h.1; omega, h.2.1, h2, fun q => by have := h.2.2.2 q; omega⟩
theorem sh_ok (s : En) (w : Nat) (h : okE s w) (hw : w ≤ 16777216) : okE (sh s) (w * 256) ∧ eV (sh s) = eV s * 256 ∧ eK (sh s) = eK s + 1 ∧ (sh s).width = s.width := by
 obtain ⟨h1, h2, h3, h4⟩ := h
 by_cases hA : s.low < 4278190080
 ·have e : sh s = ⟨s.low % 16777216 * 256, s.width, 0, s.low / 16777216 % 256, true, bl s⟩ := by
   unfold sh
   rw [if_pos (.inl hA)]
   have c0 : s.low / 4294967296 % 256 = 0 := by omega
   have c1 : (s.last + 0) % 256 = s.last := by omega
   unfold bl
   rw [c0, c1]
   rfl
  rw [e]
  refine ⟨⟨by show s.low % 16777216 * 256 + w * 256 ≤ _; omega, by show s.low / 16777216 % 256 < _; omega, by omega, fun q => ?_⟩, ?_, ?_, rfl⟩
  ·rcases q with q | q
   ·cases q
   ·have q : s.low / 16777216 % 256 = 255 := q
    omega
  ·show bnum (bl s ++ [((s.low / 16777216 % 256 : Nat) : Int)] ++ []) * 4294967296 + s.low % 16777216 * 256 = (bnum (bl s) * 4294967296 + s.low) * 256
   rw [List.append_nil, jt, Int.toNat_natCast]
   omega
  ·show (bl s).length + 1 + 0 = eK s + 1
   rw [bl_len]
 ·by_cases hB : 4294967296 ≤ s.low
  ·have hb : s.begun = true := by
    cases hq : s.begun
    ·have := h4 (.inl hq); omega
    ·rfl
   have hl : s.last ≤ 254 := by
    by_cases q : s.last = 255
    ·have := h4 (.inr q); omega
    ·omega
   have e : sh s = ⟨s.low % 16777216 * 256, s.width, 0, s.low / 16777216 % 256, true, s.out ++ [((s.last + 1 : Nat) : Int)] ++ List.replicate s.held 0⟩ := by
    unfold sh
    rw [if_pos (.inr hB), hb, if_pos rfl]
    have c0 : s.low / 4294967296 % 256 = 1 := by omega
    have c1 : (s.last + 1) % 256 = s.last + 1 := by omega
    rw [c0, c1]
    rfl
   have eb : bl s = s.out ++ [(s.last : Int)] ++ List.replicate s.held 255 := by unfold bl; rw [hb, if_pos rfl]
   have n1 : bnum (s.out ++ [((s.last + 1 : Nat) : Int)] ++ List.replicate s.held 0) = bnum (bl s) + 1 := by
    have f := bnum_full (s.out ++ [(s.last : Int)]) s.held
    rw [eb, f, bnum_zeros, jt, jt, Int.toNat_natCast, Int.toNat_natCast, Nat.add_assoc]
   rw [e]
   refine ⟨⟨by show s.low % 16777216 * 256 + w * 256 ≤ _; omega, by show s.low / 16777216 % 256 < _; omega, by omega, fun q => ?_⟩, ?_, ?_, rfl⟩
   ·rcases q with q | q
    ·cases q
    ·have q : s.low / 16777216 % 256 = 255 := q
     show s.low % 16777216 * 256 + w * 256 ≤ _
     omega
   ·show bnum (s.out ++ [((s.last + 1 : Nat) : Int)] ++ List.replicate s.held 0 ++ [((s.low / 16777216 % 256 : Nat) : Int)] ++ []) * 4294967296 + s.low % 16777216 * 256 = (bnum (bl s) * 4294967296 + s.low) * 256
    rw [List.append_nil, jt, Int.toNat_natCast, n1]
    omega
   ·show (s.out ++ [((s.last + 1 : Nat) : Int)] ++ List.replicate s.held 0).length + 1 + 0 = eK s + 1
    unfold eK
    rw [hb]
    simp
    omega
  ·have e : sh s = ⟨s.low % 16777216 * 256, s.width, s.held + 1, s.last, s.begun, s.out⟩ := by
    unfold sh
    rw [if_neg (by omega)]
   rw [e]
   refine ⟨⟨by show s.low % 16777216 * 256 + w * 256 ≤ _; omega, h2, by omega, fun q => ?_⟩, ?_, ?_, rfl⟩
   ·have := h4 q
    show s.low % 16777216 * 256 + w * 256 ≤ _
    omega
   ·show bnum (s.out ++ (if s.begun then [(s.last : Int)] else []) ++ List.replicate (s.held + 1) 255) * 4294967296 + s.low % 16777216 * 256 = (bnum (bl s) * 4294967296 + s.low) * 256
    have n1 : bnum (s.out ++ (if s.begun then [(s.last : Int)] else []) ++ List.replicate (s.held + 1) 255) = bnum (bl s) * 256 + 255 := by
     rw [List.replicate_succ', ← List.append_assoc, jt]
     rfl
    rw [n1]
    omega
   ·show s.out.length + s.begun.toNat + (s.held + 1) = eK s + 1
    unfold eK
    omega
theorem eV_wid (s : En) (w : Nat) : eV (wid s w) = eV s ∧ eK (wid s w) = eK s := ⟨rfl, rfl⟩
theorem norm_ok : ∀ (f : Nat) (s : En), okE s s.width → s.width ≤ 4294967296 → 4294967296 ≤ s.width * 256 ^ f * 256 → ∃ d, eV (norm f s) = eV s * 256 ^ d ∧ (norm f s).width = s.width * 256 ^ d ∧ eK (norm f s) = eK s + d ∧ okE (norm f s) (norm f s).width ∧
  16777216 ≤ (norm f s).width ∧ (norm f s).width ≤ 4294967296 := by
 intro f
 induction f with
 | zero =>
  intro s h hw hf
  exact ⟨0, by simp [norm], by simp [norm], rfl, h, by show 16777216 ≤ s.width; simp at hf; omega, hw⟩
 | succ f ih =>
  intro s h hw hf
  unfold norm
  by_cases hl : s.width < 16777216
  ·rw [if_pos hl]
   have h' : okE (wid s (s.width * 256)) s.width := h
   obtain ⟨a1, a2, a3, a4⟩ := sh_ok (wid s (s.width * 256)) s.width h' (by omega)
   have a4 : (sh (wid s (s.width * 256))).width = s.width * 256 := a4
   have hf2 : 4294967296 ≤ s.width * 256 * 256 ^ f * 256 := by
    rw [Nat.pow_succ] at hf
    have e : s.width * (256 ^ f * 256) * 256 = s.width * 256 * 256 ^ f * 256 := by
     rw [Nat.mul_assoc s.width 256, Nat.mul_comm 256 (256 ^ f)]
    rwa [e] at hf
   obtain ⟨d, b1, b2, b3, b4, b5, b6⟩ := ih (sh (wid s (s.width * 256))) (by rw [a4]; exact a1) (by rw [a4]; omega) (by rw [a4]; exact hf2)
   refine ⟨d + 1, ?_, ?_, ?_, b4, b5, b6⟩
   ·rw [b1, a2, (eV_wid s _).1, Nat.pow_succ, Nat.mul_assoc, Nat.mul_comm 256]
   ·rw [b2, a4, Nat.pow_succ, Nat.mul_assoc, Nat.mul_comm 256]
   ·rw [b3, a3, (eV_wid s _).2]; omega
  ·rw [if_neg hl]
   exact ⟨0, by simp, by simp, rfl, h, by omega, hw⟩
theorem add_ok (s : En) (cs : List Nat) (x : Nat) (hm : okM cs) (hx : x < 64) (h : okE s s.width) (hw : 16777216 ≤ s.width ∧ s.width ≤ 4294967296) :
    ∃ d, eV (norm 4 (nar s cs x)) = (eV s + s.width / cs.sum * (cs.take x).sum) * 256 ^ d ∧ (norm 4 (nar s cs x)).width = s.width / cs.sum * cs.getD x 0 * 256 ^ d ∧ eK (norm 4 (nar s cs x)) = eK s + d ∧
      okE (norm 4 (nar s cs x)) (norm 4 (nar s cs x)).width ∧ 16777216 ≤ (norm 4 (nar s cs x)).width ∧ (norm 4 (nar s cs x)).width ≤ 4294967296 ∧ 0 < s.width / cs.sum * cs.getD x 0 := by
  obtain ⟨m1, m2, m3⟩ := hm
  have hn : 1 ≤ cs.getD x 0 := by
    rw [List.getD_eq_getElem?_getD, List.getElem?_eq_getElem (by omega)]
    exact m3 _ (List.getElem_mem _)
  have ht := zq cs x (by omega)
  have hta := zm cs (x + 1)
  have hpart : 4096 ≤ s.width / cs.sum := by
    rw [Nat.le_div_iff_mul_le (by omega)]
    have : 4096 * cs.sum ≤ 4096 * 4096 := Nat.mul_le_mul_left _ m2
    omega
  have hmul : s.width / cs.sum * cs.sum ≤ s.width := Nat.div_mul_le_self _ _
  have hsum : s.width / cs.sum * (cs.take x).sum + s.width / cs.sum * cs.getD x 0 ≤ s.width := by
    rw [← Nat.mul_add, ← ht]
    exact Nat.le_trans (Nat.mul_le_mul_left _ hta) hmul
  have hge : s.width / cs.sum * 1 ≤ s.width / cs.sum * cs.getD x 0 := Nat.mul_le_mul_left _ hn
  obtain ⟨h1, h2, h3, h4⟩ := h
  have ok : okE (nar s cs x) (nar s cs x).width := by
    refine ⟨?_, h2, ?_, fun q => ?_⟩
    · show s.low + s.width / cs.sum * (cs.take x).sum + s.width / cs.sum * cs.getD x 0 ≤ _; omega
    · show 0 < s.width / cs.sum * cs.getD x 0; omega
    · have := h4 q
      show s.low + s.width / cs.sum * (cs.take x).sum + s.width / cs.sum * cs.getD x 0 ≤ _; omega
  obtain ⟨d, b1, b2, b3, b4, b5, b6⟩ := norm_ok 4 (nar s cs x) ok (by show s.width / cs.sum * cs.getD x 0 ≤ _; omega) (by
    show 4294967296 ≤ s.width / cs.sum * cs.getD x 0 * 256 ^ 4 * 256
    have e : (256 : Nat) ^ 4 = 4294967296 := by decide
    rw [e]
    omega)
  have ev : eV (nar s cs x) = eV s + s.width / cs.sum * (cs.take x).sum := by
    show bnum (bl s) * 4294967296 + (s.low + _) = bnum (bl s) * 4294967296 + s.low + _
    omega
  exact ⟨d, by rw [b1, ev], b2, b3, b4, b5, b6, by omega⟩
theorem enc_in : ∀ (l cs : List Nat) (s : En), okM cs → (∀ x ∈ l, x < 64) → okE s s.width → 16777216 ≤ s.width ∧ s.width ≤ 4294967296 →
  ∃ d, eK (enc cs s l) = eK s + d ∧ eV s * 256 ^ d ≤ eV (enc cs s l) ∧ eV (enc cs s l) + (enc cs s l).width ≤ (eV s + s.width) * 256 ^ d ∧ okE (enc cs s l) (enc cs s l).width ∧ 0 < (enc cs s l).width := by
 intro l
 induction l with
 | nil => intro cs s hm hl h hw; exact ⟨0, rfl, by simp [enc], by simp [enc], h, by show 0 < s.width; omega⟩
 | cons x r ih =>
  intro cs s hm hl h hw
  obtain ⟨d, a1, a2, a3, a4, a5, a6, a7⟩ := add_ok s cs x hm (hl x (by simp)) h hw
  obtain ⟨d2, b1, b2, b3, b4, b5⟩ := ih (see cs x) (norm 4 (nar s cs x)) (see_ok hm (hl x (by simp))) (fun y hy => hl y (by simp [hy])) a4 ⟨a5, a6⟩
  have e : enc cs s (x :: r) = enc (see cs x) (norm 4 (nar s cs x)) r := rfl
  rw [e]
  refine ⟨d + d2, by rw [b1, a3]; omega, ?_, ?_, b4, b5⟩
  ·refine Nat.le_trans ?_ b2
   rw [a1, Nat.pow_add, ← Nat.mul_assoc]
   exact Nat.mul_le_mul_right _ (Nat.mul_le_mul_right _ (Nat.le_add_right _ _))
  ·refine Nat.le_trans b3 ?_
   rw [a1, a2, ← Nat.add_mul, Nat.pow_add, ← Nat.mul_assoc]
   refine Nat.mul_le_mul_right _ (Nat.mul_le_mul_right _ ?_)
   have ht := zq cs x (by have := hm.1; have := hl x (by simp); omega)
   have hta := zm cs (x + 1)
   have hmul : s.width / cs.sum * cs.sum ≤ s.width := Nat.div_mul_le_self _ _
   have hsum : s.width / cs.sum * (cs.take x).sum + s.width / cs.sum * cs.getD x 0 ≤ s.width := by
    rw [← Nat.mul_add, ← ht]
    exact Nat.le_trans (Nat.mul_le_mul_left _ hta) hmul
   omega
theorem okM0 : okM cs0 := ⟨by decide, by decide, fun n hn => by rw [List.eq_of_mem_replicate hn]; exact Nat.le_refl _⟩
theorem okE0 : okE en0 en0.width := ⟨by decide, by decide, by decide, fun _ => by decide⟩
theorem cod_num (l : List Nat) (hl : ∀ x ∈ l, x < 64) : bnum (cod l) = eV (enc cs0 en0 l) ∧ (cod l).length = eK (enc cs0 en0 l) + 4 := by
 obtain ⟨d, _, _, _, h, hw⟩ := enc_in l cs0 en0 okM0 hl okE0 ⟨by decide, by decide⟩
 unfold cod
 generalize enc cs0 en0 l = s at *
 have s1 := sh_ok s 1 (okE_le h hw (by omega)) (by omega)
 have s2 := sh_ok (sh s) 1 (okE_le s1.1 (by omega) (by omega)) (by omega)
 have s3 := sh_ok (sh (sh s)) 1 (okE_le s2.1 (by omega) (by omega)) (by omega)
 have s4 := sh_ok (sh (sh (sh s))) 1 (okE_le s3.1 (by omega) (by omega)) (by omega)
 have lw : ∀ s : En, (sh s).low = s.low % 16777216 * 256 := fun s => by unfold sh; split <;> rfl
 have z : (sh (sh (sh (sh s)))).low = 0 := by rw [lw, lw, lw, lw]; omega
 have e : (sh (sh (sh (sh (sh s))))).out = bl (sh (sh (sh (sh s)))) := by
  have h2 := s4.1.2.1
  generalize sh (sh (sh (sh s))) = t at *
  unfold sh
  rw [if_pos (.inl (by omega)), z]
  have c1 : (t.last + 0 / 4294967296 % 256) % 256 = t.last := by omega
  unfold bl
  rw [c1]
  rfl
 rw [e, bl_len, s4.2.2.1, s3.2.2.1, s2.2.2.1, s1.2.2.1]
 refine ⟨?_, by omega⟩
 have v : eV (sh (sh (sh (sh s)))) = bnum (bl (sh (sh (sh (sh s))))) * 4294967296 + 0 := by rw [← z]; rfl
 rw [s4.2.1, s3.2.1, s2.2.1, s1.2.1] at v
 omega
noncomputable def B32_5 (x0 x4 x11 : AV) (v12 v13 : Value) (hp : Hp) : Option (AV × Hp) := go cxX 32 [.code (sub [1, 1, 1, 0, 1, 0, 0, 0] cd32), .code (sub [1, 1, 1, 0, 1, 0, 0, 1] cd32), .inLoop (sub [1, 1, 1, 0, 1, 0, 0] cd32), .inBlock 0, .code (sub [1, 1, 1, 1] cd32)] ⟨[(0, .av x0), (4, .av x4), (11, .av x11), (12, .sv v12), (13, .sv v13)], [], hp⟩
noncomputable def B32_8 (hp : Hp) : Option (AV × Hp) := go cxX 32 [.code (sub [1, 1, 1, 0, 1, 0, 0, 1, 1, 0, 0, 1, 0, 1, 0, 0] cd32), .code (sub [1, 0, 1, 0, 1] cd32), .code (sub [1, 1, 1, 0, 1, 0, 0, 1, 1, 0, 0, 1, 1] cd32), .inBlock 1, .code (sub [1, 1, 1, 0, 1, 0, 0, 1, 1, 1] cd32), .inLoop (sub [1, 1, 1, 0, 1, 0, 0] cd32), .inBlock 0, .code (sub [1, 1, 1, 1] cd32)] ⟨[], [], hp⟩
noncomputable def B32_9 (x0 x4 : AV) (v6 : Value) (x11 : AV) (v12 v13 : Value) (hp : Hp) : Option (AV × Hp) := go cxX 32 [.code (sub [1, 1, 1, 0, 1, 0, 0, 1, 1, 0, 0, 1, 1, 0, 0] cd32), .code (sub [1, 1, 1, 0, 1, 0, 0, 1, 1, 0, 0, 1, 1, 0, 1] cd32), .code (sub [1, 1, 1, 0, 1, 0, 0, 1, 1, 0, 0, 1, 1, 1] cd32), .inBlock 1, .code (sub [1, 1, 1, 0, 1, 0, 0, 1, 1, 1] cd32), .inLoop (sub [1, 1, 1, 0, 1, 0, 0] cd32), .inBlock 0, .code (sub [1, 1, 1, 1] cd32)] ⟨[(0, .av x0), (4, .av x4), (6, .sv v6), (11, .av x11), (12, .sv v12), (13, .sv v13)], [], hp⟩
noncomputable def B32_11 (x0 x4 : AV) (v6 : Value) (x11 : AV) (v12 v13 : Value) (hp : Hp) : Option (AV × Hp) := go cxX 32 [.code (sub [1, 1, 1, 0, 1, 0, 0, 1, 1, 0, 0, 1, 1, 0, 1, 1, 0] cd32), .code (sub [1, 1, 1, 0, 1, 0, 0, 1, 1, 0, 0, 1, 1, 1] cd32), .inBlock 1, .code (sub [1, 1, 1, 0, 1, 0, 0, 1, 1, 1] cd32), .inLoop (sub [1, 1, 1, 0, 1, 0, 0] cd32), .inBlock 0, .code (sub [1, 1, 1, 1] cd32)] ⟨[(0, .av x0), (4, .av x4), (6, .sv v6), (11, .av x11), (12, .sv v12), (13, .sv v13)], [], hp⟩
noncomputable def B32_12 (x0 x4 : AV) (v6 : Value) (x11 : AV) (v12 v13 : Value) (hp : Hp) : Option (AV × Hp) := go cxX 32 [.code (sub [1, 1, 1, 0, 1, 0, 0, 1, 1, 0, 0, 1, 1, 1] cd32), .inBlock 1, .code (sub [1, 1, 1, 0, 1, 0, 0, 1, 1, 1] cd32), .inLoop (sub [1, 1, 1, 0, 1, 0, 0] cd32), .inBlock 0, .code (sub [1, 1, 1, 1] cd32)] ⟨[(0, .av x0), (4, .av x4), (6, .sv v6), (11, .av x11), (12, .sv v12), (13, .sv v13)], [], hp⟩
theorem E32 (a0 : AV) (hp : Hp) : run cxX 32 [a0] hp = ((lenA (ro a0)).bind fun y0 => ((binV Tryz.prog .gtr 3 (.tmp 9) (.const (.int .i64 (.ofNat 4096))) (.int .i64 (.ofNat y0)) (.int .i64 (.ofNat 4096))).bind fun y1 => ((asB y1).bind fun y2 => (cond y2 (some (Prod.mk (AV.tup [AV.sc (.slice none 0 0), AV.sc (.int .i64 (.ofNat 7))]) hp)) ((lenA (ro a0)).bind fun y3 => (B32_5 a0 (AV.sc (.slice none 0 0)) (ro a0) (.int .i64 (.ofNat y3)) (.int .i64 (.ofNat 0)) hp)))))) :=
 (qf cxX 32 ss32 400 _ _).trans (by kernel_rfl)
theorem B32_5_eq (x0 x4 x11 : AV) (v12 v13 : Value) (hp : Hp) : B32_5 x0 x4 x11 v12 v13 hp = ((binV Tryz.prog .lss 3 (.tmp 13) (.tmp 12) v13 v12).bind fun y4 => ((asB y4).bind fun y5 => (cond y5 ((idxA 1 x11 v13).bind fun y6 => ((qc y6 0).bind fun y7 => ((binV Tryz.prog .gtr 3 (.tmp 18) (.const (.int .i64 (.ofNat 0))) v13 (.int .i64 (.ofNat 0))).bind fun y8 => ((asB y8).bind fun y9 => (cond y9 ((binV Tryz.prog .sub 3 (.tmp 23) (.const (.int .i64 (.ofNat 1))) v13 (.int .i64 (.ofNat 1))).bind fun y10 => ((idxA 1 (ro x0) y10).bind fun y11 => ((qc y11 0).bind fun y12 => ((binV Tryz.prog .leq 30 (.tmp 21) (.tmp 26) y7 y12).bind fun y13 => ((asB y13).bind fun y14 => (cond y14 (B32_8 hp) (B32_9 x0 x4 y7 x11 v12 v13 hp))))))) (B32_9 x0 x4 y7 x11 v12 v13 hp)))))) ((frz1 hp (ro x4)).bind fun y15 => (some (Prod.mk (AV.tup ((y15).1 :: [AV.sc (.int .i64 (.ofNat 0))])) (y15).2)))))) :=
 (qe cxX 32 ss32 400 _ _).trans (by kernel_rfl)
theorem B32_9_eq (x0 x4 : AV) (v6 : Value) (x11 : AV) (v12 v13 : Value) (hp : Hp) : B32_9 x0 x4 v6 x11 v12 v13 hp = ((lenA (ro x4)).bind fun y16 => ((binV Tryz.prog .eql 3 (.tmp 31) (.const (.int .i64 (.ofNat 0))) (.int .i64 (.ofNat y16)) (.int .i64 (.ofNat 0))).bind fun y17 => ((asB y17).bind fun y18 => (cond y18 (B32_11 x0 x4 v6 x11 v12 v13 hp) ((binV Tryz.prog .sub 3 (.tmp 35) (.const (.int .i64 (.ofNat 1))) (.int .i64 (.ofNat y16)) (.int .i64 (.ofNat 1))).bind fun y19 => ((qR (ro x4)).bind fun y20 => ((idx ((((y20).2).2).2).1 y19).bind fun y21 => ((chkN ((((y20).2).2).2).2 5).bind fun y22 => ((Hp.rd hp (y20).1 ((y20).2).1).bind fun y23 => ((qc y23 (Nat.add (((y20).2).2).1 (Nat.add (Nat.add (Nat.add (Nat.add (Nat.add 0 y21) y21) y21) y21) y21))).bind fun y24 => ((binV Tryz.prog .shr 30 (.tmp 40) (.const (.int .u64 (.ofNat 8))) v6 (.int .u64 (.ofNat 8))).bind fun y25 => ((binV Tryz.prog .neq 30 (.tmp 39) (.tmp 41) y24 y25).bind fun y26 => ((asB y26).bind fun y27 => (cond y27 (B32_11 x0 x4 v6 x11 v12 v13 hp) (B32_12 x0 x4 v6 x11 v12 v13 hp))))))))))))))) :=
 (qe cxX 32 ss32 400 _ _).trans (by kernel_rfl)
theorem B32_11_eq (x0 x4 : AV) (v6 : Value) (x11 : AV) (v12 v13 : Value) (hp : Hp) : B32_11 x0 x4 v6 x11 v12 v13 hp = ((binV Tryz.prog .shr 30 (.tmp 45) (.const (.int .u64 (.ofNat 8))) v6 (.int .u64 (.ofNat 8))).bind fun y28 => ((okV [AV.sc y28, AV.sc (.int .u64 (.ofNat 0)), AV.sc (.int .u64 (.ofNat 0)), AV.sc (.int .u64 (.ofNat 0)), AV.sc (.int .u64 (.ofNat 0))]).bind fun y29 => ((appM 40 5 (ro x4) (AV.us 5 [ro1 (AV.sc y28), ro1 (AV.sc (.int .u64 (.ofNat 0))), ro1 (AV.sc (.int .u64 (.ofNat 0))), ro1 (AV.sc (.int .u64 (.ofNat 0))), ro1 (AV.sc (.int .u64 (.ofNat 0)))]) hp).bind fun y30 => (B32_12 x0 (y30).1 v6 x11 v12 v13 (y30).2)))) :=
 (qe cxX 32 ss32 400 _ _).trans (by kernel_rfl)
theorem B32_12_eq (x0 x4 : AV) (v6 : Value) (x11 : AV) (v12 v13 : Value) (hp : Hp) : B32_12 x0 x4 v6 x11 v12 v13 hp = ((lenA (ro x4)).bind fun y31 => ((binV Tryz.prog .sub 3 (.tmp 52) (.const (.int .i64 (.ofNat 1))) (.int .i64 (.ofNat y31)) (.int .i64 (.ofNat 1))).bind fun y32 => ((qR (ro x4)).bind fun y33 => ((idx ((((y33).2).2).2).1 y32).bind fun y34 => ((chkN ((((y33).2).2).2).2 5).bind fun y35 => ((cvV Tryz.prog 30 5 v6).bind fun y36 => ((run cxX 80 [ro (AV.ptr (y33).1 ((y33).2).1 (Nat.add (((y33).2).2).1 (Nat.add (Nat.add (Nat.add (Nat.add (Nat.add 0 y34) y34) y34) y34) y34))), AV.sc y36] hp).bind fun y37 => ((qo 0 (y37).1).bind fun y38 => ((binV Tryz.prog .add 3 (.tmp 13) (.const (.int .i64 (.ofNat 1))) v13 (.int .i64 (.ofNat 1))).bind fun y39 => (B32_5 x0 x4 x11 v12 y39 (y37).2)))))))))) :=
 (qe cxX 32 ss32 400 _ _).trans (by kernel_rfl)
noncomputable def B33_2 (x1 x11 : AV) (v12 v13 : Value) (hp : Hp) : Option (AV × Hp) := go cxX 33 [.code (sub [1, 1, 0, 0, 0] cd33), .code (sub [1, 1, 0, 0, 1] cd33), .inLoop (sub [1, 1, 0, 0] cd33), .inBlock 0] ⟨[(1, .av x1), (11, .av x11), (12, .sv v12), (13, .sv v13)], [], hp⟩
theorem E33 (a0 a1 : AV) (hp : Hp) : run cxX 33 [a0, a1] hp = ((lenA (ro a0)).bind fun y0 => ((cvV Tryz.prog 3 76 (.int .i64 (.ofNat y0))).bind fun y1 => ((run cxX 25 [ro (ro a1), AV.sc y1] hp).bind fun y2 => ((qo 0 (y2).1).bind fun y3 => ((lenA (ro a0)).bind fun y4 => (B33_2 a1 (ro a0) (.int .i64 (.ofNat y4)) (.int .i64 (.ofNat 0)) (y2).2)))))) :=
 (qf cxX 33 ss33 400 _ _).trans (by kernel_rfl)
theorem B33_2_eq (x1 x11 : AV) (v12 v13 : Value) (hp : Hp) : B33_2 x1 x11 v12 v13 hp = ((binV Tryz.prog .lss 3 (.tmp 13) (.tmp 12) v13 v12).bind fun y5 => ((asB y5).bind fun y6 => (cond y6 ((idxA 5 x11 v13).bind fun y7 => ((getN y7 0 5).bind fun y8 => ((qh 5 (AV.agg (List.map ro1 y8))).bind fun y9 => ((putN [AV.sc (.int .u32 (.ofNat 0)), AV.sc (.int .u64 (.ofNat 0)), AV.sc (.int .u64 (.ofNat 0)), AV.sc (.int .u64 (.ofNat 0)), AV.sc (.int .u64 (.ofNat 0))] 0 y9).bind fun y10 => ((getN y10 0 5).bind fun y11 => ((run cxX 81 [ro (AV.agg (List.map ro1 y11)), ro (ro x1)] hp).bind fun y12 => ((qo 0 (y12).1).bind fun y13 => ((binV Tryz.prog .add 3 (.tmp 13) (.const (.int .i64 (.ofNat 1))) v13 (.int .i64 (.ofNat 1))).bind fun y14 => (B33_2 x1 x11 v12 y14 (y12).2))))))))) (some (Prod.mk (AV.tup []) hp))))) :=
 (qe cxX 33 ss33 400 _ _).trans (by kernel_rfl)
noncomputable def B43_5 (x0 x3 : AV) (v4 v5 v6 : Value) (hp : Hp) : Option (AV × Hp) := go cxX 43 [.code (sub [1, 1, 1, 1, 0, 1, 0, 0, 0, 0] cd43), .code (sub [1, 1, 1, 1, 0, 1, 0, 0, 0, 1] cd43), .code (sub [1, 1, 1, 1, 0, 1, 0, 0, 1] cd43), .inLoop (sub [1, 1, 1, 1, 0, 1, 0, 0] cd43), .inBlock 0, .code (sub [1, 1, 1, 1, 1] cd43)] ⟨[(0, .av x0), (3, .av x3), (4, .sv v4), (5, .sv v5), (6, .sv v6)], [], hp⟩
noncomputable def B43_7 (x0 x3 : AV) (v4 v5 v6 : Value) (hp : Hp) : Option (AV × Hp) := go cxX 43 [.code (sub [1, 1, 1, 1, 0, 1, 0, 0, 1, 0, 0, 0] cd43), .code (sub [1, 1, 1, 1, 0, 1, 0, 0, 1, 0, 0, 1] cd43), .inBlock 1, .code (sub [1, 1, 1, 1, 0, 1, 0, 0, 1, 1] cd43), .inLoop (sub [1, 1, 1, 1, 0, 1, 0, 0] cd43), .inBlock 0, .code (sub [1, 1, 1, 1, 1] cd43)] ⟨[(0, .av x0), (3, .av x3), (4, .sv v4), (5, .sv v5), (6, .sv v6)], [], hp⟩
noncomputable def B43_15 (x0 x3 : AV) (hp : Hp) : Option (AV × Hp) := go cxX 43 [.code (sub [1, 1, 1, 1, 1, 0, 0] cd43), .code (sub [1, 1, 1, 1, 1, 0, 1] cd43), .code (sub [1, 1, 1, 1, 1, 1] cd43)] ⟨[(0, .av x0), (3, .av x3)], [], hp⟩
theorem E43 (a0 : AV) (hp : Hp) : run cxX 43 [a0] hp = ((run cxX 45 [ro (ro a0), AV.sc (.int .u64 (.ofNat 4096))] hp).bind fun y0 => ((asSc (y0).1).bind fun y1 => (B43_5 a0 (AV.sc (.slice none 0 0)) (.int .i64 (.ofNat 0)) y1 (.int .u64 (.ofNat 0)) (y0).2))) :=
 (qf cxX 43 ss43 400 _ _).trans (by kernel_rfl)
theorem B43_5_eq (x0 x3 : AV) (v4 v5 v6 : Value) (hp : Hp) : B43_5 x0 x3 v4 v5 v6 hp = ((binV Tryz.prog .lss 76 (.tmp 11) (.tmp 12) v6 v5).bind fun y2 => ((asB y2).bind fun y3 => (cond y3 ((run cxX 93 [ro (ro x0)] hp).bind fun y4 => ((asSc (y4).1).bind fun y5 => ((binV Tryz.prog .eql 57 (.tmp 16) (.const (.int .i64 (.ofNat 0))) y5 (.int .i64 (.ofNat 0))).bind fun y6 => ((asB y6).bind fun y7 => (cond y7 (B43_7 x0 x3 v4 v5 v6 (y4).2) (B43_15 x0 x3 (y4).2)))))) (B43_15 x0 x3 hp)))) :=
 (qe cxX 43 ss43 400 _ _).trans (by kernel_rfl)
theorem B43_15_eq (x0 x3 : AV) (hp : Hp) : B43_15 x0 x3 hp = ((run cxX 93 [ro (ro x0)] hp).bind fun y25 => ((asSc (y25).1).bind fun y26 => ((binV Tryz.prog .neq 57 (.tmp 58) (.const (.int .i64 (.ofNat 0))) y26 (.int .i64 (.ofNat 0))).bind fun y27 => ((asB y27).bind fun y28 => (cond y28 (some (Prod.mk (AV.sc (.slice none 0 0)) (y25).2)) (some (Prod.mk x3 (y25).2))))))) :=
 (qe cxX 43 ss43 400 _ _).trans (by kernel_rfl)
noncomputable def B44_3 (x3 x7 : AV) (v8 v9 : Value) (hp : Hp) : Option (AV × Hp) := go cxX 44 [.code (sub [1, 1, 0, 1, 0, 0, 0] cd44), .code (sub [1, 1, 0, 1, 0, 0, 1] cd44), .inLoop (sub [1, 1, 0, 1, 0, 0] cd44), .inBlock 0, .code (sub [1, 1, 1] cd44)] ⟨[(3, .av x3), (7, .av x7), (8, .sv v8), (9, .sv v9)], [], hp⟩
noncomputable def B44_6 (x3 x7 : AV) (v8 v9 v13 : Value) (b5 : List AV) (hp : Hp) : Option (AV × Hp) := go cxX 44 [.code (sub [1, 1, 0, 1, 0, 0, 1, 1, 0, 0, 1, 1, 0, 0, 0] cd44), .code (sub [1, 1, 0, 1, 0, 0, 1, 1, 0, 0, 1, 1, 0, 0, 1] cd44), .inLoop (sub [1, 1, 0, 1, 0, 0, 1, 1, 0, 0, 1, 1, 0, 0] cd44), .inBlock 2, .inBlock 1, .code (sub [1, 1, 0, 1, 0, 0, 1, 1, 1] cd44), .inLoop (sub [1, 1, 0, 1, 0, 0] cd44), .inBlock 0, .code (sub [1, 1, 1] cd44)] ⟨[(3, .av x3), (5, .lp 5 0 0), (7, .av x7), (8, .sv v8), (9, .sv v9), (13, .sv v13)], [(5, 0, b5)], hp⟩
theorem E44 (a0 : AV) (hp : Hp) : run cxX 44 [a0] hp = ((lenA (ro a0)).bind fun y0 => (B44_3 (AV.sc (.slice none 0 0)) (ro a0) (.int .i64 (.ofNat y0)) (.int .i64 (.ofNat 0)) hp)) :=
 (qf cxX 44 ss44 400 _ _).trans (by kernel_rfl)
theorem B44_3_eq (x3 x7 : AV) (v8 v9 : Value) (hp : Hp) : B44_3 x3 x7 v8 v9 hp = ((binV Tryz.prog .lss 3 (.tmp 9) (.tmp 8) v9 v8).bind fun y1 => ((asB y1).bind fun y2 => (cond y2 ((idxA 5 x7 v9).bind fun y3 => ((getN y3 0 5).bind fun y4 => ((qh 5 (AV.agg (List.map ro1 y4))).bind fun y5 => ((putN [AV.sc (.int .u32 (.ofNat 0)), AV.sc (.int .u64 (.ofNat 0)), AV.sc (.int .u64 (.ofNat 0)), AV.sc (.int .u64 (.ofNat 0)), AV.sc (.int .u64 (.ofNat 0))] 0 y5).bind fun y6 => (B44_6 x3 x7 v8 v9 (.int .i64 (.ofNat 0)) y6 hp))))) (some (Prod.mk x3 hp))))) :=
 (qe cxX 44 ss44 400 _ _).trans (by kernel_rfl)
theorem E80 (a0 a1 : AV) (hp : Hp) : run cxX 80 [a0, a1] hp = ((asSc a1).bind fun y0 => ((binV Tryz.prog .shr 5 (.tmp 5) (.const (.int .u64 (.ofNat 6))) y0 (.int .u64 (.ofNat 6))).bind fun y1 => ((nnA (ro a0)).bind fun y2 => ((qk (ro a0)).bind fun y3 => ((idx 4 y1).bind fun y4 => ((Hp.rd hp (y3).1 ((y3).2).1).bind fun y5 => ((qc y5 (Nat.add (Nat.succ ((y3).2).2) (Nat.add 0 y4))).bind fun y6 => ((binV Tryz.prog .and 5 (.tmp 11) (.const (.int .u8 (.ofNat 63))) y0 (.int .u8 (.ofNat 63))).bind fun y7 => ((binV Tryz.prog .shl 76 (.const (.int .u64 (.ofNat 1))) (.tmp 12) (.int .u64 (.ofNat 1)) y7).bind fun y8 => ((binV Tryz.prog .or 76 (.tmp 10) (.tmp 13) y6 y8).bind fun y9 => ((nnA (ro a0)).bind fun y10 => ((qk (ro a0)).bind fun y11 => ((idx 4 y1).bind fun y12 => ((Hp.rd hp (y11).1 ((y11).2).1).bind fun y13 => ((putN y13 (Nat.add (Nat.succ ((y11).2).2) (Nat.add 0 y12)) [AV.sc y9]).bind fun y14 => (some (Prod.mk (AV.tup []) (Hp.put hp (y11).1 ((y11).2).1 y14)))))))))))))))))) :=
 (qf cxX 80 ss80 400 _ _).trans (by kernel_rfl)
noncomputable def B81_17 (x1 : AV) (v64 : Value) (b2 : List AV) (hp : Hp) : Option (AV × Hp) := go cxX 81 [.code (sub [1, 1, 1, 1, 1, 0, 1, 0, 1, 1, 0, 0, 0] cd81), .code (sub [1, 1, 1, 1, 1, 0, 1, 0, 1, 1, 0, 0, 1] cd81), .inLoop (sub [1, 1, 1, 1, 1, 0, 1, 0, 1, 1, 0, 0] cd81), .inBlock 5, .inBlock 0] ⟨[(1, .av x1), (2, .lp 2 0 0), (64, .sv v64)], [(2, 0, b2)], hp⟩
noncomputable def B81_24 (x1 : AV) (v78 : Value) (b2 : List AV) (hp : Hp) : Option (AV × Hp) := go cxX 81 [.code (sub [1, 1, 1, 1, 1, 0, 1, 1, 1, 0, 1, 0, 0, 0] cd81), .code (sub [1, 1, 1, 1, 1, 0, 1, 1, 1, 0, 1, 0, 0, 1] cd81), .inLoop (sub [1, 1, 1, 1, 1, 0, 1, 1, 1, 0, 1, 0, 0] cd81), .inBlock 7, .inBlock 0] ⟨[(1, .av x1), (2, .lp 2 0 0), (78, .sv v78)], [(2, 0, b2)], hp⟩
noncomputable def B81_7 (x1 : AV) (v7 : Value) (b2 : List AV) (hp : Hp) : Option (AV × Hp) := go cxX 81 [.code (sub [1, 1, 1, 1, 1, 0, 1, 1, 1, 1, 1, 1, 0, 0, 0, 0] cd81), .code (sub [1, 1, 1, 1, 1, 0, 1, 1, 1, 1, 1, 1, 0, 0, 0, 1] cd81), .code (sub [1, 1, 1, 1, 1, 0, 1, 1, 1, 1, 1, 1, 0, 0, 1] cd81), .inLoop (sub [1, 1, 1, 1, 1, 0, 1, 1, 1, 1, 1, 1, 0, 0] cd81), .inBlock 1, .inBlock 0] ⟨[(1, .av x1), (2, .lp 2 0 0), (7, .sv v7)], [(2, 0, b2)], hp⟩
noncomputable def B81_21 (x1 : AV) (v64 : Value) (b2 : List AV) (hp : Hp) : Option (AV × Hp) := go cxX 81 [.code (sub [1, 1, 1, 1, 1, 0, 1, 0, 1, 1, 0, 0, 1, 1, 1] cd81), .inLoop (sub [1, 1, 1, 1, 1, 0, 1, 0, 1, 1, 0, 0] cd81), .inBlock 5, .inBlock 0] ⟨[(1, .av x1), (2, .lp 2 0 0), (64, .sv v64)], [(2, 0, b2)], hp⟩
noncomputable def B81_8 (x1 : AV) (v7 : Value) (b2 : List AV) (hp : Hp) : Option (AV × Hp) := go cxX 81 [.code (sub [1, 1, 1, 1, 1, 0, 1, 1, 1, 1, 1, 1, 0, 0, 1, 1] cd81), .inLoop (sub [1, 1, 1, 1, 1, 0, 1, 1, 1, 1, 1, 1, 0, 0] cd81), .inBlock 1, .inBlock 0] ⟨[(1, .av x1), (2, .lp 2 0 0), (7, .sv v7)], [(2, 0, b2)], hp⟩
noncomputable def B81_11 (x1 : AV) (v7 v8 : Value) (b2 : List AV) (hp : Hp) : Option (AV × Hp) := go cxX 81 [.code (sub [1, 1, 1, 1, 1, 0, 1, 1, 1, 1, 1, 1, 0, 0, 1, 0, 0, 1, 1, 0, 0, 0, 0, 0] cd81), .code (sub [1, 1, 1, 1, 1, 0, 1, 1, 1, 1, 1, 1, 0, 0, 1, 0, 0, 1, 1, 0, 0, 0, 0, 1] cd81), .code (sub [1, 1, 1, 1, 1, 0, 1, 1, 1, 1, 1, 1, 0, 0, 1, 0, 0, 1, 1, 0, 0, 0, 1] cd81), .inLoop (sub [1, 1, 1, 1, 1, 0, 1, 1, 1, 1, 1, 1, 0, 0, 1, 0, 0, 1, 1, 0, 0, 0] cd81), .inBlock 3, .code (sub [1, 1, 1, 1, 1, 0, 1, 1, 1, 1, 1, 1, 0, 0, 1, 0, 0, 1, 1, 1] cd81), .inBlock 2, .code (sub [1, 1, 1, 1, 1, 0, 1, 1, 1, 1, 1, 1, 0, 0, 1, 1] cd81), .inLoop (sub [1, 1, 1, 1, 1, 0, 1, 1, 1, 1, 1, 1, 0, 0] cd81), .inBlock 1, .inBlock 0] ⟨[(1, .av x1), (2, .lp 2 0 0), (7, .sv v7), (8, .sv v8)], [(2, 0, b2)], hp⟩
noncomputable def B81_12 (x1 : AV) (v7 v8 : Value) (b2 : List AV) (hp : Hp) : Option (AV × Hp) := go cxX 81 [.code (sub [1, 1, 1, 1, 1, 0, 1, 1, 1, 1, 1, 1, 0, 0, 1, 0, 0, 1, 1, 0, 0, 0, 1, 0] cd81), .inBlock 4, .inLoop (sub [1, 1, 1, 1, 1, 0, 1, 1, 1, 1, 1, 1, 0, 0, 1, 0, 0, 1, 1, 0, 0, 0] cd81), .inBlock 3, .code (sub [1, 1, 1, 1, 1, 0, 1, 1, 1, 1, 1, 1, 0, 0, 1, 0, 0, 1, 1, 1] cd81), .inBlock 2, .code (sub [1, 1, 1, 1, 1, 0, 1, 1, 1, 1, 1, 1, 0, 0, 1, 1] cd81), .inLoop (sub [1, 1, 1, 1, 1, 0, 1, 1, 1, 1, 1, 1, 0, 0] cd81), .inBlock 1, .inBlock 0] ⟨[(1, .av x1), (2, .lp 2 0 0), (7, .sv v7), (8, .sv v8)], [(2, 0, b2)], hp⟩
noncomputable def B81_13 (x1 : AV) (v7 v8 : Value) (b2 : List AV) (hp : Hp) : Option (AV × Hp) := go cxX 81 [.code (sub [1, 1, 1, 1, 1, 0, 1, 1, 1, 1, 1, 1, 0, 0, 1, 0, 0, 1, 1, 1] cd81), .inBlock 2, .code (sub [1, 1, 1, 1, 1, 0, 1, 1, 1, 1, 1, 1, 0, 0, 1, 1] cd81), .inLoop (sub [1, 1, 1, 1, 1, 0, 1, 1, 1, 1, 1, 1, 0, 0] cd81), .inBlock 1, .inBlock 0] ⟨[(1, .av x1), (2, .lp 2 0 0), (7, .sv v7), (8, .sv v8)], [(2, 0, b2)], hp⟩
theorem E81 (a0 a1 : AV) (hp : Hp) : run cxX 81 [a0, a1] hp = ((qh 5 a0).bind fun y0 => ((getN (List.map ro1 y0) 0 5).bind fun y1 => ((qi [AV.agg (List.map ro1 y1)] []).bind fun y2 => ((run cxX 134 [ro (AV.agg (List.map ro1 y1))] hp0).bind fun y3 => ((qm (y3).1).bind fun y4 => ((asSc (y3).1).bind fun y5 => ((qc (List.map ro1 y0) 0).bind fun y6 => ((cvV Tryz.prog 30 76 y6).bind fun y7 => ((run cxX 25 [ro (ro a1), AV.sc y7] hp).bind fun y8 => ((qo 0 (y8).1).bind fun y9 => ((run cxX 36 [ro (ro a1), AV.sc y5] (y8).2).bind fun y10 => ((qo 0 (y10).1).bind fun y11 => ((binV Tryz.prog .eql 198 (.tmp 19) (.const (.int .u8 (.ofNat 0))) y5 (.int .u8 (.ofNat 0))).bind fun y12 => ((asB y12).bind fun y13 => (cond y13 ((getN (List.map ro1 y0) 0 5).bind fun y14 => ((qi [AV.agg (List.map ro1 y14)] []).bind fun y15 => ((run cxX 96 [ro (AV.agg (List.map ro1 y14))] hp0).bind fun y16 => ((qm (y16).1).bind fun y17 => ((asSc (y16).1).bind fun y18 => ((binV Tryz.prog .sub 3 (.tmp 60) (.const (.int .i64 (.ofNat 1))) y18 (.int .i64 (.ofNat 1))).bind fun y19 => ((cvV Tryz.prog 3 5 y19).bind fun y20 => ((run cxX 36 [ro (ro a1), AV.sc y20] (y10).2).bind fun y21 => ((qo 0 (y21).1).bind fun y22 => (B81_17 a1 (.int .i64 (.ofNat 0)) (List.map ro1 y0) (y21).2)))))))))) ((binV Tryz.prog .eql 198 (.tmp 19) (.const (.int .u8 (.ofNat 1))) y5 (.int .u8 (.ofNat 1))).bind fun y23 => ((asB y23).bind fun y24 => (cond y24 (B81_24 a1 (.int .i64 (.ofNat 0)) (List.map ro1 y0) (y10).2) ((getN (List.map ro1 y0) 0 5).bind fun y25 => ((qi [AV.agg (List.map ro1 y25)] []).bind fun y26 => ((run cxX 135 [ro (AV.agg (List.map ro1 y25))] hp0).bind fun y27 => ((qm (y27).1).bind fun y28 => ((asSc (y27).1).bind fun y29 => ((binV Tryz.prog .sub 3 (.tmp 22) (.const (.int .i64 (.ofNat 1))) y29 (.int .i64 (.ofNat 1))).bind fun y30 => ((cvV Tryz.prog 3 5 y30).bind fun y31 => ((run cxX 36 [ro (ro a1), AV.sc y31] (y10).2).bind fun y32 => ((qo 0 (y32).1).bind fun y33 => (B81_7 a1 (.int .i64 (.ofNat 0)) (List.map ro1 y0) (y32).2)))))))))))))))))))))))))))) :=
 (qf cxX 81 ss81 400 _ _).trans (by kernel_rfl)
theorem B81_17_eq (x1 : AV) (v64 : Value) (b2 : List AV) (hp : Hp) : B81_17 x1 v64 b2 hp = ((binV Tryz.prog .lss 3 (.tmp 64) (.const (.int .i64 (.ofNat 256))) v64 (.int .i64 (.ofNat 256))).bind fun y34 => ((asB y34).bind fun y35 => (cond y35 ((getN b2 0 5).bind fun y36 => ((cvV Tryz.prog 3 5 v64).bind fun y37 => ((qi [AV.agg (List.map ro1 y36), AV.sc y37] []).bind fun y38 => ((run cxX 97 [ro (AV.agg (List.map ro1 y36)), AV.sc y37] hp0).bind fun y39 => ((qm (y39).1).bind fun y40 => ((asSc (y39).1).bind fun y41 => ((asB y41).bind fun y42 => (cond y42 ((cvV Tryz.prog 3 5 v64).bind fun y43 => ((run cxX 36 [ro (ro x1), AV.sc y43] hp).bind fun y44 => ((qo 0 (y44).1).bind fun y45 => (B81_21 x1 v64 b2 (y44).2)))) (B81_21 x1 v64 b2 hp))))))))) (some (Prod.mk (AV.tup []) hp))))) :=
 (qe cxX 81 ss81 400 _ _).trans (by kernel_rfl)
theorem B81_24_eq (x1 : AV) (v78 : Value) (b2 : List AV) (hp : Hp) : B81_24 x1 v78 b2 hp = ((binV Tryz.prog .lss 3 (.tmp 78) (.const (.int .i64 (.ofNat 32))) v78 (.int .i64 (.ofNat 32))).bind fun y46 => ((asB y46).bind fun y47 => (cond y47 ((binV Tryz.prog .quo 3 (.tmp 82) (.const (.int .i64 (.ofNat 8))) v78 (.int .i64 (.ofNat 8))).bind fun y48 => ((idx 4 y48).bind fun y49 => ((qc b2 (Nat.add 1 (Nat.add 0 y49))).bind fun y50 => ((binV Tryz.prog .rem 3 (.tmp 87) (.const (.int .i64 (.ofNat 8))) v78 (.int .i64 (.ofNat 8))).bind fun y51 => ((binV Tryz.prog .mul 3 (.const (.int .i64 (.ofNat 8))) (.tmp 88) (.int .i64 (.ofNat 8)) y51).bind fun y52 => ((binV Tryz.prog .shr 76 (.tmp 86) (.tmp 89) y50 y52).bind fun y53 => ((cvV Tryz.prog 76 5 y53).bind fun y54 => ((run cxX 36 [ro (ro x1), AV.sc y54] hp).bind fun y55 => ((qo 0 (y55).1).bind fun y56 => ((binV Tryz.prog .add 3 (.tmp 78) (.const (.int .i64 (.ofNat 1))) v78 (.int .i64 (.ofNat 1))).bind fun y57 => (B81_24 x1 y57 b2 (y55).2))))))))))) (some (Prod.mk (AV.tup []) hp))))) :=
 (qe cxX 81 ss81 400 _ _).trans (by kernel_rfl)
theorem B81_7_eq (x1 : AV) (v7 : Value) (b2 : List AV) (hp : Hp) : B81_7 x1 v7 b2 hp = ((binV Tryz.prog .lss 3 (.tmp 26) (.const (.int .i64 (.ofNat 256))) v7 (.int .i64 (.ofNat 256))).bind fun y58 => ((asB y58).bind fun y59 => (cond y59 ((getN b2 0 5).bind fun y60 => ((cvV Tryz.prog 3 5 v7).bind fun y61 => ((qi [AV.agg (List.map ro1 y60), AV.sc y61] []).bind fun y62 => ((run cxX 97 [ro (AV.agg (List.map ro1 y60)), AV.sc y61] hp0).bind fun y63 => ((qm (y63).1).bind fun y64 => ((asSc (y63).1).bind fun y65 => ((unV Tryz.prog .not y65).bind fun y66 => ((asB y66).bind fun y67 => (cond y67 (B81_8 x1 v7 b2 hp) (B81_11 x1 v7 v7 b2 hp)))))))))) (some (Prod.mk (AV.tup []) hp))))) :=
 (qe cxX 81 ss81 400 _ _).trans (by kernel_rfl)
theorem B81_21_eq (x1 : AV) (v64 : Value) (b2 : List AV) (hp : Hp) : B81_21 x1 v64 b2 hp = ((binV Tryz.prog .add 3 (.tmp 64) (.const (.int .i64 (.ofNat 1))) v64 (.int .i64 (.ofNat 1))).bind fun y68 => (B81_17 x1 y68 b2 hp)) :=
 (qe cxX 81 ss81 400 _ _).trans (by kernel_rfl)
theorem B81_8_eq (x1 : AV) (v7 : Value) (b2 : List AV) (hp : Hp) : B81_8 x1 v7 b2 hp = ((binV Tryz.prog .add 3 (.tmp 28) (.const (.int .i64 (.ofNat 1))) v7 (.int .i64 (.ofNat 1))).bind fun y69 => (B81_7 x1 y69 b2 hp)) :=
 (qe cxX 81 ss81 400 _ _).trans (by kernel_rfl)
theorem B81_11_eq (x1 : AV) (v7 v8 : Value) (b2 : List AV) (hp : Hp) : B81_11 x1 v7 v8 b2 hp = ((binV Tryz.prog .lss 3 (.tmp 36) (.const (.int .i64 (.ofNat 255))) v7 (.int .i64 (.ofNat 255))).bind fun y70 => ((asB y70).bind fun y71 => (cond y71 ((getN b2 0 5).bind fun y72 => ((binV Tryz.prog .add 3 (.tmp 40) (.const (.int .i64 (.ofNat 1))) v7 (.int .i64 (.ofNat 1))).bind fun y73 => ((cvV Tryz.prog 3 5 y73).bind fun y74 => ((qi [AV.agg (List.map ro1 y72), AV.sc y74] []).bind fun y75 => ((run cxX 97 [ro (AV.agg (List.map ro1 y72)), AV.sc y74] hp0).bind fun y76 => ((qm (y76).1).bind fun y77 => ((asSc (y76).1).bind fun y78 => ((asB y78).bind fun y79 => (cond y79 (B81_12 x1 v7 v8 b2 hp) (B81_13 x1 v7 v8 b2 hp)))))))))) (B81_13 x1 v7 v8 b2 hp)))) :=
 (qe cxX 81 ss81 400 _ _).trans (by kernel_rfl)
theorem B81_12_eq (x1 : AV) (v7 v8 : Value) (b2 : List AV) (hp : Hp) : B81_12 x1 v7 v8 b2 hp = ((binV Tryz.prog .add 3 (.tmp 45) (.const (.int .i64 (.ofNat 1))) v7 (.int .i64 (.ofNat 1))).bind fun y80 => (B81_11 x1 y80 v8 b2 hp)) :=
 (qe cxX 81 ss81 400 _ _).trans (by kernel_rfl)
theorem B81_13_eq (x1 : AV) (v7 v8 : Value) (b2 : List AV) (hp : Hp) : B81_13 x1 v7 v8 b2 hp = ((cvV Tryz.prog 3 5 v8).bind fun y81 => ((binV Tryz.prog .sub 3 (.tmp 50) (.tmp 51) v7 v8).bind fun y82 => ((cvV Tryz.prog 3 5 y82).bind fun y83 => ((okV [AV.sc y81, AV.sc y83]).bind fun y84 => ((run cxX 35 [ro (ro x1), ro (AV.us 1 [AV.sc y81, AV.sc y83])] hp).bind fun y85 => ((qo 0 (y85).1).bind fun y86 => (B81_8 x1 v7 b2 (y85).2))))))) :=
 (qe cxX 81 ss81 400 _ _).trans (by kernel_rfl)
noncomputable def B96_3 (v3 : Value) (x7 : AV) (v8 : Value) (hp : Hp) : Option (AV × Hp) := go cxX 96 [.code (sub [1, 1, 0, 1, 0, 0, 0] cd96), .code (sub [1, 1, 0, 1, 0, 0, 1] cd96), .inLoop (sub [1, 1, 0, 1, 0, 0] cd96), .inBlock 0, .code (sub [1, 1, 1] cd96)] ⟨[(3, .sv v3), (7, .av x7), (8, .sv v8)], [], hp⟩
theorem E96 (a0 : AV) (hp : Hp) : run cxX 96 [a0] hp = ((qh 5 a0).bind fun y0 => ((getN (List.map ro1 y0) 1 4).bind fun y1 => (B96_3 (.int .i64 (.ofNat 0)) (AV.agg (List.map ro1 y1)) (.int .i64 (.ofNat 0)) hp))) :=
 (qf cxX 96 ss96 400 _ _).trans (by kernel_rfl)
theorem B96_3_eq (v3 : Value) (x7 : AV) (v8 : Value) (hp : Hp) : B96_3 v3 x7 v8 hp = ((binV Tryz.prog .lss 3 (.tmp 8) (.const (.int .i64 (.ofNat 4))) v8 (.int .i64 (.ofNat 4))).bind fun y2 => ((asB y2).bind fun y3 => (cond y3 ((jg x7).bind fun y4 => ((ixV Tryz.prog 139 y4 v8).bind fun y5 => ((qi [AV.sc y5] []).bind fun y6 => ((run cxX 146 [AV.sc y5] hp0).bind fun y7 => ((qm (y7).1).bind fun y8 => ((asSc (y7).1).bind fun y9 => ((binV Tryz.prog .add 3 (.tmp 11) (.tmp 13) v3 y9).bind fun y10 => ((binV Tryz.prog .add 3 (.tmp 8) (.const (.int .i64 (.ofNat 1))) v8 (.int .i64 (.ofNat 1))).bind fun y11 => (B96_3 y10 x7 y11 hp))))))))) (some (Prod.mk (AV.sc v3) hp))))) :=
 (qe cxX 96 ss96 400 _ _).trans (by kernel_rfl)
theorem E97 (a0 a1 : AV) (hp : Hp) : run cxX 97 [a0, a1] hp = ((asSc a1).bind fun y0 => ((qh 5 a0).bind fun y1 => ((binV Tryz.prog .shr 5 (.tmp 5) (.const (.int .u64 (.ofNat 6))) y0 (.int .u64 (.ofNat 6))).bind fun y2 => ((idx 4 y2).bind fun y3 => ((qc (List.map ro1 y1) (Nat.add 1 (Nat.add 0 y3))).bind fun y4 => ((binV Tryz.prog .and 5 (.tmp 10) (.const (.int .u8 (.ofNat 63))) y0 (.int .u8 (.ofNat 63))).bind fun y5 => ((binV Tryz.prog .shr 76 (.tmp 9) (.tmp 11) y4 y5).bind fun y6 => ((binV Tryz.prog .and 76 (.tmp 12) (.const (.int .u64 (.ofNat 1))) y6 (.int .u64 (.ofNat 1))).bind fun y7 => ((binV Tryz.prog .eql 76 (.tmp 13) (.const (.int .u64 (.ofNat 1))) y7 (.int .u64 (.ofNat 1))).bind fun y8 => (some (Prod.mk (AV.sc y8) hp))))))))))) :=
 (qf cxX 97 ss97 400 _ _).trans (by kernel_rfl)
noncomputable def B134_3 (hp : Hp) : Option (AV × Hp) := go cxX 134 [.code (sub [1, 1, 0, 0, 1, 0, 0] cd134), .code (sub [1, 1, 0, 0, 1, 0, 1] cd134), .inBlock 0, .code (sub [1, 1, 1] cd134)] ⟨[], [], hp⟩
noncomputable def B134_4 (v4 : Value) (hp : Hp) : Option (AV × Hp) := go cxX 134 [.code (sub [1, 1, 0, 0, 1, 1, 0] cd134), .code (sub [1, 1, 0, 0, 1, 1, 1] cd134), .inBlock 0, .code (sub [1, 1, 1] cd134)] ⟨[(4, .sv v4)], [], hp⟩
theorem E134 (a0 : AV) (hp : Hp) : run cxX 134 [a0] hp = ((qh 5 a0).bind fun y0 => ((getN (List.map ro1 y0) 0 5).bind fun y1 => ((qi [AV.agg (List.map ro1 y1)] []).bind fun y2 => ((run cxX 96 [ro (AV.agg (List.map ro1 y1))] hp0).bind fun y3 => ((qm (y3).1).bind fun y4 => ((asSc (y3).1).bind fun y5 => ((binV Tryz.prog .add 3 (.tmp 6) (.const (.int .i64 (.ofNat 1))) y5 (.int .i64 (.ofNat 1))).bind fun y6 => ((getN (List.map ro1 y0) 0 5).bind fun y7 => ((qi [AV.agg (List.map ro1 y7)] []).bind fun y8 => ((run cxX 135 [ro (AV.agg (List.map ro1 y7))] hp0).bind fun y9 => ((qm (y9).1).bind fun y10 => ((asSc (y9).1).bind fun y11 => ((binV Tryz.prog .mul 3 (.const (.int .i64 (.ofNat 2))) (.tmp 9) (.int .i64 (.ofNat 2)) y11).bind fun y12 => ((binV Tryz.prog .add 3 (.tmp 10) (.const (.int .i64 (.ofNat 1))) y12 (.int .i64 (.ofNat 1))).bind fun y13 => ((binV Tryz.prog .leq 3 (.tmp 13) (.const (.int .i64 (.ofNat 32))) y6 (.int .i64 (.ofNat 32))).bind fun y14 => ((asB y14).bind fun y15 => (cond y15 ((binV Tryz.prog .leq 3 (.tmp 16) (.tmp 17) y6 y13).bind fun y16 => ((asB y16).bind fun y17 => (cond y17 (B134_3 hp) (B134_4 y13 hp)))) (B134_4 y13 hp)))))))))))))))))) :=
 (qf cxX 134 ss134 400 _ _).trans (by kernel_rfl)
theorem B134_3_eq (hp : Hp) : B134_3 hp = (some (Prod.mk (AV.sc (.int .u8 (.ofNat 0))) hp)) :=
 (qe cxX 134 ss134 400 _ _).trans (by kernel_rfl)
theorem B134_4_eq (v4 : Value) (hp : Hp) : B134_4 v4 hp = ((binV Tryz.prog .leq 3 (.const (.int .i64 (.ofNat 32))) (.tmp 21) (.int .i64 (.ofNat 32)) v4).bind fun y18 => ((asB y18).bind fun y19 => (cond y19 (some (Prod.mk (AV.sc (.int .u8 (.ofNat 1))) hp)) (some (Prod.mk (AV.sc (.int .u8 (.ofNat 2))) hp))))) :=
 (qe cxX 134 ss134 400 _ _).trans (by kernel_rfl)
noncomputable def B135_4 (v3 v4 v7 : Value) (b1 : List AV) (hp : Hp) : Option (AV × Hp) := go cxX 135 [.code (sub [1, 1, 1, 0, 1, 0, 0, 0] yT), .code (sub [1, 1, 1, 0, 1, 0, 0, 1] yT), .inLoop (sub [1, 1, 1, 0, 1, 0, 0] yT), .inBlock 0, .code (sub [1, 1, 1, 1] yT)] ⟨[(1, .lp 1 0 0), (3, .sv v3), (4, .sv v4), (7, .sv v7)], [(1, 0, b1)], hp⟩
noncomputable def B135_8 (v3 v6 v7 : Value) (b1 : List AV) (hp : Hp) : Option (AV × Hp) := go cxX 135 [.code (sub [1, 1, 1, 0, 1, 0, 0, 1, 1, 0, 0, 1, 1, 0, 1, 0] yT), .code (sub [1, 1, 1, 0, 1, 0, 0, 1, 1, 0, 0, 1, 1, 1] yT), .inBlock 1, .code (sub [1, 1, 1, 0, 1, 0, 0, 1, 1, 1] yT), .inLoop (sub [1, 1, 1, 0, 1, 0, 0] yT), .inBlock 0, .code (sub [1, 1, 1, 1] yT)] ⟨[(1, .lp 1 0 0), (3, .sv v3), (6, .sv v6), (7, .sv v7)], [(1, 0, b1)], hp⟩
noncomputable def B135_9 (v3 v6 v7 : Value) (b1 : List AV) (hp : Hp) : Option (AV × Hp) := go cxX 135 [.code (sub [1, 1, 1, 0, 1, 0, 0, 1, 1, 0, 0, 1, 1, 1] yT), .inBlock 1, .code (sub [1, 1, 1, 0, 1, 0, 0, 1, 1, 1] yT), .inLoop (sub [1, 1, 1, 0, 1, 0, 0] yT), .inBlock 0, .code (sub [1, 1, 1, 1] yT)] ⟨[(1, .lp 1 0 0), (3, .sv v3), (6, .sv v6), (7, .sv v7)], [(1, 0, b1)], hp⟩
theorem E135 (a0 : AV) (hp : Hp) : run cxX 135 [a0] hp = ((qh 5 a0).bind fun y0 => (B135_4 (.int .i64 (.ofNat 0)) (.bool false) (.int .i64 (.ofNat 0)) (List.map ro1 y0) hp)) :=
 (qf cxX 135 ss135 400 _ _).trans (by kernel_rfl)
theorem B135_4_eq (v3 v4 v7 : Value) (b1 : List AV) (hp : Hp) : B135_4 v3 v4 v7 b1 hp = ((binV Tryz.prog .lss 3 (.tmp 7) (.const (.int .i64 (.ofNat 256))) v7 (.int .i64 (.ofNat 256))).bind fun y1 => ((asB y1).bind fun y2 => (cond y2 ((getN b1 0 5).bind fun y3 => ((cvV Tryz.prog 3 5 v7).bind fun y4 => ((qi [AV.agg (List.map ro1 y3), AV.sc y4] []).bind fun y5 => ((run cxX 97 [ro (AV.agg (List.map ro1 y3)), AV.sc y4] hp0).bind fun y6 => ((qm (y6).1).bind fun y7 => ((asSc (y6).1).bind fun y8 => ((asB y8).bind fun y9 => (cond y9 ((unV Tryz.prog .not v4).bind fun y10 => ((asB y10).bind fun y11 => (cond y11 (B135_8 v3 y8 v7 b1 hp) (B135_9 v3 y8 v7 b1 hp)))) (B135_9 v3 y8 v7 b1 hp))))))))) (some (Prod.mk (AV.sc v3) hp))))) :=
 (qe cxX 135 ss135 400 _ _).trans (by kernel_rfl)
theorem B135_8_eq (v3 v6 v7 : Value) (b1 : List AV) (hp : Hp) : B135_8 v3 v6 v7 b1 hp = ((binV Tryz.prog .add 3 (.tmp 19) (.const (.int .i64 (.ofNat 1))) v3 (.int .i64 (.ofNat 1))).bind fun y12 => (B135_9 y12 v6 v7 b1 hp)) :=
 (qe cxX 135 ss135 400 _ _).trans (by kernel_rfl)
theorem B135_9_eq (v3 v6 v7 : Value) (b1 : List AV) (hp : Hp) : B135_9 v3 v6 v7 b1 hp = ((binV Tryz.prog .add 3 (.tmp 7) (.const (.int .i64 (.ofNat 1))) v7 (.int .i64 (.ofNat 1))).bind fun y13 => (B135_4 v3 v6 y13 b1 hp)) :=
 (qe cxX 135 ss135 400 _ _).trans (by kernel_rfl)
theorem E146 (a0 : AV) (hp : Hp) : run cxX 146 [a0] hp = ((asSc a0).bind fun y0 => ((binV Tryz.prog .shr 76 (.tmp 3) (.const (.int .u64 (.ofNat 1))) y0 (.int .u64 (.ofNat 1))).bind fun y1 => ((binV Tryz.prog .and 76 (.tmp 4) (.const (.int .u64 (.ofNat 6148914691236517205))) y1 (.int .u64 (.ofNat 6148914691236517205))).bind fun y2 => ((binV Tryz.prog .and 76 (.tmp 6) (.const (.int .u64 (.ofNat 6148914691236517205))) y0 (.int .u64 (.ofNat 6148914691236517205))).bind fun y3 => ((binV Tryz.prog .add 76 (.tmp 5) (.tmp 7) y2 y3).bind fun y4 => ((binV Tryz.prog .shr 76 (.tmp 9) (.const (.int .u64 (.ofNat 2))) y4 (.int .u64 (.ofNat 2))).bind fun y5 => ((binV Tryz.prog .and 76 (.tmp 10) (.const (.int .u64 (.ofNat 3689348814741910323))) y5 (.int .u64 (.ofNat 3689348814741910323))).bind fun y6 => ((binV Tryz.prog .and 76 (.tmp 12) (.const (.int .u64 (.ofNat 3689348814741910323))) y4 (.int .u64 (.ofNat 3689348814741910323))).bind fun y7 => ((binV Tryz.prog .add 76 (.tmp 11) (.tmp 13) y6 y7).bind fun y8 => ((binV Tryz.prog .shr 76 (.tmp 15) (.const (.int .u64 (.ofNat 4))) y8 (.int .u64 (.ofNat 4))).bind fun y9 => ((binV Tryz.prog .add 76 (.tmp 16) (.tmp 17) y9 y8).bind fun y10 => ((binV Tryz.prog .and 76 (.tmp 18) (.const (.int .u64 (.ofNat 1085102592571150095))) y10 (.int .u64 (.ofNat 1085102592571150095))).bind fun y11 => ((binV Tryz.prog .shr 76 (.tmp 21) (.const (.int .u64 (.ofNat 8))) y11 (.int .u64 (.ofNat 8))).bind fun y12 => ((binV Tryz.prog .add 76 (.tmp 20) (.tmp 22) y11 y12).bind fun y13 => ((binV Tryz.prog .shr 76 (.tmp 25) (.const (.int .u64 (.ofNat 16))) y13 (.int .u64 (.ofNat 16))).bind fun y14 => ((binV Tryz.prog .add 76 (.tmp 24) (.tmp 26) y13 y14).bind fun y15 => ((binV Tryz.prog .shr 76 (.tmp 29) (.const (.int .u64 (.ofNat 32))) y15 (.int .u64 (.ofNat 32))).bind fun y16 => ((binV Tryz.prog .add 76 (.tmp 28) (.tmp 30) y15 y16).bind fun y17 => ((cvV Tryz.prog 76 3 y17).bind fun y18 => ((binV Tryz.prog .and 3 (.tmp 33) (.const (.int .i64 (.ofNat 127))) y18 (.int .i64 (.ofNat 127))).bind fun y19 => (some (Prod.mk (AV.sc y19) hp)))))))))))))))))))))) :=
 (qf cxX 146 ss146 400 _ _).trans (by kernel_rfl)
theorem E168 (a0 : AV) (hp : Hp) : run cxX 168 [a0] hp = ((asSc a0).bind fun y0 => ((qi [AV.sc y0] []).bind fun y1 => ((run cxX 180 [AV.sc y0] hp0).bind fun y2 => ((qm (y2).1).bind fun y3 => ((asSc (y2).1).bind fun y4 => ((binV Tryz.prog .sub 3 (.const (.int .i64 (.ofNat 64))) (.tmp 4) (.int .i64 (.ofNat 64)) y4).bind fun y5 => (some (Prod.mk (AV.sc y5) hp)))))))) :=
 (qf cxX 168 ss168 400 _ _).trans (by kernel_rfl)
noncomputable def B180_4 (v0 v2 : Value) (hp : Hp) : Option (AV × Hp) := go cxX 180 [.code (sub [1, 1, 0, 0] cd180), .code (sub [1, 1, 0, 1] cd180), .code (sub [1, 1, 1] cd180)] ⟨[(0, .sv v0), (2, .sv v2)], [], hp⟩
noncomputable def B180_7 (v0 v2 : Value) (hp : Hp) : Option (AV × Hp) := go cxX 180 [.code (sub [1, 1, 1, 0, 0] cd180), .code (sub [1, 1, 1, 0, 1] cd180), .code (sub [1, 1, 1, 1] cd180)] ⟨[(0, .sv v0), (2, .sv v2)], [], hp⟩
noncomputable def B180_10 (v0 v2 : Value) (hp : Hp) : Option (AV × Hp) := go cxX 180 [.code (sub [1, 1, 1, 1, 0] cd180), .code (sub [1, 1, 1, 1, 1] cd180)] ⟨[(0, .sv v0), (2, .sv v2)], [], hp⟩
theorem E180 (a0 : AV) (hp : Hp) : run cxX 180 [a0] hp = ((asSc a0).bind fun y0 => ((binV Tryz.prog .geq 76 (.tmp 3) (.const (.int .u64 (.ofNat 4294967296))) y0 (.int .u64 (.ofNat 4294967296))).bind fun y1 => ((asB y1).bind fun y2 => (cond y2 ((binV Tryz.prog .shr 76 (.tmp 5) (.const (.int .u64 (.ofNat 32))) y0 (.int .u64 (.ofNat 32))).bind fun y3 => (B180_4 y3 (.int .i64 (.ofNat 32)) hp)) (B180_4 y0 (.int .i64 (.ofNat 0)) hp))))) :=
 (qf cxX 180 ss180 400 _ _).trans (by kernel_rfl)
theorem B180_4_eq (v0 v2 : Value) (hp : Hp) : B180_4 v0 v2 hp = ((binV Tryz.prog .geq 76 (.tmp 7) (.const (.int .u64 (.ofNat 65536))) v0 (.int .u64 (.ofNat 65536))).bind fun y4 => ((asB y4).bind fun y5 => (cond y5 ((binV Tryz.prog .shr 76 (.tmp 9) (.const (.int .u64 (.ofNat 16))) v0 (.int .u64 (.ofNat 16))).bind fun y6 => ((binV Tryz.prog .add 3 (.tmp 11) (.const (.int .i64 (.ofNat 16))) v2 (.int .i64 (.ofNat 16))).bind fun y7 => (B180_7 y6 y7 hp))) (B180_7 v0 v2 hp)))) :=
 (qe cxX 180 ss180 400 _ _).trans (by kernel_rfl)
theorem B180_7_eq (v0 v2 : Value) (hp : Hp) : B180_7 v0 v2 hp = ((binV Tryz.prog .geq 76 (.tmp 13) (.const (.int .u64 (.ofNat 256))) v0 (.int .u64 (.ofNat 256))).bind fun y8 => ((asB y8).bind fun y9 => (cond y9 ((binV Tryz.prog .shr 76 (.tmp 15) (.const (.int .u64 (.ofNat 8))) v0 (.int .u64 (.ofNat 8))).bind fun y10 => ((binV Tryz.prog .add 3 (.tmp 17) (.const (.int .i64 (.ofNat 8))) v2 (.int .i64 (.ofNat 8))).bind fun y11 => (B180_10 y10 y11 hp))) (B180_10 v0 v2 hp)))) :=
 (qe cxX 180 ss180 400 _ _).trans (by kernel_rfl)
theorem B180_10_eq (v0 v2 : Value) (hp : Hp) : B180_10 v0 v2 hp = ((cvV Tryz.prog 76 5 v0).bind fun y12 => ((ixV Tryz.prog 9 (Value.string (ByteArray.mk (Array.mk [0, 1, 2, 2, 3, 3, 3, 3, 4, 4, 4, 4, 4, 4, 4, 4, 5, 5, 5, 5, 5, 5, 5, 5, 5, 5, 5, 5, 5, 5, 5, 5, 6, 6, 6, 6, 6, 6, 6, 6, 6, 6, 6, 6, 6, 6, 6, 6, 6, 6, 6, 6, 6, 6, 6, 6, 6, 6, 6, 6, 6, 6, 6, 6, 7, 7, 7, 7, 7, 7, 7, 7, 7, 7, 7, 7, 7, 7, 7, 7, 7, 7, 7, 7, 7, 7, 7, 7, 7, 7, 7, 7, 7, 7, 7, 7, 7, 7, 7, 7, 7, 7, 7, 7, 7, 7, 7, 7, 7, 7, 7, 7, 7, 7, 7, 7, 7, 7, 7, 7, 7, 7, 7, 7, 7, 7, 7, 7, 8, 8, 8, 8, 8, 8, 8, 8, 8, 8, 8, 8, 8, 8, 8, 8, 8, 8, 8, 8, 8, 8, 8, 8, 8, 8, 8, 8, 8, 8, 8, 8, 8, 8, 8, 8, 8, 8, 8, 8, 8, 8, 8, 8, 8, 8, 8, 8, 8, 8, 8, 8, 8, 8, 8, 8, 8, 8, 8, 8, 8, 8, 8, 8, 8, 8, 8, 8, 8, 8, 8, 8, 8, 8, 8, 8, 8, 8, 8, 8, 8, 8, 8, 8, 8, 8, 8, 8, 8, 8, 8, 8, 8, 8, 8, 8, 8, 8, 8, 8, 8, 8, 8, 8, 8, 8, 8, 8, 8, 8, 8, 8, 8, 8, 8, 8, 8, 8, 8, 8, 8, 8, 8, 8, 8, 8, 8, 8]))) y12).bind fun y13 => ((cvV Tryz.prog 5 3 y13).bind fun y14 => ((binV Tryz.prog .add 3 (.tmp 19) (.tmp 23) v2 y14).bind fun y15 => (some (Prod.mk (AV.sc y15) hp)))))) :=
 (qe cxX 180 ss180 400 _ _).trans (by kernel_rfl)
def pcn (m : Nat) : Nat → Nat
 | 0 => 0
 | n + 1 => pcn m n + (m.testBit n).toNat
theorem pcn_split (m a : Nat) : ∀ b, pcn m (a + b) = pcn m a + pcn (m / 2 ^ a) b := by
 intro b
 induction b with
 | zero => rfl
 | succ b ih =>
  show pcn m (a + b) + (m.testBit (a + b)).toNat = pcn m a + (pcn (m / 2 ^ a) b + ((m / 2 ^ a).testBit b).toNat)
  rw [ih, Nat.testBit_div_two_pow, Nat.add_comm b a]
  omega
theorem pcn_le (m : Nat) : ∀ n, pcn m n ≤ n := by
 intro n
 induction n with
 | zero => exact Nat.le_refl _
 | succ n ih =>
  show pcn m n + _ ≤ n + 1
  have := b2n (m.testBit n)
  omega
theorem pcn_mod (m k : Nat) : ∀ n, n ≤ k → pcn (m % 2 ^ k) n = pcn m n := by
 intro n
 induction n with
 | zero => intro _; rfl
 | succ n ih =>
  intro h
  show pcn (m % 2 ^ k) n + _ = pcn m n + _
  rw [ih (by omega), Nat.testBit_mod_two_pow]
  simp [show n < k by omega]
def mkB (c : Nat) : Nat → Nat
 | 0 => 0
 | k + 1 => mkB c k * 256 + c
theorem yV (a b c d : Nat) (hb : b < 256) (hd : d < 256) : (a * 256 + b) &&& (c * 256 + d) = (a &&& c) * 256 + (b &&& d) := by
 have hbd : b &&& d < 256 := Nat.lt_of_le_of_lt Nat.and_le_left hb
 apply Nat.eq_of_testBit_eq
 intro i
 have e1 := Nat.testBit_two_pow_mul_add a (i := 8) hb i
 have e2 := Nat.testBit_two_pow_mul_add c (i := 8) hd i
 have e3 := Nat.testBit_two_pow_mul_add (a &&& c) (i := 8) hbd i
 have q : ∀ x y, 2 ^ 8 * x + y = x * 256 + y := fun x y => by omega
 rw [q] at e1 e2 e3
 rw [Nat.testBit_and, e1, e2, e3]
 by_cases h : i < 8
 ·rw [if_pos h, if_pos h, if_pos h, Nat.testBit_and]
 ·rw [if_neg h, if_neg h, if_neg h, Nat.testBit_and]
def f1 (k x : Nat) : Nat := ((x / 2) &&& mkB 85 k) + (x &&& mkB 85 k)
def f2 (k x : Nat) : Nat := ((x / 4) &&& mkB 51 k) + (x &&& mkB 51 k)
def f3 (k x : Nat) : Nat := (x / 16 + x) &&& mkB 15 k
theorem byte1 : ∀ b, b < 256 → ∀ t, t < 2 → (t * 128 + b / 2) &&& 85 = (b / 2) &&& 85 := by decide
theorem byte2 : ∀ b, b < 256 → ∀ t, t < 4 → (t * 64 + b / 4) &&& 51 = (b / 4) &&& 51 := by decide
theorem f1_split (k a b : Nat) (hb : b < 256) : f1 (k + 1) (a * 256 + b) = f1 k a * 256 + f1 1 b := by
 unfold f1
 have e : (a * 256 + b) / 2 = a / 2 * 256 + (a % 2 * 128 + b / 2) := by omega
 have m : mkB 85 (k + 1) = mkB 85 k * 256 + 85 := rfl
 have m1 : mkB 85 1 = 85 := rfl
 rw [e, m, m1, yV _ _ _ _ (by omega) (by omega), yV _ _ _ _ hb (by omega), byte1 b hb _ (by omega)]
 omega
theorem f2_split (k a b : Nat) (hb : b < 256) : f2 (k + 1) (a * 256 + b) = f2 k a * 256 + f2 1 b := by
 unfold f2
 have e : (a * 256 + b) / 4 = a / 4 * 256 + (a % 4 * 64 + b / 4) := by omega
 have m : mkB 51 (k + 1) = mkB 51 k * 256 + 51 := rfl
 have m1 : mkB 51 1 = 51 := rfl
 rw [e, m, m1, yV _ _ _ _ (by omega) (by omega), yV _ _ _ _ hb (by omega), byte2 b hb _ (by omega)]
 omega
theorem f1_byte : ∀ b, b < 256 → f1 1 b < 256 := by decide
theorem f2_byte : ∀ b, b < 256 → f2 1 (f1 1 b) < 256 ∧ f2 1 (f1 1 b) % 16 ≤ 4 ∧ f2 1 (f1 1 b) / 16 ≤ 4 ∧ f3 1 (f2 1 (f1 1 b)) = pcn b 8 := by decide
def f12 (k x : Nat) : Nat := f2 k (f1 k x)
theorem f12_split (k a b : Nat) (hb : b < 256) : f12 (k + 1) (a * 256 + b) = f12 k a * 256 + f12 1 b := by
 unfold f12
 rw [f1_split k a b hb, f2_split k _ _ (f1_byte b hb)]
theorem f12_low (k x : Nat) (h : x < 256 ^ k) : f12 k x % 16 ≤ 4 := by
 cases k with
 | zero =>
  have : x = 0 := by omega
  subst this
  decide
 | succ k =>
  have e : x = x / 256 * 256 + x % 256 := by omega
  rw [e, f12_split k _ _ (by omega)]
  have := (f2_byte (x % 256) (by omega)).2.1
  unfold f12 at *
  omega
theorem f3_split (k a b : Nat) (ha : a < 256 ^ k) (hb : b < 256) : f3 (k + 1) (f12 (k + 1) (a * 256 + b)) = f3 k (f12 k a) * 256 + pcn b 8 := by
 rw [f12_split k a b hb]
 have hl := f12_low k a ha
 have hB := f2_byte b hb
 have e12 : f12 1 b = f2 1 (f1 1 b) := rfl
 rw [← hB.2.2.2, e12]
 generalize f2 1 (f1 1 b) = B at *
 generalize f12 k a = A at *
 obtain ⟨h1, h2, h3, _⟩ := hB
 unfold f3
 have e : (A * 256 + B) / 16 + (A * 256 + B) = (A / 16 + A) * 256 + (A % 16 * 16 + B / 16 + B) := by omega
 have m : mkB 15 (k + 1) = mkB 15 k * 256 + 15 := rfl
 have m1 : mkB 15 1 = 15 := rfl
 rw [e, m, m1, yV _ _ _ _ (by omega) (by omega)]
 congr 1
 have q : ∀ x, x &&& 15 = x % 16 := fun x => Nat.and_two_pow_sub_one_eq_mod x 4
 rw [q, q]
 omega
def cB (x : Nat) : Nat → Nat
 | 0 => 0
 | k + 1 => cB (x / 256) k * 256 + pcn (x % 256) 8
theorem f3_all : ∀ (k x : Nat), x < 256 ^ k → f3 k (f12 k x) = cB x k := by
 intro k
 induction k with
 | zero =>
  intro x h
  have : x = 0 := by omega
  subst this
  decide
 | succ k ih =>
  intro x h
  have e : x = x / 256 * 256 + x % 256 := by omega
  have h2 : x / 256 < 256 ^ k := by rw [Nat.pow_succ] at h; omega
  have := f3_split k (x / 256) (x % 256) h2 (by omega)
  rw [← e, ih _ h2] at this
  exact this
theorem pcn_bytes (x : Nat) : pcn x 64 = pcn (x % 256) 8 + (pcn (x / 256 % 256) 8 + (pcn (x / 256 / 256 % 256) 8 + (pcn (x / 256 / 256 / 256 % 256) 8 + (pcn (x / 256 / 256 / 256 / 256 % 256) 8 +
  (pcn (x / 256 / 256 / 256 / 256 / 256 % 256) 8 + (pcn (x / 256 / 256 / 256 / 256 / 256 / 256 % 256) 8 + pcn (x / 256 / 256 / 256 / 256 / 256 / 256 / 256 % 256) 8)))))) := by
 have s : ∀ y n, pcn y (8 + n) = pcn (y % 256) 8 + pcn (y / 256) n := fun y n => by
  rw [pcn_split y 8 n]
  have := pcn_mod y 8 8 (Nat.le_refl _)
  rw [← this]
 have e64 : (64 : Nat) = 8 + (8 + (8 + (8 + (8 + (8 + (8 + (8 + 0))))))) := rfl
 rw [e64]
 simp only [s]
 rfl
theorem pop_last (c : Nat) (c0 c1 c2 c3 c4 c5 c6 c7 : Nat) (h0 : c0 ≤ 8) (h1 : c1 ≤ 8) (h2 : c2 ≤ 8) (h3 : c3 ≤ 8) (h4 : c4 ≤ 8) (h5 : c5 ≤ 8) (h6 : c6 ≤ 8) (h7 : c7 ≤ 8)
  (h : c = ((((((c7 * 256 + c6) * 256 + c5) * 256 + c4) * 256 + c3) * 256 + c2) * 256 + c1) * 256 + c0) :
  c < 651061555542690057 ∧ ∃ d, d = c + c / 256 ∧ ∃ e, e = d + d / 65536 ∧ e + e / 4294967296 < 9223372036854775808 ∧ (e + e / 4294967296) % 128 = c0 + (c1 + (c2 + (c3 + (c4 + (c5 + (c6 + c7)))))) := by
 obtain ⟨A7, hA7⟩ : ∃ A, A = c7 := ⟨_, rfl⟩
 obtain ⟨A6, hA6⟩ : ∃ A, A = A7 * 256 + c6 := ⟨_, rfl⟩
 obtain ⟨A5, hA5⟩ : ∃ A, A = A6 * 256 + c5 := ⟨_, rfl⟩
 obtain ⟨A4, hA4⟩ : ∃ A, A = A5 * 256 + c4 := ⟨_, rfl⟩
 obtain ⟨A3, hA3⟩ : ∃ A, A = A4 * 256 + c3 := ⟨_, rfl⟩
 obtain ⟨A2, hA2⟩ : ∃ A, A = A3 * 256 + c2 := ⟨_, rfl⟩
 obtain ⟨A1, hA1⟩ : ∃ A, A = A2 * 256 + c1 := ⟨_, rfl⟩
 rw [← hA7, ← hA6, ← hA5, ← hA4, ← hA3, ← hA2, ← hA1] at h
 have dv : ∀ a b : Nat, b < 256 → (a * 256 + b) / 256 = a := fun a b hb => by omega
 have b7 : A7 ≤ 8 := by omega
 have b6 : A6 ≤ 2056 := by omega
 have b5 : A5 ≤ 526344 := by omega
 have b4 : A4 ≤ 134744072 := by omega
 have b3 : A3 ≤ 34494482440 := by omega
 have b2 : A2 ≤ 8830587504648 := by omega
 have b1 : A1 ≤ 2260630401189896 := by omega
 have b0 : c ≤ 578721382704613384 := by omega
 have e0 : c / 256 = A1 := by rw [h]; exact dv A1 c0 (by omega)
 -- the first sum
 have s7 : A7 = 0 * 256 + c7 := by omega
 have s6 : A6 + A7 = A7 * 256 + (c6 + c7) := by omega
 have s5 : A5 + A6 = (A6 + A7) * 256 + (c5 + c6) := by omega
 have s4 : A4 + A5 = (A5 + A6) * 256 + (c4 + c5) := by omega
 have s3 : A3 + A4 = (A4 + A5) * 256 + (c3 + c4) := by omega
 have s2 : A2 + A3 = (A3 + A4) * 256 + (c2 + c3) := by omega
 have s1 : A1 + A2 = (A2 + A3) * 256 + (c1 + c2) := by omega
 have s0 : c + A1 = (A1 + A2) * 256 + (c0 + c1) := by omega
 refine ⟨by omega, _, rfl, _, rfl, ?_⟩
 rw [e0]
 generalize hd : c + A1 = d at *
 generalize hB1 : A1 + A2 = B1 at *
 generalize hB2 : A2 + A3 = B2 at *
 generalize hB3 : A3 + A4 = B3 at *
 generalize hB4 : A4 + A5 = B4 at *
 generalize hB5 : A5 + A6 = B5 at *
 generalize hB6 : A6 + A7 = B6 at *
 have e1 : d / 65536 = B2 := by
  have : d / 65536 = d / 256 / 256 := by rw [Nat.div_div_eq_div_mul]
  rw [this, s0, dv _ _ (by omega), s1, dv _ _ (by omega)]
 have t6 : B6 = A7 * 256 + (c6 + c7) := s6
 have t4 : B4 + B6 = (B5 + A7) * 256 + (c4 + c5 + (c6 + c7)) := by omega
 have t3 : B3 + B5 = (B4 + B6) * 256 + (c3 + c4 + (c5 + c6)) := by omega
 have t2 : B2 + B4 = (B3 + B5) * 256 + (c2 + c3 + (c4 + c5)) := by omega
 have t1 : B1 + B3 = (B2 + B4) * 256 + (c1 + c2 + (c3 + c4)) := by omega
 have t0 : d + B2 = (B1 + B3) * 256 + (c0 + c1 + (c2 + c3)) := by omega
 rw [e1]
 have hde : d + B2 ≤ 600000000000000000 := by omega
 generalize hE0 : d + B2 = E0 at *
 generalize hE1 : B1 + B3 = E1 at *
 generalize hE2 : B2 + B4 = E2 at *
 generalize hE3 : B3 + B5 = E3 at *
 generalize hE4 : B4 + B6 = E4 at *
 have e2 : E0 / 4294967296 = E4 := by
  have : E0 / 4294967296 = E0 / 256 / 256 / 256 / 256 := by rw [Nat.div_div_eq_div_mul, Nat.div_div_eq_div_mul, Nat.div_div_eq_div_mul]
  rw [this, t0, dv _ _ (by omega), t1, dv _ _ (by omega), t2, dv _ _ (by omega), t3, dv _ _ (by omega)]
 rw [e2]
 have hE4b : E4 ≤ 1000000000000 := by omega
 clear hd hB1 hB2 hB3 hB4 hB5 hB6 s0 s1 s2 s3 s4 s5 s6 s7 h hA1 hA2 hA3 hA4 hA5 hA6 hA7 e0 e1 t1 t2 t3 t6 hE0 hE1 hE2 hE3 hE4 e2
 refine ⟨by omega, ?_⟩
 have m : ∀ a b s t : Nat, (a * 256 + s + (b * 256 + t)) % 128 = (s + t) % 128 := fun a b s t => by omega
 rw [t0, t4, m]
 omega
def rcn (m : Nat) : Nat → Nat
 | 0 => 0
 | n + 1 => rcn m n + (m.testBit n && !(decide (0 < n) && m.testBit (n - 1))).toNat
def arrF (m : Nat) : Nat → Nat → List Int
 | 0, _ => []
 | f + 1, i => if m.testBit i then (i : Int) :: arrF m f (i + 1) else arrF m f (i + 1)
def bmpF (m : Nat) : Nat → Nat → List Int
 | 0, _ => []
 | f + 1, i => ((m / 2 ^ (8 * i) % 256 : Nat) : Int) :: bmpF m f (i + 1)
def rend (m : Nat) : Nat → Nat → Nat
 | 0, i => i
 | f + 1, i => if m.testBit (i + 1) then rend m f (i + 1) else i
def rnF (m : Nat) : Nat → Nat → List Int
 | 0, _ => []
 | f + 1, i => if 256 ≤ i then [] else if m.testBit i then (i : Int) :: ((rend m (255 - i) i - i : Nat) : Int) :: rnF m f (rend m (255 - i) i + 1) else rnF m f (i + 1)
def kind (m : Nat) : Nat := if pcn m 256 + 1 ≤ 32 ∧ pcn m 256 + 1 ≤ 2 * rcn m 256 + 1 then 0 else if 32 ≤ 2 * rcn m 256 + 1 then 1 else 2
def bodY (m : Nat) : List Int := if kind m = 0 then ((pcn m 256 - 1 : Nat) : Int) :: arrF m 256 0 else if kind m = 1 then bmpF m 32 0 else ((rcn m 256 - 1 : Nat) : Int) :: rnF m 256 0
def chkY (c : Nat × Nat) : List Int := uv c.1 ++ ((kind c.2 : Nat) : Int) :: bodY c.2
def rowY : List (Nat × Nat) → List Int
 | [] => []
 | c :: r => chkY c ++ rowY r
def roaY (cs : List (Nat × Nat)) : List Int := uv cs.length ++ rowY cs
def putC (x : Nat) : List (Nat × Nat) → List (Nat × Nat)
 | [] => [(x / 256, 2 ^ (x % 256))]
 | c :: r => if c.1 = x / 256 then (c.1, c.2 ||| 2 ^ (x % 256)) :: r else (x / 256, 2 ^ (x % 256)) :: c :: r
def chs : List Nat → List (Nat × Nat)
 | [] => []
 | x :: r => putC x (chs r)
theorem rcn_le (m : Nat) : ∀ n, rcn m n ≤ pcn m n := by
 intro n
 induction n with
 | zero => exact Nat.le_refl _
 | succ n ih =>
  show rcn m n + _ ≤ pcn m n + _
  cases m.testBit n
  ·simpa using ih
  ·have := b2n (true && !(decide (0 < n) && m.testBit (n - 1)))
   have e : true.toNat = 1 := rfl
   omega
theorem arrF_len (m : Nat) : ∀ f i, (arrF m f i).length + pcn m i = pcn m (i + f) := by
 intro f
 induction f with
 | zero => intro i; simp [arrF]
 | succ f ih =>
  intro i
  have h := ih (i + 1)
  have e : i + 1 + f = i + (f + 1) := by omega
  rw [e] at h
  have e2 : pcn m (i + 1) = pcn m i + (m.testBit i).toNat := rfl
  rw [e2] at h
  unfold arrF
  cases hb : m.testBit i
  ·rw [hb] at h; simpa using h
  ·rw [hb] at h
   have e3 : true.toNat = 1 := rfl
   simp only [if_true, List.length_cons]
   omega
@[simp] theorem bmpF_len (m : Nat) : ∀ f i, (bmpF m f i).length = f := by
 intro f
 induction f with
 | zero => intro i; rfl
 | succ f ih => intro i; simp [bmpF, ih]
theorem rend_ok (m : Nat) : ∀ f i, i ≤ rend m f i ∧ rend m f i ≤ i + f ∧ (∀ j, i < j → j ≤ rend m f i → m.testBit j = true) ∧ (rend m f i < i + f → m.testBit (rend m f i + 1) = false) := by
 intro f
 induction f with
 | zero => intro i; exact ⟨Nat.le_refl _, Nat.le_refl _, fun j h1 h2 => by have h2 : j ≤ i := h2; omega, fun h => by have h : i < i + 0 := h; omega⟩
 | succ f ih =>
  intro i
  unfold rend
  by_cases hb : m.testBit (i + 1) = true
  ·rw [if_pos hb]
   obtain ⟨h1, h2, h3, h4⟩ := ih (i + 1)
   refine ⟨by omega, by omega, fun j a b => ?_, fun h => h4 (by omega)⟩
   by_cases e : j = i + 1
   ·subst e; exact hb
   ·exact h3 j (by omega) b
  ·rw [if_neg hb]
   exact ⟨Nat.le_refl _, by omega, fun j a b => by omega, fun _ => by simpa using hb⟩
def inR (j : Nat) : List Int → Prop
 | a :: b :: r => (a ≤ (j : Int) ∧ (j : Int) ≤ a + b) ∨ inR j r
 | _ => False
theorem rnF_in (m : Nat) : ∀ f i, 256 ≤ i + f → ∀ j, inR j (rnF m f i) ↔ (i ≤ j ∧ j < 256 ∧ m.testBit j = true) := by
  intro f
  induction f with
  | zero => intro i h j; show False ↔ _; constructor
            · intro h; cases h
            · intro h; omega
  | succ f ih =>
    intro i h j
    unfold rnF
    by_cases h1 : 256 ≤ i
    · rw [if_pos h1]
      show False ↔ _
      constructor
      · intro h; cases h
      · intro h; omega
    · rw [if_neg h1]
      by_cases hb : m.testBit i = true
      · rw [if_pos hb]
        obtain ⟨r1, r2, r3, r4⟩ := rend_ok m (255 - i) i
        have hi := ih (rend m (255 - i) i + 1) (by omega) j
        generalize rend m (255 - i) i = e at *
        show (((i : Int) ≤ (j : Int) ∧ (j : Int) ≤ (i : Int) + ((e - i : Nat) : Int)) ∨ inR j _) ↔ _
        rw [hi]
        constructor
        · rintro (q | q)
          · refine ⟨by omega, by omega, ?_⟩
            by_cases ej : j = i
            · subst ej; exact hb
            · exact r3 j (by omega) (by omega)
          · exact ⟨by omega, q.2.1, q.2.2⟩
        · intro q
          by_cases q1 : j ≤ e
          · exact .inl ⟨by omega, by omega⟩
          · exact .inr ⟨by omega, q.2.1, q.2.2⟩
      · rw [if_neg hb, ih (i + 1) (by omega) j]
        constructor
        · intro q; exact ⟨by omega, q.2.1, q.2.2⟩
        · intro q
          by_cases ej : j = i
          · subst ej; exact absurd q.2.2 hb
          · exact ⟨by omega, q.2.1, q.2.2⟩
theorem rnF_len (m : Nat) : ∀ f i, 256 ≤ i + f → i ≤ 256 → (i = 0 ∨ i = 256 ∨ m.testBit (i - 1) = false ∨ m.testBit i = false) → (rnF m f i).length + 2 * rcn m i = 2 * rcn m 256 := by
  intro f
  induction f with
  | zero => intro i h hi _; have : i = 256 := by omega
            subst this; simp [rnF]
  | succ f ih =>
    intro i h hi hs
    unfold rnF
    by_cases h1 : 256 ≤ i
    · rw [if_pos h1]
      have : i = 256 := by omega
      subst this; simp
    · rw [if_neg h1]
      have e1 : rcn m (i + 1) = rcn m i + (m.testBit i && !(decide (0 < i) && m.testBit (i - 1))).toNat := rfl
      by_cases hb : m.testBit i = true
      · rw [if_pos hb]
        obtain ⟨r1, r2, r3, r4⟩ := rend_ok m (255 - i) i
        have e2 : rcn m (i + 1) = rcn m i + 1 := by
          rw [e1, hb]
          have : (decide (0 < i) && m.testBit (i - 1)) = false := by
            rcases hs with q | q | q | q
            · simp [q]
            · omega
            · simp [q]
            · rw [hb] at q; cases q
          rw [this]; rfl
        have e3 : ∀ d, i + 1 + d ≤ rend m (255 - i) i + 1 → rcn m (i + 1 + d) = rcn m (i + 1) := by
          intro d
          induction d with
          | zero => intro _; rfl
          | succ d ihd =>
            intro hd
            have := ihd (by omega)
            have e4 : rcn m (i + 1 + (d + 1)) = rcn m (i + 1 + d) + (m.testBit (i + 1 + d) && !(decide (0 < i + 1 + d) && m.testBit (i + 1 + d - 1))).toNat := rfl
            have e5 : m.testBit (i + 1 + d - 1) = true := by
              by_cases q : d = 0
              · subst q; exact hb
              · exact r3 _ (by omega) (by omega)
            have e8 : (decide (0 < i + 1 + d)) = true := by simp; omega
            rw [e4, this, e5, e8]
            simp
        have e6 := e3 (rend m (255 - i) i - i) (by omega)
        have e7 : i + 1 + (rend m (255 - i) i - i) = rend m (255 - i) i + 1 := by omega
        rw [e7, e2] at e6
        have hi2 := ih (rend m (255 - i) i + 1) (by omega) (by omega) (by
          by_cases q : rend m (255 - i) i < i + (255 - i)
          · exact .inr (.inr (.inr (r4 q)))
          · exact .inr (.inl (by omega)))
        simp only [List.length_cons]
        omega
      · rw [if_neg hb]
        have hb' : m.testBit i = false := by simpa using hb
        have e2 : rcn m (i + 1) = rcn m i := by rw [e1, hb']; rfl
        have := ih (i + 1) (by omega) (by omega) (.inr (.inr (.inl (by simpa using hb'))))
        omega
theorem rnF_len0 (m : Nat) : (rnF m 256 0).length = 2 * rcn m 256 := by
 have h := rnF_len m 256 0 (by omega) (by omega) (.inl rfl)
 have e : rcn m 0 = 0 := rfl
 omega
theorem arrF_len0 (m : Nat) : (arrF m 256 0).length = pcn m 256 := by
 have h := arrF_len m 256 0
 have e : pcn m 0 = 0 := rfl
 have e2 : 0 + 256 = 256 := rfl
 rw [e2] at h
 omega
theorem pcn_pos : ∀ (n m : Nat), 0 < pcn m n → ∃ j, j < n ∧ m.testBit j = true := by
 intro n
 induction n with
 | zero => intro m h; cases h
 | succ n ih =>
  intro m h
  cases hb : m.testBit n
  ·have e : pcn m (n + 1) = pcn m n + (m.testBit n).toNat := rfl
   rw [e, hb] at h
   obtain ⟨j, h1, h2⟩ := ih m h
   exact ⟨j, by omega, h2⟩
  ·exact ⟨n, by omega, hb⟩
theorem pos_pcn : ∀ (n m j : Nat), j < n → m.testBit j = true → 0 < pcn m n := by
 intro n
 induction n with
 | zero => intro m j h; omega
 | succ n ih =>
  intro m j h hb
  have e : pcn m (n + 1) = pcn m n + (m.testBit n).toNat := rfl
  rw [e]
  by_cases hj : j = n
  ·subst hj; rw [hb]; exact Nat.succ_pos _
  ·have := ih m j (by omega) hb; omega
theorem rcn_pos {m : Nat} (h : 0 < pcn m 256) : 0 < rcn m 256 := by
 obtain ⟨j, h1, h2⟩ := pcn_pos 256 m h
 by_cases hr : rcn m 256 = 0
 ·have h3 := rnF_len0 m
  rw [hr] at h3
  have h4 : rnF m 256 0 = [] := List.length_eq_zero_iff.mp h3
  have h5 := (rnF_in m 256 0 (by omega) j).mpr ⟨by omega, h1, h2⟩
  rw [h4] at h5
  cases h5
 ·omega
def okC (c : Nat × Nat) : Prop := c.1 < 16777216 ∧ c.2 < 2 ^ 256 ∧ 0 < pcn c.2 256
theorem qZ (i j : Nat) : (2 ^ i).testBit j = decide (i = j) := Nat.testBit_two_pow
theorem or_lt {m x : Nat} (hm : m < 2 ^ 256) : m ||| 2 ^ (x % 256) < 2 ^ 256 := Nat.or_lt_two_pow hm (Nat.pow_lt_pow_right (by decide) (by omega))
theorem pow_lt' (x : Nat) : 2 ^ (x % 256) < 2 ^ 256 := Nat.pow_lt_pow_right (by decide) (by omega)
theorem zy (x : Nat) (c : Nat × Nat) (r : List (Nat × Nat)) : putC x (c :: r) = if c.1 = x / 256 then (c.1, c.2 ||| 2 ^ (x % 256)) :: r else (x / 256, 2 ^ (x % 256)) :: c :: r := rfl
theorem putC_ok {x : Nat} (hx : x < 4294967296) : ∀ {cs : List (Nat × Nat)}, (∀ c ∈ cs, okC c) → ∀ c ∈ putC x cs, okC c := by
 intro cs h c hc
 have new : okC (x / 256, 2 ^ (x % 256)) := ⟨by show x / 256 < _; omega, pow_lt' x, pos_pcn 256 _ (x % 256) (by omega) (by rw [qZ]; simp)⟩
 cases cs with
 | nil =>
  have e : c = (x / 256, 2 ^ (x % 256)) := by simpa [putC] using hc
  rw [e]; exact new
 | cons d r =>
  have hd := h d (by simp)
  rw [zy] at hc
  split at hc
  ·rcases List.mem_cons.mp hc with e | e
   ·rw [e]
    refine ⟨hd.1, or_lt hd.2.1, pos_pcn 256 _ (x % 256) (by omega) ?_⟩
    show (d.2 ||| 2 ^ (x % 256)).testBit _ = _
    rw [Nat.testBit_or, qZ]; simp
   ·exact h c (by simp [e])
  ·rcases List.mem_cons.mp hc with e | e
   ·rw [e]; exact new
   ·exact h c e
theorem chs_ok : ∀ {l : List Nat}, (∀ x ∈ l, x < 4294967296) → ∀ c ∈ chs l, okC c := by
 intro l
 induction l with
 | nil => intro _ c hc; cases hc
 | cons x r ih => intro h; exact putC_ok (h x (by simp)) (ih fun y hy => h y (by simp [hy]))
theorem chs_mem : ∀ (l : List Nat), zw l → ((∀ c ∈ chs l, ∀ x ∈ l.head?, x / 256 ≤ c.1) ∧ ∀ y, y ∈ l ↔ ∃ c ∈ chs l, c.1 = y / 256 ∧ c.2.testBit (y % 256) = true) := by
 intro l
 induction l with
 | nil => intro _; exact ⟨fun c hc => (by cases hc), fun y => by simp [chs]⟩
 | cons x r ih =>
  intro hr
  have hr2 : zw r := by cases r with
   | nil => trivial
   | cons z s => exact hr.2
  obtain ⟨i1, i2⟩ := ih hr2
  have hge : ∀ c ∈ chs r, x / 256 ≤ c.1 := by
   intro c hc
   cases r with
   | nil => cases hc
   | cons z s =>
    have h1 := i1 c hc z (by simp)
    have h2 := hr.1
    have : x / 256 ≤ z / 256 := Nat.div_le_div_right (Nat.le_of_lt h2)
    omega
  have e : chs (x :: r) = putC x (chs r) := rfl
  rw [e]
  constructor
  ·intro c hc z hz
   have hz : x = z := by simpa using hz
   subst hz
   cases hq : chs r with
   | nil =>
    rw [hq] at hc
    have : c = (x / 256, 2 ^ (x % 256)) := by simpa [putC] using hc
    rw [this]; exact Nat.le_refl _
   | cons d s =>
    rw [hq] at hc hge
    rw [zy] at hc
    split at hc
    ·rcases List.mem_cons.mp hc with e | e
     ·rw [e]; exact hge d (by simp)
     ·exact hge c (by simp [e])
    ·rcases List.mem_cons.mp hc with e | e
     ·rw [e]; exact Nat.le_refl _
     ·exact hge c e
  ·intro y
   rw [List.mem_cons, i2]
   cases hq : chs r with
   | nil =>
    simp only [putC, List.mem_singleton, exists_eq_left, List.not_mem_nil, false_and, exists_false, or_false, qZ, decide_eq_true_eq]
    constructor
    ·intro h; subst h; exact ⟨rfl, rfl⟩
    ·intro h; omega
   | cons d s =>
    rw [zy]
    split
    ·rename_i hd
     constructor
     ·rintro (h | ⟨c, hc, h1, h2⟩)
      ·subst h
       exact ⟨_, List.mem_cons_self, hd, by show (d.2 ||| _).testBit _ = true; rw [Nat.testBit_or, qZ]; simp⟩
      ·rcases List.mem_cons.mp hc with e | e
       ·subst e
        exact ⟨_, List.mem_cons_self, h1, by show (c.2 ||| _).testBit _ = true; rw [Nat.testBit_or, h2]; rfl⟩
       ·exact ⟨c, by simp [e], h1, h2⟩
     ·rintro ⟨c, hc, h1, h2⟩
      rcases List.mem_cons.mp hc with e | e
      ·subst e
       rw [Nat.testBit_or, qZ] at h2
       by_cases hy : x % 256 = y % 256
       ·left
        have h1 : d.1 = y / 256 := h1
        omega
       ·right
        exact ⟨d, by simp, h1, by simpa [hy] using h2⟩
      ·exact .inr ⟨c, by simp [e], h1, h2⟩
    ·rename_i hd
     constructor
     ·rintro (h | ⟨c, hc, h1, h2⟩)
      ·subst h
       exact ⟨_, List.mem_cons_self, rfl, by show (2 ^ _).testBit _ = true; rw [qZ]; simp⟩
      ·exact ⟨c, List.mem_cons_of_mem _ hc, h1, h2⟩
     ·rintro ⟨c, hc, h1, h2⟩
      rcases List.mem_cons.mp hc with e | e
      ·subst e
       rw [qZ] at h2
       have h1 : x / 256 = y / 256 := h1
       have h2 : x % 256 = y % 256 := by simpa using h2
       left; omega
      ·exact .inr ⟨c, e, h1, h2⟩
theorem rising_lt : ∀ (l : List Nat) (x : Nat), zw (x :: l) → ∀ y ∈ l, x < y := by
 intro l
 induction l with
 | nil => intro x _ y h; cases h
 | cons z s ih =>
  intro x h y hy
  rcases List.mem_cons.mp hy with e | e
  ·rw [e]; exact h.1
  ·have := ih z h.2 y e; have := h.1; omega
theorem rising_tail {x : Nat} {l : List Nat} (h : zw (x :: l)) : zw l := by
 cases l with
 | nil => trivial
 | cons z s => exact h.2
noncomputable def B38_11 (x0 x5 x6 : AV) (v7 : Value) (x38 : AV) (v39 v40 : Value) (b2 b4 : List AV) (hp : Hp) : Option (AV × Hp) := go cxX 38 [.code (sub [1, 1, 1, 1, 1, 1, 1, 1, 0, 1, 0, 0, 0] cd38), .code (sub [1, 1, 1, 1, 1, 1, 1, 1, 0, 1, 0, 0, 1] cd38), .inLoop (sub [1, 1, 1, 1, 1, 1, 1, 1, 0, 1, 0, 0] cd38), .inBlock 0, .code (sub [1, 1, 1, 1, 1, 1, 1, 1, 1] cd38)] ⟨[(0, .av x0), (2, .lp 2 0 0), (4, .lp 4 0 0), (5, .av x5), (6, .av x6), (7, .sv v7), (38, .av x38), (39, .sv v39), (40, .sv v40)], [(2, 0, b2), (4, 0, b4)], hp⟩
noncomputable def B38_14 (b2 : List AV) (hp : Hp) : Option (AV × Hp) := go cxX 38 [.code (sub [1, 1, 1, 1, 1, 1, 1, 1, 0, 1, 0, 0, 1, 1, 0, 0, 1, 0, 1, 0, 0] cd38), .code (sub [1, 0, 1, 0, 1] cd38), .code (sub [1, 1, 1, 1, 1, 1, 1, 1, 0, 1, 0, 0, 1, 1, 0, 0, 1, 1] cd38), .inBlock 1, .code (sub [1, 1, 1, 1, 1, 1, 1, 1, 0, 1, 0, 0, 1, 1, 1] cd38), .inLoop (sub [1, 1, 1, 1, 1, 1, 1, 1, 0, 1, 0, 0] cd38), .inBlock 0, .code (sub [1, 1, 1, 1, 1, 1, 1, 1, 1] cd38)] ⟨[(2, .lp 2 0 0)], [(2, 0, b2)], hp⟩
noncomputable def B38_15 (x0 x5 x6 : AV) (v7 v9 : Value) (x38 : AV) (v39 v40 : Value) (b2 b4 : List AV) (hp : Hp) : Option (AV × Hp) := go cxX 38 [.code (sub [1, 1, 1, 1, 1, 1, 1, 1, 0, 1, 0, 0, 1, 1, 0, 0, 1, 1, 0] cd38), .code (sub [1, 1, 1, 1, 1, 1, 1, 1, 0, 1, 0, 0, 1, 1, 0, 0, 1, 1, 1] cd38), .inBlock 1, .code (sub [1, 1, 1, 1, 1, 1, 1, 1, 0, 1, 0, 0, 1, 1, 1] cd38), .inLoop (sub [1, 1, 1, 1, 1, 1, 1, 1, 0, 1, 0, 0] cd38), .inBlock 0, .code (sub [1, 1, 1, 1, 1, 1, 1, 1, 1] cd38)] ⟨[(0, .av x0), (2, .lp 2 0 0), (4, .lp 4 0 0), (5, .av x5), (6, .av x6), (7, .sv v7), (9, .sv v9), (38, .av x38), (39, .sv v39), (40, .sv v40)], [(2, 0, b2), (4, 0, b4)], hp⟩
theorem E38 (a0 : AV) (hp : Hp) : run cxX 38 [a0] hp = ((lenA (ro a0)).bind fun y0 => ((binV Tryz.prog .gtr 3 (.tmp 11) (.const (.int .i64 (.ofNat 4096))) (.int .i64 (.ofNat y0)) (.int .i64 (.ofNat 4096))).bind fun y1 => ((asB y1).bind fun y2 => (cond y2 (some (Prod.mk (AV.tup [AV.agg [AV.sc (.int .i64 (.ofNat 0)), AV.sc (.int .u32 (.ofNat 0)), AV.sc (.int .i64 (.ofNat 0)), AV.sc (.slice none 0 0), AV.sc (.slice none 0 0)], AV.sc (.int .i64 (.ofNat 7))]) hp)) ((lenA (ro a0)).bind fun y3 => ((lenA (ro a0)).bind fun y4 => ((binV Tryz.prog .eql 3 (.tmp 18) (.const (.int .i64 (.ofNat 0))) (.int .i64 (.ofNat y4)) (.int .i64 (.ofNat 0))).bind fun y5 => ((asB y5).bind fun y6 => (cond y6 (some (Prod.mk (AV.tup [AV.agg [AV.sc (.int .i64 (.ofNat y3)), AV.sc (.int .u32 (.ofNat 0)), AV.sc (.int .i64 (.ofNat 0)), AV.sc (.slice none 0 0), AV.sc (.slice none 0 0)], AV.sc (.int .i64 (.ofNat 0))]) hp)) ((lenA (ro a0)).bind fun y7 => ((binV Tryz.prog .sub 3 (.tmp 23) (.const (.int .i64 (.ofNat 1))) (.int .i64 (.ofNat y7)) (.int .i64 (.ofNat 1))).bind fun y8 => ((idxA 1 (ro a0) y8).bind fun y9 => ((qc y9 0).bind fun y10 => ((lenA (ro a0)).bind fun y11 => ((qc [AV.sc (.int .i64 (.ofNat y3)), AV.sc y10, AV.sc (.int .i64 (.ofNat 0)), AV.sc (.slice none 0 0), AV.sc (.slice none 0 0)] 1).bind fun y12 => ((qi [AV.sc (.int .i64 (.ofNat y11)), AV.sc y12] []).bind fun y13 => ((run cxX 91 [AV.sc (.int .i64 (.ofNat y11)), AV.sc y12] hp0).bind fun y14 => ((qm (y14).1).bind fun y15 => ((asSc (y14).1).bind fun y16 => ((lenA (ro a0)).bind fun y17 => (B38_11 a0 (AV.ptr (hp).1 0 0) (AV.ptr ((Hp.new hp [ro1 (AV.sc (.slice none 0 0)), ro1 (AV.sc (.int .i64 (.ofNat 0)))])).1 0 0) (.int .u32 (.ofNat 0)) (ro a0) (.int .i64 (.ofNat y17)) (.int .i64 (.ofNat 0)) [AV.sc (.int .i64 (.ofNat 0)), AV.sc (.int .u32 (.ofNat 0)), AV.sc (.int .i64 (.ofNat 0)), AV.sc (.slice none 0 0), AV.sc (.slice none 0 0)] [AV.sc (.int .i64 (.ofNat y3)), AV.sc y10, AV.sc y16, AV.sc (.slice none 0 0), AV.sc (.slice none 0 0)] (Hp.new (Hp.new hp [ro1 (AV.sc (.slice none 0 0)), ro1 (AV.sc (.int .i64 (.ofNat 0)))]) [ro1 (AV.sc (.slice none 0 0)), ro1 (AV.sc (.int .i64 (.ofNat 0)))])))))))))))))))))))))) :=
 (qf cxX 38 ss38 400 _ _).trans (by kernel_rfl)
theorem B38_11_eq (x0 x5 x6 : AV) (v7 : Value) (x38 : AV) (v39 v40 : Value) (b2 b4 : List AV) (hp : Hp) : B38_11 x0 x5 x6 v7 x38 v39 v40 b2 b4 hp = ((binV Tryz.prog .lss 3 (.tmp 40) (.tmp 39) v40 v39).bind fun y18 => ((asB y18).bind fun y19 => (cond y19 ((idxA 1 x38 v40).bind fun y20 => ((qc y20 0).bind fun y21 => ((binV Tryz.prog .gtr 3 (.tmp 45) (.const (.int .i64 (.ofNat 0))) v40 (.int .i64 (.ofNat 0))).bind fun y22 => ((asB y22).bind fun y23 => (cond y23 ((binV Tryz.prog .sub 3 (.tmp 50) (.const (.int .i64 (.ofNat 1))) v40 (.int .i64 (.ofNat 1))).bind fun y24 => ((idxA 1 (ro x0) y24).bind fun y25 => ((qc y25 0).bind fun y26 => ((binV Tryz.prog .lss 30 (.tmp 48) (.tmp 53) y21 y26).bind fun y27 => ((asB y27).bind fun y28 => (cond y28 (B38_14 b2 hp) (B38_15 x0 x5 x6 v7 y21 x38 v39 v40 b2 b4 hp))))))) (B38_15 x0 x5 x6 v7 y21 x38 v39 v40 b2 b4 hp)))))) ((run cxX 87 [ro (ro x5)] hp).bind fun y29 => ((qM (y29).1).bind fun y30 => ((run cxX 87 [ro (ro x6)] (y29).2).bind fun y31 => ((qM (y31).1).bind fun y32 => ((qh 1 (y29).1).bind fun y33 => ((putN b4 3 y33).bind fun y34 => ((qh 1 (y31).1).bind fun y35 => ((putN y34 4 y35).bind fun y36 => ((getN y36 0 5).bind fun y37 => ((putN y36 0 (List.map ro1 y37)).bind fun y38 => ((qh 5 (AV.agg y37)).bind fun y39 => ((putN b2 0 y39).bind fun y40 => ((getN y40 0 5).bind fun y41 => (some (Prod.mk (AV.tup [AV.agg y41, AV.sc (.int .i64 (.ofNat 0))]) (y31).2)))))))))))))))))) :=
 (qe cxX 38 ss38 400 _ _).trans (by kernel_rfl)
theorem B38_15_eq (x0 x5 x6 : AV) (v7 v9 : Value) (x38 : AV) (v39 v40 : Value) (b2 b4 : List AV) (hp : Hp) : B38_15 x0 x5 x6 v7 v9 x38 v39 v40 b2 b4 hp = ((cvV Tryz.prog 30 76 v9).bind fun y44 => ((qc b4 2).bind fun y45 => ((run cxX 86 [ro (ro x5), AV.sc y44, AV.sc y45] hp).bind fun y46 => ((qo 0 (y46).1).bind fun y47 => ((qc b4 2).bind fun y48 => ((binV Tryz.prog .shr 30 (.tmp 64) (.tmp 66) v9 y48).bind fun y49 => ((binV Tryz.prog .sub 30 (.tmp 67) (.tmp 68) y49 v7).bind fun y50 => ((cvV Tryz.prog 30 3 y50).bind fun y51 => ((run cxX 85 [ro (ro x6), AV.sc y51] (y46).2).bind fun y52 => ((qo 0 (y52).1).bind fun y53 => ((qc b4 2).bind fun y54 => ((binV Tryz.prog .shr 30 (.tmp 72) (.tmp 74) v9 y54).bind fun y55 => ((binV Tryz.prog .add 3 (.tmp 40) (.const (.int .i64 (.ofNat 1))) v40 (.int .i64 (.ofNat 1))).bind fun y56 => (B38_11 x0 x5 x6 y55 x38 v39 y56 b2 b4 (y52).2)))))))))))))) :=
 (qe cxX 38 ss38 400 _ _).trans (by kernel_rfl)
theorem E39 (a0 a1 : AV) (hp : Hp) : run cxX 39 [a0, a1] hp = ((qh 5 a0).bind fun y0 => ((qc (List.map ro1 y0) 0).bind fun y1 => ((cvV Tryz.prog 3 76 y1).bind fun y2 => ((run cxX 25 [ro (ro a1), AV.sc y2] hp).bind fun y3 => ((qo 0 (y3).1).bind fun y4 => ((qc (List.map ro1 y0) 1).bind fun y5 => ((cvV Tryz.prog 30 76 y5).bind fun y6 => ((run cxX 25 [ro (ro a1), AV.sc y6] (y3).2).bind fun y7 => ((qo 0 (y7).1).bind fun y8 => ((getC (List.map ro1 y0) 3).bind fun y9 => ((run cxX 35 [ro (ro a1), ro (ro1 y9)] (y7).2).bind fun y10 => ((qo 0 (y10).1).bind fun y11 => ((getC (List.map ro1 y0) 4).bind fun y12 => ((lenA (ro1 y12)).bind fun y13 => ((cvV Tryz.prog 3 76 (.int .i64 (.ofNat y13))).bind fun y14 => ((run cxX 25 [ro (ro a1), AV.sc y14] (y10).2).bind fun y15 => ((qo 0 (y15).1).bind fun y16 => ((getC (List.map ro1 y0) 4).bind fun y17 => ((run cxX 35 [ro (ro a1), ro (ro1 y17)] (y15).2).bind fun y18 => ((qo 0 (y18).1).bind fun y19 => (some (Prod.mk (AV.tup []) (y18).2)))))))))))))))))))))) :=
 (qf cxX 39 ss39 400 _ _).trans (by kernel_rfl)
noncomputable def B91_2 (v0 v1 v5 : Value) (hp : Hp) : Option (AV × Hp) := go cxX 91 [.code (sub [1, 1, 0, 0, 0, 0, 0] cd91), .code (sub [1, 1, 0, 0, 0, 0, 1] cd91), .code (sub [1, 1, 0, 0, 0, 1] cd91), .inLoop (sub [1, 1, 0, 0, 0] cd91), .inBlock 0, .code (sub [1, 1, 1] cd91)] ⟨[(0, .sv v0), (1, .sv v1), (5, .sv v5)], [], hp⟩
noncomputable def B91_3 (v0 v1 v5 : Value) (hp : Hp) : Option (AV × Hp) := go cxX 91 [.code (sub [1, 1, 0, 0, 0, 1, 0] cd91), .inBlock 1, .inLoop (sub [1, 1, 0, 0, 0] cd91), .inBlock 0, .code (sub [1, 1, 1] cd91)] ⟨[(0, .sv v0), (1, .sv v1), (5, .sv v5)], [], hp⟩
noncomputable def B91_4 (v5 : Value) (hp : Hp) : Option (AV × Hp) := go cxX 91 [.code (sub [1, 1, 1, 0] cd91), .code (sub [1, 1, 1, 1] cd91)] ⟨[(5, .sv v5)], [], hp⟩
theorem E91 (a0 a1 : AV) (hp : Hp) : run cxX 91 [a0, a1] hp = ((asSc a0).bind fun y0 => ((asSc a1).bind fun y1 => (B91_2 y0 y1 (.int .i64 (.ofNat 0)) hp))) :=
 (qf cxX 91 ss91 400 _ _).trans (by kernel_rfl)
theorem B91_2_eq (v0 v1 v5 : Value) (hp : Hp) : B91_2 v0 v1 v5 hp = ((binV Tryz.prog .gtr 3 (.tmp 6) (.const (.int .i64 (.ofNat 0))) v0 (.int .i64 (.ofNat 0))).bind fun y2 => ((asB y2).bind fun y3 => (cond y3 ((cvV Tryz.prog 30 76 v1).bind fun y4 => ((binV Tryz.prog .add 3 (.tmp 11) (.const (.int .i64 (.ofNat 1))) v5 (.int .i64 (.ofNat 1))).bind fun y5 => ((binV Tryz.prog .shr 76 (.tmp 10) (.tmp 12) y4 y5).bind fun y6 => ((cvV Tryz.prog 3 76 v0).bind fun y7 => ((binV Tryz.prog .geq 76 (.tmp 13) (.tmp 15) y6 y7).bind fun y8 => ((asB y8).bind fun y9 => (cond y9 (B91_3 v0 v1 v5 hp) (B91_4 v5 hp)))))))) (B91_4 v5 hp)))) :=
 (qe cxX 91 ss91 400 _ _).trans (by kernel_rfl)
theorem B91_3_eq (v0 v1 v5 : Value) (hp : Hp) : B91_3 v0 v1 v5 hp = ((binV Tryz.prog .add 3 (.tmp 18) (.const (.int .i64 (.ofNat 1))) v5 (.int .i64 (.ofNat 1))).bind fun y10 => (B91_2 v0 v1 y10 hp)) :=
 (qe cxX 91 ss91 400 _ _).trans (by kernel_rfl)
theorem B91_4_eq (v5 : Value) (hp : Hp) : B91_4 v5 hp = (some (Prod.mk (AV.sc v5) hp)) :=
 (qe cxX 91 ss91 400 _ _).trans (by kernel_rfl)
def jk : List Nat → Prop
 | [] => True
 | [_] => True
 | x :: y :: r => x ≤ y ∧ jk (y :: r)
def lowG (n last : Nat) : Nat → Nat → Nat
 | 0, k => k
 | f + 1, k => if 0 < n ∧ n ≤ last / 2 ^ (k + 1) then lowG n last f (k + 1) else k
def lowF (n last : Nat) : Nat := lowG n last 33 0
def jE (k : Nat) : List Nat → List Bool
 | [] => []
 | x :: r => nbs x k ++ jE k r
def zD (k w : Nat) : List Nat → List Bool
 | [] => []
 | x :: r => una (x / 2 ^ k - w) ++ zD k (x / 2 ^ k) r
def qT (l : List Nat) : Nat := l.getD (l.length - 1) 0
def fanK (l : List Nat) : Nat := lowF l.length (qT l)
def fanY (l : List Nat) : List Int := uv l.length ++ uv (qT l) ++ pk (jE (fanK l) l) ++ uv (pk (zD (fanK l) 0 l)).length ++ pk (zD (fanK l) 0 l)
@[simp] theorem lowsB_len (k : Nat) (l : List Nat) : (jE k l).length = l.length * k := by
 induction l with
 | nil => simp [jE]
 | cons x r ih => simp [jE, ih, Nat.add_mul]; omega
theorem lowG_ok (n last : Nat) (hn : 0 < n) (hl : last < 4294967296) : ∀ (f k : Nat), k + f = 33 → lowG n last f k ≤ 33 ∧ last / 2 ^ (lowG n last f k + 1) < n := by
 intro f
 induction f with
 | zero =>
  intro k h
  have e : k = 33 := by omega
  subst e
  refine ⟨Nat.le_refl _, ?_⟩
  show last / 2 ^ 34 < n
  have : last / 2 ^ 34 = 0 := Nat.div_eq_of_lt (Nat.lt_of_lt_of_le hl (by decide))
  omega
 | succ f ih =>
  intro k h
  unfold lowG
  split
  ·exact ih (k + 1) (by omega)
  ·rename_i h1
   refine ⟨by omega, ?_⟩
   by_cases h2 : n ≤ last / 2 ^ (k + 1)
   ·exact absurd ⟨hn, h2⟩ h1
   ·omega
theorem lowG_le (n last : Nat) (hl : last < 4294967296) : ∀ (f k : Nat), k ≤ 32 → lowG n last f k ≤ 32 := by
 intro f
 induction f with
 | zero => intro k h; exact h
 | succ f ih =>
  intro k h
  unfold lowG
  split
  ·rename_i h1
   apply ih
   by_cases h2 : k = 32
   ·subst h2
    have : last / 2 ^ 33 = 0 := Nat.div_eq_of_lt (Nat.lt_of_lt_of_le hl (by decide))
    have h3 := h1.2
    have e : (32 : Nat) + 1 = 33 := rfl
    rw [e, this] at h3
    omega
   ·omega
  ·exact h
theorem lowF_le (n last : Nat) (hl : last < 4294967296) : lowF n last ≤ 32 := lowG_le n last hl 33 0 (by omega)
theorem lowF_two {n last : Nat} (hn : 0 < n) (hl : last < 4294967296) : last / 2 ^ lowF n last < 2 * n := by
 have h := (lowG_ok n last hn hl 33 0 rfl).2
 have e : last / 2 ^ (lowF n last + 1) = last / 2 ^ lowF n last / 2 := by rw [Nat.pow_succ, Nat.div_div_eq_div_mul]
 have h' : last / 2 ^ (lowF n last + 1) < n := h
 omega
theorem lastN_cons (x y : Nat) (r : List Nat) : qT (x :: y :: r) = qT (y :: r) := rfl
theorem highB_len (k : Nat) : ∀ (l : List Nat) (p : Nat), jk (p :: l) → (zD k (p / 2 ^ k) l).length + p / 2 ^ k = l.length + qT (p :: l) / 2 ^ k := by
 intro l
 induction l with
 | nil => intro p _; simp [zD, qT]
 | cons x r ih =>
  intro p h
  have hi := ih x h.2
  have hd : p / 2 ^ k ≤ x / 2 ^ k := Nat.div_le_div_right h.1
  rw [lastN_cons]
  simp only [zD, List.length_append, una_len, List.length_cons]
  omega
theorem nofall_zero : ∀ {l : List Nat}, jk l → jk (0 :: l) := by
 intro l h
 cases l with
 | nil => trivial
 | cons x r => exact ⟨Nat.zero_le _, h⟩
theorem highB_len0 (k : Nat) (l : List Nat) (h : jk l) : (zD k 0 l).length = l.length + qT l / 2 ^ k := by
 have h1 := highB_len k l 0 (nofall_zero h)
 rw [Nat.zero_div, Nat.add_zero] at h1
 rw [h1]
 cases l with
 | nil => rfl
 | cons x r => rw [lastN_cons]
noncomputable def B34_7 (x0 : AV) (v5 : Value) (x6 : AV) (v20 v21 : Value) (hp : Hp) : Option (AV × Hp) := go cxX 34 [.code (sub [1, 1, 1, 1, 0, 1, 0, 0, 0] cd34), .code (sub [1, 1, 1, 1, 0, 1, 0, 0, 1] cd34), .inLoop (sub [1, 1, 1, 1, 0, 1, 0, 0] cd34), .inBlock 0, .code (sub [1, 1, 1, 1, 1] cd34)] ⟨[(0, .av x0), (5, .sv v5), (6, .av x6), (20, .sv v20), (21, .sv v21)], [], hp⟩
theorem E34 (a0 : AV) (hp : Hp) : run cxX 34 [a0] hp = ((qi [ro a0] []).bind fun y0 => ((run cxX 82 [ro (ro a0)] hp0).bind fun y1 => ((qm (y1).1).bind fun y2 => ((asSc (y1).1).bind fun y3 => ((binV Tryz.prog .neq 57 (.tmp 12) (.const (.int .i64 (.ofNat 0))) y3 (.int .i64 (.ofNat 0))).bind fun y4 => ((asB y4).bind fun y5 => (cond y5 (some (Prod.mk (AV.tup [AV.sc (.slice none 0 0), AV.sc y3]) hp)) ((qi [ro a0] []).bind fun y6 => ((run cxX 83 [ro (ro a0)] hp0).bind fun y7 => ((qm (y7).1).bind fun y8 => ((asSc (y7).1).bind fun y9 => ((lenA (ro a0)).bind fun y10 => (B34_7 a0 y9 (AV.ptr (hp).1 0 0) (.int .i64 (.ofNat y10)) (.int .i64 (.ofNat 0)) (Hp.new hp [ro1 (AV.sc (.slice none 0 0)), ro1 (AV.sc (.int .i64 (.ofNat 0)))])))))))))))))) :=
 (qf cxX 34 ss34 400 _ _).trans (by kernel_rfl)
theorem B34_7_eq (x0 : AV) (v5 : Value) (x6 : AV) (v20 v21 : Value) (hp : Hp) : B34_7 x0 v5 x6 v20 v21 hp = ((binV Tryz.prog .lss 3 (.tmp 21) (.tmp 20) v21 v20).bind fun y11 => ((asB y11).bind fun y12 => (cond y12 ((qi [ro x0, AV.sc v21] []).bind fun y13 => ((run cxX 84 [ro (ro x0), AV.sc v21] hp0).bind fun y14 => ((qm (y14).1).bind fun y15 => ((asSc (y14).1).bind fun y16 => ((binV Tryz.prog .shr 76 (.tmp 28) (.tmp 29) y16 v5).bind fun y17 => ((cvV Tryz.prog 76 3 y17).bind fun y18 => ((run cxX 85 [ro (ro x6), AV.sc y18] hp).bind fun y19 => ((qo 0 (y19).1).bind fun y20 => ((run cxX 86 [ro (ro x6), AV.sc y16, AV.sc v5] (y19).2).bind fun y21 => ((qo 0 (y21).1).bind fun y22 => ((binV Tryz.prog .add 3 (.tmp 21) (.const (.int .i64 (.ofNat 1))) v21 (.int .i64 (.ofNat 1))).bind fun y23 => (B34_7 x0 v5 x6 v20 y23 (y21).2)))))))))))) ((lenA (ro x0)).bind fun y24 => ((cvV Tryz.prog 3 76 (.int .i64 (.ofNat y24))).bind fun y25 => ((run cxX 25 [ro (ro (AV.ptr (hp).1 0 0)), AV.sc y25] (Hp.new hp [ro1 (AV.sc (.slice none 0 0))])).bind fun y26 => ((qo 0 (y26).1).bind fun y27 => ((cvV Tryz.prog 3 5 v5).bind fun y28 => ((run cxX 36 [ro (ro (AV.ptr (hp).1 0 0)), AV.sc y28] (y26).2).bind fun y29 => ((qo 0 (y29).1).bind fun y30 => ((run cxX 87 [ro (ro x6)] (y29).2).bind fun y31 => ((qM (y31).1).bind fun y32 => ((lenA (y31).1).bind fun y33 => ((cvV Tryz.prog 3 76 (.int .i64 (.ofNat y33))).bind fun y34 => ((run cxX 25 [ro (ro (AV.ptr (hp).1 0 0)), AV.sc y34] (y31).2).bind fun y35 => ((qo 0 (y35).1).bind fun y36 => ((run cxX 87 [ro (ro x6)] (y35).2).bind fun y37 => ((qM (y37).1).bind fun y38 => ((run cxX 35 [ro (ro (AV.ptr (hp).1 0 0)), ro (y37).1] (y37).2).bind fun y39 => ((qo 0 (y39).1).bind fun y40 => ((run cxX 13 [ro (ro (AV.ptr (hp).1 0 0))] (y39).2).bind fun y41 => ((qM (y41).1).bind fun y42 => (some (Prod.mk (AV.tup ((y41).1 :: [AV.sc (.int .i64 (.ofNat 0))])) (y41).2)))))))))))))))))))))))) :=
 (qe cxX 34 ss34 400 _ _).trans (by kernel_rfl)
noncomputable def B82_4 (x0 : AV) (v3 : Value) (hp : Hp) : Option (AV × Hp) := go cxX 82 [.code (sub [1, 1, 0, 1, 0, 0, 0, 0] cd82), .code (sub [1, 1, 0, 1, 0, 0, 0, 1] cd82), .code (sub [1, 1, 0, 1, 0, 0, 1] cd82), .inLoop (sub [1, 1, 0, 1, 0, 0] cd82), .inBlock 0, .code (sub [1, 1, 1] cd82)] ⟨[(0, .av x0), (3, .sv v3)], [], hp⟩
theorem E82 (a0 : AV) (hp : Hp) : run cxX 82 [a0] hp = ((lenA (ro a0)).bind fun y0 => ((binV Tryz.prog .gtr 3 (.tmp 5) (.const (.int .i64 (.ofNat 4096))) (.int .i64 (.ofNat y0)) (.int .i64 (.ofNat 4096))).bind fun y1 => ((asB y1).bind fun y2 => (cond y2 (some (Prod.mk (AV.sc (.int .i64 (.ofNat 7))) hp)) (B82_4 a0 (.int .i64 (.ofNat 1)) hp))))) :=
 (qf cxX 82 ss82 400 _ _).trans (by kernel_rfl)
theorem B82_4_eq (x0 : AV) (v3 : Value) (hp : Hp) : B82_4 x0 v3 hp = ((lenA (ro x0)).bind fun y3 => ((binV Tryz.prog .lss 3 (.tmp 7) (.tmp 9) v3 (.int .i64 (.ofNat y3))).bind fun y4 => ((asB y4).bind fun y5 => (cond y5 ((idxA 1 (ro x0) v3).bind fun y6 => ((qc y6 0).bind fun y7 => ((binV Tryz.prog .sub 3 (.tmp 18) (.const (.int .i64 (.ofNat 1))) v3 (.int .i64 (.ofNat 1))).bind fun y8 => ((idxA 1 (ro x0) y8).bind fun y9 => ((qc y9 0).bind fun y10 => ((binV Tryz.prog .leq 76 (.tmp 16) (.tmp 21) y7 y10).bind fun y11 => ((asB y11).bind fun y12 => (cond y12 (some (Prod.mk (AV.sc (.int .i64 (.ofNat 8))) hp)) ((binV Tryz.prog .add 3 (.tmp 11) (.const (.int .i64 (.ofNat 1))) v3 (.int .i64 (.ofNat 1))).bind fun y13 => (B82_4 x0 y13 hp)))))))))) (some (Prod.mk (AV.sc (.int .i64 (.ofNat 0))) hp)))))) :=
 (qe cxX 82 ss82 400 _ _).trans (by kernel_rfl)
noncomputable def B83_3 (x0 : AV) (v3 v4 v8 : Value) (hp : Hp) : Option (AV × Hp) := go cxX 83 [.code (sub [1, 1, 0, 1, 0, 0, 0] cd83), .code (sub [1, 1, 0, 1, 0, 0, 1] cd83), .inLoop (sub [1, 1, 0, 1, 0, 0] cd83), .inBlock 0, .code (sub [1, 1, 1] cd83)] ⟨[(0, .av x0), (3, .sv v3), (4, .sv v4), (8, .sv v8)], [], hp⟩
noncomputable def B83_7 (x0 : AV) (v5 v6 v8 : Value) (hp : Hp) : Option (AV × Hp) := go cxX 83 [.code (sub [1, 1, 0, 1, 0, 0, 1, 1, 0, 0, 1, 1, 1, 0] cd83), .inBlock 1, .code (sub [1, 1, 0, 1, 0, 0, 1, 1, 1] cd83), .inLoop (sub [1, 1, 0, 1, 0, 0] cd83), .inBlock 0, .code (sub [1, 1, 1] cd83)] ⟨[(0, .av x0), (5, .sv v5), (6, .sv v6), (8, .sv v8)], [], hp⟩
noncomputable def B83_8 (x0 : AV) (v3 v4 v8 : Value) (hp : Hp) : Option (AV × Hp) := go cxX 83 [.code (sub [1, 1, 0, 1, 0, 0, 1, 1, 1] cd83), .inLoop (sub [1, 1, 0, 1, 0, 0] cd83), .inBlock 0, .code (sub [1, 1, 1] cd83)] ⟨[(0, .av x0), (3, .sv v3), (4, .sv v4), (8, .sv v8)], [], hp⟩
theorem E83 (a0 : AV) (hp : Hp) : run cxX 83 [a0] hp = (B83_3 a0 (.int .i64 (.ofNat 63)) (.int .i64 (Int.negSucc 0)) (.int .i64 (.ofNat 0)) hp) :=
 (qf cxX 83 ss83 400 _ _).trans (by kernel_rfl)
theorem B83_3_eq (x0 : AV) (v3 v4 v8 : Value) (hp : Hp) : B83_3 x0 v3 v4 v8 hp = ((binV Tryz.prog .lss 3 (.tmp 8) (.const (.int .i64 (.ofNat 64))) v8 (.int .i64 (.ofNat 64))).bind fun y0 => ((asB y0).bind fun y1 => (cond y1 ((qi [ro x0, AV.sc v8] []).bind fun y2 => ((run cxX 136 [ro (ro x0), AV.sc v8] hp0).bind fun y3 => ((qm (y3).1).bind fun y4 => ((qo 2 (y3).1).bind fun y5 => ((asSc (ro (nthA (y3).1 0))).bind fun y6 => ((asSc (ro (nthA (y3).1 1))).bind fun y7 => ((asB y7).bind fun y8 => (cond y8 ((binV Tryz.prog .lss 3 (.tmp 19) (.const (.int .i64 (.ofNat 0))) v4 (.int .i64 (.ofNat 0))).bind fun y9 => ((asB y9).bind fun y10 => (cond y10 (B83_7 x0 v8 y6 v8 hp) ((binV Tryz.prog .lss 3 (.tmp 22) (.tmp 23) y6 v4).bind fun y11 => ((asB y11).bind fun y12 => (cond y12 (B83_7 x0 v8 y6 v8 hp) (B83_8 x0 v3 v4 v8 hp))))))) (B83_8 x0 v3 v4 v8 hp))))))))) (some (Prod.mk (AV.sc v3) hp))))) :=
 (qe cxX 83 ss83 400 _ _).trans (by kernel_rfl)
theorem B83_7_eq (x0 : AV) (v5 v6 v8 : Value) (hp : Hp) : B83_7 x0 v5 v6 v8 hp = (B83_8 x0 v5 v6 v8 hp) :=
 (qe cxX 83 ss83 400 _ _).trans (by kernel_rfl)
theorem B83_8_eq (x0 : AV) (v3 v4 v8 : Value) (hp : Hp) : B83_8 x0 v3 v4 v8 hp = ((binV Tryz.prog .add 3 (.tmp 8) (.const (.int .i64 (.ofNat 1))) v8 (.int .i64 (.ofNat 1))).bind fun y13 => (B83_3 x0 v3 v4 y13 hp)) :=
 (qe cxX 83 ss83 400 _ _).trans (by kernel_rfl)
theorem E84 (a0 a1 : AV) (hp : Hp) : run cxX 84 [a0, a1] hp = ((asSc a1).bind fun y0 => ((binV Tryz.prog .eql 3 (.tmp 5) (.const (.int .i64 (.ofNat 0))) y0 (.int .i64 (.ofNat 0))).bind fun y1 => ((asB y1).bind fun y2 => (cond y2 ((idxA 1 (ro a0) (.int .i64 (.ofNat 0))).bind fun y3 => ((qc y3 0).bind fun y4 => (some (Prod.mk (AV.sc y4) hp)))) ((idxA 1 (ro a0) y0).bind fun y5 => ((qc y5 0).bind fun y6 => ((binV Tryz.prog .sub 3 (.tmp 15) (.const (.int .i64 (.ofNat 1))) y0 (.int .i64 (.ofNat 1))).bind fun y7 => ((idxA 1 (ro a0) y7).bind fun y8 => ((qc y8 0).bind fun y9 => ((binV Tryz.prog .sub 76 (.tmp 13) (.tmp 18) y6 y9).bind fun y10 => ((binV Tryz.prog .sub 76 (.tmp 19) (.const (.int .u64 (.ofNat 1))) y10 (.int .u64 (.ofNat 1))).bind fun y11 => (some (Prod.mk (AV.sc y11) hp))))))))))))) :=
 (qf cxX 84 ss84 400 _ _).trans (by kernel_rfl)
noncomputable def B136_3 (x0 : AV) (v1 v6 v10 v11 : Value) (hp : Hp) : Option (AV × Hp) := go cxX 136 [.code (sub [1, 1, 0, 1, 0, 0, 0] cd136), .code (sub [1, 1, 0, 1, 0, 0, 1] cd136), .inLoop (sub [1, 1, 0, 1, 0, 0] cd136), .inBlock 0, .code (sub [1, 1, 1] cd136)] ⟨[(0, .av x0), (1, .sv v1), (6, .sv v6), (10, .sv v10), (11, .sv v11)], [], hp⟩
theorem E136 (a0 a1 : AV) (hp : Hp) : run cxX 136 [a0, a1] hp = ((asSc a1).bind fun y0 => ((lenA (ro a0)).bind fun y1 => (B136_3 a0 y0 (.int .i64 (.ofNat 0)) (.int .i64 (.ofNat y1)) (.int .i64 (.ofNat 0)) hp))) :=
 (qf cxX 136 ss136 400 _ _).trans (by kernel_rfl)
theorem B136_3_eq (x0 : AV) (v1 v6 v10 v11 : Value) (hp : Hp) : B136_3 x0 v1 v6 v10 v11 hp = ((binV Tryz.prog .lss 3 (.tmp 11) (.tmp 10) v11 v10).bind fun y2 => ((asB y2).bind fun y3 => (cond y3 ((qi [ro x0, AV.sc v11] []).bind fun y4 => ((run cxX 84 [ro (ro x0), AV.sc v11] hp0).bind fun y5 => ((qm (y5).1).bind fun y6 => ((asSc (y5).1).bind fun y7 => ((binV Tryz.prog .shr 76 (.tmp 16) (.tmp 17) y7 v1).bind fun y8 => ((binV Tryz.prog .gtr 76 (.tmp 19) (.const (.int .u64 (.ofNat 4096))) y8 (.int .u64 (.ofNat 4096))).bind fun y9 => ((asB y9).bind fun y10 => (cond y10 (some (Prod.mk (AV.tup [AV.sc (.int .i64 (.ofNat 0)), AV.sc (.bool false)]) hp)) ((cvV Tryz.prog 76 3 y8).bind fun y11 => ((binV Tryz.prog .add 3 (.tmp 23) (.const (.int .i64 (.ofNat 1))) y11 (.int .i64 (.ofNat 1))).bind fun y12 => ((binV Tryz.prog .add 3 (.tmp 24) (.tmp 25) y12 v1).bind fun y13 => ((binV Tryz.prog .add 3 (.tmp 21) (.tmp 26) v6 y13).bind fun y14 => ((binV Tryz.prog .add 3 (.tmp 11) (.const (.int .i64 (.ofNat 1))) v11 (.int .i64 (.ofNat 1))).bind fun y15 => (B136_3 x0 v1 y14 v10 y15 hp)))))))))))))) (some (Prod.mk (AV.tup [AV.sc v6, AV.sc (.bool true)]) hp))))) :=
 (qe cxX 136 ss136 400 _ _).trans (by kernel_rfl)
noncomputable def B85_0 (x0 : AV) (v1 : Value) (hp : Hp) : Option (AV × Hp) := go cxX 85 [.code (sub [0, 0, 0, 0, 0] cd85), .code (sub [0, 0, 0, 0, 1] cd85), .code (sub [0, 0, 0, 1] cd85), .inLoop (sub [0, 0, 0] cd85), .inBlock 0, .code (sub [1] cd85)] ⟨[(0, .av x0), (1, .sv v1)], [], hp⟩
theorem E85 (a0 a1 : AV) (hp : Hp) : run cxX 85 [a0, a1] hp = ((asSc a1).bind fun y0 => (B85_0 a0 y0 hp)) :=
 (qf cxX 85 ss85 400 _ _).trans (by kernel_rfl)
theorem B85_0_eq (x0 : AV) (v1 : Value) (hp : Hp) : B85_0 x0 v1 hp = ((binV Tryz.prog .gtr 3 (.tmp 4) (.const (.int .i64 (.ofNat 0))) v1 (.int .i64 (.ofNat 0))).bind fun y1 => ((asB y1).bind fun y2 => (cond y2 ((run cxX 86 [ro (ro x0), AV.sc (.int .u64 (.ofNat 1)), AV.sc (.int .i64 (.ofNat 1))] hp).bind fun y3 => ((qo 0 (y3).1).bind fun y4 => ((binV Tryz.prog .sub 3 (.tmp 6) (.const (.int .i64 (.ofNat 1))) v1 (.int .i64 (.ofNat 1))).bind fun y5 => (B85_0 x0 y5 (y3).2)))) ((run cxX 86 [ro (ro x0), AV.sc (.int .u64 (.ofNat 0)), AV.sc (.int .i64 (.ofNat 1))] hp).bind fun y6 => ((qo 0 (y6).1).bind fun y7 => (some (Prod.mk (AV.tup []) (y6).2))))))) :=
 (qe cxX 85 ss85 400 _ _).trans (by kernel_rfl)
noncomputable def B86_2 (x0 : AV) (v1 v6 : Value) (hp : Hp) : Option (AV × Hp) := go cxX 86 [.code (sub [1, 1, 0, 0, 0, 0] cd86), .code (sub [1, 1, 0, 0, 0, 1] cd86), .code (sub [1, 1, 0, 0, 1] cd86), .inLoop (sub [1, 1, 0, 0] cd86), .inBlock 0] ⟨[(0, .av x0), (1, .sv v1), (6, .sv v6)], [], hp⟩
noncomputable def B86_6 (x0 : AV) (v1 v6 : Value) (hp : Hp) : Option (AV × Hp) := go cxX 86 [.code (sub [1, 1, 0, 0, 1, 0, 0, 1, 0, 0] cd86), .code (sub [1, 1, 0, 0, 1, 0, 0, 1, 0, 1] cd86), .code (sub [1, 1, 0, 0, 1, 0, 0, 1, 1] cd86), .inBlock 1, .code (sub [1, 1, 0, 0, 1, 1] cd86), .inLoop (sub [1, 1, 0, 0] cd86), .inBlock 0] ⟨[(0, .av x0), (1, .sv v1), (6, .sv v6)], [], hp⟩
noncomputable def B86_8 (x0 : AV) (v1 v6 : Value) (hp : Hp) : Option (AV × Hp) := go cxX 86 [.code (sub [1, 1, 0, 0, 1, 0, 0, 1, 1] cd86), .inBlock 1, .code (sub [1, 1, 0, 0, 1, 1] cd86), .inLoop (sub [1, 1, 0, 0] cd86), .inBlock 0] ⟨[(0, .av x0), (1, .sv v1), (6, .sv v6)], [], hp⟩
theorem E86 (a0 a1 a2 : AV) (hp : Hp) : run cxX 86 [a0, a1, a2] hp = ((asSc a1).bind fun y0 => ((asSc a2).bind fun y1 => ((nilP (ro a0)).bind fun y2 => (cond y2 (some (Prod.mk (AV.tup []) hp)) ((bltV Tryz.prog Go.Builtin.max (Array.mk [3, 3]) 3 [y1, .int .i64 (.ofNat 0)]).bind fun y3 => ((bltV Tryz.prog Go.Builtin.min (Array.mk [3, 3]) 3 [y3, .int .i64 (.ofNat 64)]).bind fun y4 => ((binV Tryz.prog .sub 3 (.tmp 11) (.const (.int .i64 (.ofNat 1))) y4 (.int .i64 (.ofNat 1))).bind fun y5 => (B86_2 a0 y0 y5 hp)))))))) :=
 (qf cxX 86 ss86 400 _ _).trans (by kernel_rfl)
theorem B86_2_eq (x0 : AV) (v1 v6 : Value) (hp : Hp) : B86_2 x0 v1 v6 hp = ((binV Tryz.prog .geq 3 (.tmp 13) (.const (.int .i64 (.ofNat 0))) v6 (.int .i64 (.ofNat 0))).bind fun y6 => ((asB y6).bind fun y7 => (cond y7 ((nnA (ro x0)).bind fun y8 => ((qk (ro x0)).bind fun y9 => ((Hp.rd hp (y9).1 ((y9).2).1).bind fun y10 => ((qc y10 (Nat.succ ((y9).2).2)).bind fun y11 => ((binV Tryz.prog .rem 3 (.tmp 20) (.const (.int .i64 (.ofNat 8))) y11 (.int .i64 (.ofNat 8))).bind fun y12 => ((binV Tryz.prog .eql 3 (.tmp 21) (.const (.int .i64 (.ofNat 0))) y12 (.int .i64 (.ofNat 0))).bind fun y13 => ((asB y13).bind fun y14 => (cond y14 ((nnA (ro x0)).bind fun y15 => ((qk (ro x0)).bind fun y16 => ((Hp.rd hp (y16).1 ((y16).2).1).bind fun y17 => ((getC y17 ((y16).2).2).bind fun y18 => ((okV [AV.sc (.int .u8 (.ofNat 0))]).bind fun y19 => ((appM 1 1 (ro1 y18) (AV.us 1 [AV.sc (.int .u8 (.ofNat 0))]) hp).bind fun y20 => ((nnA (ro x0)).bind fun y21 => ((qk (ro x0)).bind fun y22 => ((qh 1 (y20).1).bind fun y23 => ((Hp.rd (y20).2 (y22).1 ((y22).2).1).bind fun y24 => ((putN y24 ((y22).2).2 y23).bind fun y25 => (B86_6 x0 v1 v6 (Hp.put (y20).2 (y22).1 ((y22).2).1 y25))))))))))))) (B86_6 x0 v1 v6 hp))))))))) (some (Prod.mk (AV.tup []) hp))))) :=
 (qe cxX 86 ss86 400 _ _).trans (by kernel_rfl)
theorem B86_6_eq (x0 : AV) (v1 v6 : Value) (hp : Hp) : B86_6 x0 v1 v6 hp = ((binV Tryz.prog .shr 76 (.tmp 32) (.tmp 33) v1 v6).bind fun y26 => ((binV Tryz.prog .and 76 (.tmp 34) (.const (.int .u64 (.ofNat 1))) y26 (.int .u64 (.ofNat 1))).bind fun y27 => ((binV Tryz.prog .eql 76 (.tmp 35) (.const (.int .u64 (.ofNat 1))) y27 (.int .u64 (.ofNat 1))).bind fun y28 => ((asB y28).bind fun y29 => (cond y29 ((nnA (ro x0)).bind fun y30 => ((qk (ro x0)).bind fun y31 => ((Hp.rd hp (y31).1 ((y31).2).1).bind fun y32 => ((getC y32 ((y31).2).2).bind fun y33 => ((nnA (ro x0)).bind fun y34 => ((qk (ro x0)).bind fun y35 => ((Hp.rd hp (y35).1 ((y35).2).1).bind fun y36 => ((qc y36 (Nat.succ ((y35).2).2)).bind fun y37 => ((binV Tryz.prog .quo 3 (.tmp 44) (.const (.int .i64 (.ofNat 8))) y37 (.int .i64 (.ofNat 8))).bind fun y38 => ((qR (ro1 y33)).bind fun y39 => ((idx ((((y39).2).2).2).1 y38).bind fun y40 => ((chkN ((((y39).2).2).2).2 1).bind fun y41 => ((Hp.rd hp (y39).1 ((y39).2).1).bind fun y42 => ((qc y42 (Nat.add (((y39).2).2).1 (Nat.add 0 y40))).bind fun y43 => ((nnA (ro x0)).bind fun y44 => ((qk (ro x0)).bind fun y45 => ((Hp.rd hp (y45).1 ((y45).2).1).bind fun y46 => ((qc y46 (Nat.succ ((y45).2).2)).bind fun y47 => ((binV Tryz.prog .rem 3 (.tmp 51) (.const (.int .i64 (.ofNat 8))) y47 (.int .i64 (.ofNat 8))).bind fun y48 => ((binV Tryz.prog .shr 5 (.const (.int .u8 (.ofNat 128))) (.tmp 52) (.int .u8 (.ofNat 128)) y48).bind fun y49 => ((binV Tryz.prog .or 5 (.tmp 47) (.tmp 53) y43 y49).bind fun y50 => ((qR (ro1 y33)).bind fun y51 => ((idx ((((y51).2).2).2).1 y38).bind fun y52 => ((chkN ((((y51).2).2).2).2 1).bind fun y53 => ((Hp.rd hp (y51).1 ((y51).2).1).bind fun y54 => ((putN y54 (Nat.add (((y51).2).2).1 (Nat.add 0 y52)) [AV.sc y50]).bind fun y55 => (B86_8 x0 v1 v6 (Hp.put hp (y51).1 ((y51).2).1 y55)))))))))))))))))))))))))))) (B86_8 x0 v1 v6 hp)))))) :=
 (qe cxX 86 ss86 400 _ _).trans (by kernel_rfl)
theorem B86_8_eq (x0 : AV) (v1 v6 : Value) (hp : Hp) : B86_8 x0 v1 v6 hp = ((nnA (ro x0)).bind fun y56 => ((qk (ro x0)).bind fun y57 => ((Hp.rd hp (y57).1 ((y57).2).1).bind fun y58 => ((qc y58 (Nat.succ ((y57).2).2)).bind fun y59 => ((binV Tryz.prog .add 3 (.tmp 59) (.const (.int .i64 (.ofNat 1))) y59 (.int .i64 (.ofNat 1))).bind fun y60 => ((nnA (ro x0)).bind fun y61 => ((qk (ro x0)).bind fun y62 => ((Hp.rd hp (y62).1 ((y62).2).1).bind fun y63 => ((putN y63 (Nat.succ ((y62).2).2) [AV.sc y60]).bind fun y64 => ((binV Tryz.prog .sub 3 (.tmp 15) (.const (.int .i64 (.ofNat 1))) v6 (.int .i64 (.ofNat 1))).bind fun y65 => (B86_2 x0 v1 y65 (Hp.put hp (y62).1 ((y62).2).1 y64)))))))))))) :=
 (qe cxX 86 ss86 400 _ _).trans (by kernel_rfl)
theorem E87 (a0 : AV) (hp : Hp) : run cxX 87 [a0] hp = ((nilP (ro a0)).bind fun y0 => (cond y0 (some (Prod.mk (AV.sc (.slice none 0 0)) hp)) ((okV []).bind fun y1 => ((nnA (ro a0)).bind fun y2 => ((qk (ro a0)).bind fun y3 => ((Hp.rd hp (y3).1 ((y3).2).1).bind fun y4 => ((getC y4 ((y3).2).2).bind fun y5 => ((appM 1 1 (AV.us 1 []) (ro1 y5) hp).bind fun y6 => ((frz1 (y6).2 (y6).1).bind fun y7 => (some (Prod.mk (y7).1 (y7).2))))))))))) :=
 (qf cxX 87 ss87 400 _ _).trans (by kernel_rfl)
theorem E12 (a0 a1 : AV) (hp : Hp) : run cxX 12 [a0, a1] hp = ((asSc a1).bind fun y0 => ((cvV Tryz.prog 2 76 y0).bind fun y1 => ((binV Tryz.prog .shl 76 (.tmp 6) (.const (.int .u64 (.ofNat 1))) y1 (.int .u64 (.ofNat 1))).bind fun y2 => ((binV Tryz.prog .shr 2 (.tmp 8) (.const (.int .u64 (.ofNat 63))) y0 (.int .u64 (.ofNat 63))).bind fun y3 => ((cvV Tryz.prog 2 76 y3).bind fun y4 => ((binV Tryz.prog .xor 76 (.tmp 7) (.tmp 10) y2 y4).bind fun y5 => ((run cxX 25 [ro (ro a0), AV.sc y5] hp).bind fun y6 => ((qo 0 (y6).1).bind fun y7 => (some (Prod.mk (AV.tup []) (y6).2)))))))))) :=
 (qf cxX 12 ss12 400 _ _).trans (by kernel_rfl)
theorem E13 (a0 : AV) (hp : Hp) : run cxX 13 [a0] hp = ((nilP (ro a0)).bind fun y0 => (cond y0 (some (Prod.mk (AV.sc (.slice none 0 0)) hp)) ((okV []).bind fun y1 => ((nnA (ro a0)).bind fun y2 => ((qk (ro a0)).bind fun y3 => ((Hp.rd hp (y3).1 ((y3).2).1).bind fun y4 => ((getC y4 ((y3).2).2).bind fun y5 => ((appA 1 1 (AV.us 1 []) (ro1 y5)).bind fun y6 => (some (Prod.mk y6 hp)))))))))) :=
 (qf cxX 13 ss13 400 _ _).trans (by kernel_rfl)
noncomputable def B25_0 (x0 : AV) (v1 : Value) (hp : Hp) : Option (AV × Hp) := go cxX 25 [.code (sub [0, 0, 0, 0, 0] cd25), .code (sub [0, 0, 0, 0, 1] cd25), .code (sub [0, 0, 0, 1] cd25), .inLoop (sub [0, 0, 0] cd25), .inBlock 0, .code (sub [1] cd25)] ⟨[(0, .av x0), (1, .sv v1)], [], hp⟩
theorem E25 (a0 a1 : AV) (hp : Hp) : run cxX 25 [a0, a1] hp = ((asSc a1).bind fun y0 => (B25_0 a0 y0 hp)) :=
 (qf cxX 25 ss25 400 _ _).trans (by kernel_rfl)
theorem B25_0_eq (x0 : AV) (v1 : Value) (hp : Hp) : B25_0 x0 v1 hp = ((binV Tryz.prog .geq 76 (.tmp 4) (.const (.int .u64 (.ofNat 128))) v1 (.int .u64 (.ofNat 128))).bind fun y1 => ((asB y1).bind fun y2 => (cond y2 ((cvV Tryz.prog 76 5 v1).bind fun y3 => ((binV Tryz.prog .or 5 (.tmp 10) (.const (.int .u8 (.ofNat 128))) y3 (.int .u8 (.ofNat 128))).bind fun y4 => ((run cxX 36 [ro (ro x0), AV.sc y4] hp).bind fun y5 => ((qo 0 (y5).1).bind fun y6 => ((binV Tryz.prog .shr 76 (.tmp 6) (.const (.int .u64 (.ofNat 7))) v1 (.int .u64 (.ofNat 7))).bind fun y7 => (B25_0 x0 y7 (y5).2)))))) ((cvV Tryz.prog 76 5 v1).bind fun y8 => ((run cxX 36 [ro (ro x0), AV.sc y8] hp).bind fun y9 => ((qo 0 (y9).1).bind fun y10 => (some (Prod.mk (AV.tup []) (y9).2)))))))) :=
 (qe cxX 25 ss25 400 _ _).trans (by kernel_rfl)
theorem E35 (a0 a1 : AV) (hp : Hp) : run cxX 35 [a0, a1] hp = ((nilP (ro a0)).bind fun y0 => (cond (Bool.rec true false y0) ((nnA (ro a0)).bind fun y1 => ((qk (ro a0)).bind fun y2 => ((Hp.rd hp (y2).1 ((y2).2).1).bind fun y3 => ((getC y3 ((y2).2).2).bind fun y4 => ((appA 1 1 y4 (ro a1)).bind fun y5 => ((nnA (ro a0)).bind fun y6 => ((qk (ro a0)).bind fun y7 => ((qh 1 y5).bind fun y8 => ((Hp.rd (Hp.put hp (y2).1 ((y2).2).1 (List.set y3 ((y2).2).2 (ro1 y4))) (y7).1 ((y7).2).1).bind fun y9 => ((putN y9 ((y7).2).2 y8).bind fun y10 => (some (Prod.mk (AV.tup []) (Hp.put (Hp.put hp (y2).1 ((y2).2).1 (List.set y3 ((y2).2).2 (ro1 y4))) (y7).1 ((y7).2).1 y10))))))))))))) (some (Prod.mk (AV.tup []) hp)))) :=
 (qf cxX 35 ss35 400 _ _).trans (by kernel_rfl)
theorem E36 (a0 a1 : AV) (hp : Hp) : run cxX 36 [a0, a1] hp = ((asSc a1).bind fun y0 => ((nilP (ro a0)).bind fun y1 => (cond (Bool.rec true false y1) ((nnA (ro a0)).bind fun y2 => ((qk (ro a0)).bind fun y3 => ((Hp.rd hp (y3).1 ((y3).2).1).bind fun y4 => ((getC y4 ((y3).2).2).bind fun y5 => ((okV [AV.sc y0]).bind fun y6 => ((appA 1 1 y5 (AV.us 1 [AV.sc y0])).bind fun y7 => ((nnA (ro a0)).bind fun y8 => ((qk (ro a0)).bind fun y9 => ((qh 1 y7).bind fun y10 => ((Hp.rd (Hp.put hp (y3).1 ((y3).2).1 (List.set y4 ((y3).2).2 (ro1 y5))) (y9).1 ((y9).2).1).bind fun y11 => ((putN y11 ((y9).2).2 y10).bind fun y12 => (some (Prod.mk (AV.tup []) (Hp.put (Hp.put hp (y3).1 ((y3).2).1 (List.set y4 ((y3).2).2 (ro1 y5))) (y9).1 ((y9).2).1 y12)))))))))))))) (some (Prod.mk (AV.tup []) hp))))) :=
 (qf cxX 36 ss36 400 _ _).trans (by kernel_rfl)
theorem E42 (a0 : AV) (hp : Hp) : run cxX 42 [a0] hp = ((qh 1 (ro a0)).bind fun y0 => ((putN [AV.sc (.slice none 0 0), AV.sc (.int .i64 (.ofNat 0)), AV.sc (.int .i64 (.ofNat 0))] 0 y0).bind fun y1 => ((qh 3 (AV.agg (List.map ro1 y1))).bind fun y2 => (some (Prod.mk (AV.ptr (hp).1 0 0) (Hp.new hp (List.map ro1 y2))))))) :=
 (qf cxX 42 ss42 400 _ _).trans (by kernel_rfl)
noncomputable def B45_4 (x0 : AV) (v1 v5 v6 : Value) (hp : Hp) : Option (AV × Hp) := go cxX 45 [.code (sub [1, 1, 0, 1, 0, 0, 0, 0, 0] cd45), .code (sub [1, 1, 0, 1, 0, 0, 0, 0, 1] cd45), .inBlock 1, .code (sub [1, 1, 0, 1, 0, 0, 1] cd45), .inLoop (sub [1, 1, 0, 1, 0, 0] cd45), .inBlock 0, .code (sub [1, 1, 1] cd45)] ⟨[(0, .av x0), (1, .sv v1), (5, .sv v5), (6, .sv v6)], [], hp⟩
noncomputable def B45_6 (x0 : AV) (v1 v5 v6 v7 : Value) (hp : Hp) : Option (AV × Hp) := go cxX 45 [.code (sub [1, 1, 0, 1, 0, 0, 0, 0, 1, 0, 1, 0] cd45), .code (sub [1, 1, 0, 1, 0, 0, 0, 0, 1, 1] cd45), .inBlock 1, .code (sub [1, 1, 0, 1, 0, 0, 1] cd45), .inLoop (sub [1, 1, 0, 1, 0, 0] cd45), .inBlock 0, .code (sub [1, 1, 1] cd45)] ⟨[(0, .av x0), (1, .sv v1), (5, .sv v5), (6, .sv v6), (7, .sv v7)], [], hp⟩
noncomputable def B45_7 (x0 : AV) (v1 v5 v6 v7 : Value) (hp : Hp) : Option (AV × Hp) := go cxX 45 [.code (sub [1, 1, 0, 1, 0, 0, 0, 0, 1, 1, 0, 0] cd45), .code (sub [1, 1, 0, 1, 0, 0, 0, 0, 1, 1, 0, 1] cd45), .code (sub [1, 1, 0, 1, 0, 0, 0, 0, 1, 1, 1] cd45), .inBlock 1, .code (sub [1, 1, 0, 1, 0, 0, 1] cd45), .inLoop (sub [1, 1, 0, 1, 0, 0] cd45), .inBlock 0, .code (sub [1, 1, 1] cd45)] ⟨[(0, .av x0), (1, .sv v1), (5, .sv v5), (6, .sv v6), (7, .sv v7)], [], hp⟩
theorem E45 (a0 a1 : AV) (hp : Hp) : run cxX 45 [a0, a1] hp = ((asSc a1).bind fun y0 => (B45_4 a0 y0 (.int .u64 (.ofNat 0)) (.int .i64 (.ofNat 0)) hp)) :=
 (qf cxX 45 ss45 400 _ _).trans (by kernel_rfl)
theorem B45_4_eq (x0 : AV) (v1 v5 v6 : Value) (hp : Hp) : B45_4 x0 v1 v5 v6 hp = ((run cxX 48 [ro (ro x0)] hp).bind fun y1 => ((asSc (y1).1).bind fun y2 => ((binV Tryz.prog .eql 3 (.tmp 12) (.const (.int .i64 (.ofNat 63))) v6 (.int .i64 (.ofNat 63))).bind fun y3 => ((asB y3).bind fun y4 => (cond y4 ((binV Tryz.prog .gtr 5 (.tmp 15) (.const (.int .u8 (.ofNat 1))) y2 (.int .u8 (.ofNat 1))).bind fun y5 => ((asB y5).bind fun y6 => (cond y6 (B45_6 x0 v1 v5 v6 y2 (y1).2) ((binV Tryz.prog .gtr 3 (.tmp 19) (.const (.int .i64 (.ofNat 0))) v6 (.int .i64 (.ofNat 0))).bind fun y7 => ((asB y7).bind fun y8 => (cond y8 ((binV Tryz.prog .eql 5 (.tmp 22) (.const (.int .u8 (.ofNat 0))) y2 (.int .u8 (.ofNat 0))).bind fun y9 => ((asB y9).bind fun y10 => (cond y10 (B45_6 x0 v1 v5 v6 y2 (y1).2) (B45_7 x0 v1 v5 v6 y2 (y1).2)))) (B45_7 x0 v1 v5 v6 y2 (y1).2))))))) ((binV Tryz.prog .gtr 3 (.tmp 19) (.const (.int .i64 (.ofNat 0))) v6 (.int .i64 (.ofNat 0))).bind fun y11 => ((asB y11).bind fun y12 => (cond y12 ((binV Tryz.prog .eql 5 (.tmp 22) (.const (.int .u8 (.ofNat 0))) y2 (.int .u8 (.ofNat 0))).bind fun y13 => ((asB y13).bind fun y14 => (cond y14 (B45_6 x0 v1 v5 v6 y2 (y1).2) (B45_7 x0 v1 v5 v6 y2 (y1).2)))) (B45_7 x0 v1 v5 v6 y2 (y1).2))))))))) :=
 (qe cxX 45 ss45 400 _ _).trans (by kernel_rfl)
theorem B45_6_eq (x0 : AV) (v1 v5 v6 v7 : Value) (hp : Hp) : B45_6 x0 v1 v5 v6 v7 hp = ((run cxX 95 [ro (ro x0), AV.sc (.int .i64 (.ofNat 4))] hp).bind fun y15 => ((qo 0 (y15).1).bind fun y16 => (B45_7 x0 v1 v5 v6 v7 (y15).2))) :=
 (qe cxX 45 ss45 400 _ _).trans (by kernel_rfl)
theorem B45_7_eq (x0 : AV) (v1 v5 v6 v7 : Value) (hp : Hp) : B45_7 x0 v1 v5 v6 v7 hp = ((run cxX 93 [ro (ro x0)] hp).bind fun y17 => ((asSc (y17).1).bind fun y18 => ((binV Tryz.prog .neq 57 (.tmp 29) (.const (.int .i64 (.ofNat 0))) y18 (.int .i64 (.ofNat 0))).bind fun y19 => ((asB y19).bind fun y20 => (cond y20 (some (Prod.mk (AV.sc (.int .u64 (.ofNat 0))) (y17).2)) ((binV Tryz.prog .and 5 (.tmp 32) (.const (.int .u8 (.ofNat 127))) v7 (.int .u8 (.ofNat 127))).bind fun y21 => ((cvV Tryz.prog 5 76 y21).bind fun y22 => ((binV Tryz.prog .shl 76 (.tmp 34) (.tmp 35) y22 v6).bind fun y23 => ((binV Tryz.prog .or 76 (.tmp 31) (.tmp 36) v5 y23).bind fun y24 => ((binV Tryz.prog .lss 5 (.tmp 38) (.const (.int .u8 (.ofNat 128))) v7 (.int .u8 (.ofNat 128))).bind fun y25 => ((asB y25).bind fun y26 => (cond y26 ((binV Tryz.prog .gtr 76 (.tmp 40) (.tmp 41) y24 v1).bind fun y27 => ((asB y27).bind fun y28 => (cond y28 ((run cxX 95 [ro (ro x0), AV.sc (.int .i64 (.ofNat 7))] (y17).2).bind fun y29 => ((qo 0 (y29).1).bind fun y30 => (some (Prod.mk (AV.sc (.int .u64 (.ofNat 0))) (y29).2)))) (some (Prod.mk (AV.sc y24) (y17).2))))) ((binV Tryz.prog .add 3 (.tmp 8) (.const (.int .i64 (.ofNat 7))) v6 (.int .i64 (.ofNat 7))).bind fun y31 => (B45_4 x0 v1 y24 y31 (y17).2)))))))))))))) :=
 (qe cxX 45 ss45 400 _ _).trans (by kernel_rfl)
theorem E48 (a0 : AV) (hp : Hp) : run cxX 48 [a0] hp = ((run cxX 103 [ro (ro a0)] hp).bind fun y0 => ((asSc (y0).1).bind fun y1 => ((binV Tryz.prog .eql 3 (.tmp 4) (.const (.int .i64 (.ofNat 0))) y1 (.int .i64 (.ofNat 0))).bind fun y2 => ((asB y2).bind fun y3 => (cond y3 ((run cxX 95 [ro (ro a0), AV.sc (.int .i64 (.ofNat 3))] (y0).2).bind fun y4 => ((qo 0 (y4).1).bind fun y5 => (some (Prod.mk (AV.sc (.int .u8 (.ofNat 0))) (y4).2)))) ((nnA (ro a0)).bind fun y6 => ((qk (ro a0)).bind fun y7 => ((Hp.rd (y0).2 (y7).1 ((y7).2).1).bind fun y8 => ((qc y8 (Nat.succ ((y7).2).2)).bind fun y9 => ((binV Tryz.prog .add 3 (.tmp 11) (.const (.int .i64 (.ofNat 1))) y9 (.int .i64 (.ofNat 1))).bind fun y10 => ((nnA (ro a0)).bind fun y11 => ((qk (ro a0)).bind fun y12 => ((Hp.rd (y0).2 (y12).1 ((y12).2).1).bind fun y13 => ((putN y13 (Nat.succ ((y12).2).2) [AV.sc y10]).bind fun y14 => ((nnA (ro a0)).bind fun y15 => ((qk (ro a0)).bind fun y16 => ((Hp.rd (Hp.put (y0).2 (y12).1 ((y12).2).1 y14) (y16).1 ((y16).2).1).bind fun y17 => ((getC y17 ((y16).2).2).bind fun y18 => ((nnA (ro a0)).bind fun y19 => ((qk (ro a0)).bind fun y20 => ((Hp.rd (Hp.put (y0).2 (y12).1 ((y12).2).1 y14) (y20).1 ((y20).2).1).bind fun y21 => ((qc y21 (Nat.succ ((y20).2).2)).bind fun y22 => ((binV Tryz.prog .sub 3 (.tmp 22) (.const (.int .i64 (.ofNat 1))) y22 (.int .i64 (.ofNat 1))).bind fun y23 => ((idxA 1 (ro1 y18) y23).bind fun y24 => ((qc y24 0).bind fun y25 => (some (Prod.mk (AV.sc y25) (Hp.put (y0).2 (y12).1 ((y12).2).1 y14)))))))))))))))))))))))))))) :=
 (qf cxX 48 ss48 400 _ _).trans (by kernel_rfl)
noncomputable def B53_2 (hp : Hp) : Option (AV × Hp) := go cxX 53 [.code (sub [1, 0, 1, 0, 0] cd53), .code (sub [1, 0, 1, 0, 1] cd53), .code (sub [1, 1] cd53)] ⟨[], [], hp⟩
noncomputable def B53_3 (x0 : AV) (hp : Hp) : Option (AV × Hp) := go cxX 53 [.code (sub [1, 1, 0] cd53), .code (sub [1, 0, 1, 0, 1] cd53)] ⟨[(0, .av x0)], [], hp⟩
theorem E53 (a0 : AV) (hp : Hp) : run cxX 53 [a0] hp = ((nilP (ro a0)).bind fun y0 => (cond (Bool.rec true false y0) ((nnA (ro a0)).bind fun y1 => ((qk (ro a0)).bind fun y2 => ((Hp.rd hp (y2).1 ((y2).2).1).bind fun y3 => ((qc y3 (Nat.succ (Nat.succ ((y2).2).2))).bind fun y4 => ((binV Tryz.prog .eql 57 (.tmp 9) (.const (.int .i64 (.ofNat 0))) y4 (.int .i64 (.ofNat 0))).bind fun y5 => ((asB y5).bind fun y6 => (cond y6 ((nnA (ro a0)).bind fun y7 => ((qk (ro a0)).bind fun y8 => ((Hp.rd hp (y8).1 ((y8).2).1).bind fun y9 => ((qc y9 (Nat.succ ((y8).2).2)).bind fun y10 => ((nnA (ro a0)).bind fun y11 => ((qk (ro a0)).bind fun y12 => ((Hp.rd hp (y12).1 ((y12).2).1).bind fun y13 => ((getC y13 ((y12).2).2).bind fun y14 => ((lenA (ro1 y14)).bind fun y15 => ((binV Tryz.prog .lss 3 (.tmp 16) (.tmp 21) y10 (.int .i64 (.ofNat y15))).bind fun y16 => ((asB y16).bind fun y17 => (cond y17 (B53_2 hp) (B53_3 a0 hp))))))))))))) (B53_3 a0 hp)))))))) (B53_3 a0 hp))) :=
 (qf cxX 53 ss53 400 _ _).trans (by kernel_rfl)
theorem B53_2_eq (hp : Hp) : B53_2 hp = (some (Prod.mk (AV.sc (.int .i64 (.ofNat 15))) hp)) :=
 (qe cxX 53 ss53 400 _ _).trans (by kernel_rfl)
theorem B53_3_eq (x0 : AV) (hp : Hp) : B53_3 x0 hp = ((run cxX 93 [ro (ro x0)] hp).bind fun y18 => ((asSc (y18).1).bind fun y19 => (some (Prod.mk (AV.sc y19) (y18).2)))) :=
 (qe cxX 53 ss53 400 _ _).trans (by kernel_rfl)
theorem E93 (a0 : AV) (hp : Hp) : run cxX 93 [a0] hp = ((nilP (ro a0)).bind fun y0 => (cond y0 (some (Prod.mk (AV.sc (.int .i64 (.ofNat 1))) hp)) ((nnA (ro a0)).bind fun y1 => ((qk (ro a0)).bind fun y2 => ((Hp.rd hp (y2).1 ((y2).2).1).bind fun y3 => ((qc y3 (Nat.succ (Nat.succ ((y2).2).2))).bind fun y4 => (some (Prod.mk (AV.sc y4) hp)))))))) :=
 (qf cxX 93 ss93 400 _ _).trans (by kernel_rfl)
noncomputable def B95_1 (x0 : AV) (v1 : Value) (hp : Hp) : Option (AV × Hp) := go cxX 95 [.code (sub [1, 0] cd95)] ⟨[(0, .av x0), (1, .sv v1)], [], hp⟩
theorem E95 (a0 a1 : AV) (hp : Hp) : run cxX 95 [a0, a1] hp = ((asSc a1).bind fun y0 => ((nilP (ro a0)).bind fun y1 => (cond (Bool.rec true false y1) ((nnA (ro a0)).bind fun y2 => ((qk (ro a0)).bind fun y3 => ((Hp.rd hp (y3).1 ((y3).2).1).bind fun y4 => ((qc y4 (Nat.succ (Nat.succ ((y3).2).2))).bind fun y5 => ((binV Tryz.prog .eql 57 (.tmp 10) (.const (.int .i64 (.ofNat 0))) y5 (.int .i64 (.ofNat 0))).bind fun y6 => ((asB y6).bind fun y7 => (cond y7 (B95_1 a0 y0 hp) (some (Prod.mk (AV.tup []) hp))))))))) (some (Prod.mk (AV.tup []) hp))))) :=
 (qf cxX 95 ss95 400 _ _).trans (by kernel_rfl)
theorem B95_1_eq (x0 : AV) (v1 : Value) (hp : Hp) : B95_1 x0 v1 hp = ((nnA (ro x0)).bind fun y8 => ((qk (ro x0)).bind fun y9 => ((Hp.rd hp (y9).1 ((y9).2).1).bind fun y10 => ((putN y10 (Nat.succ (Nat.succ ((y9).2).2)) [AV.sc v1]).bind fun y11 => (some (Prod.mk (AV.tup []) (Hp.put hp (y9).1 ((y9).2).1 y11))))))) :=
 (qe cxX 95 ss95 400 _ _).trans (by kernel_rfl)
noncomputable def B103_2 (hp : Hp) : Option (AV × Hp) := go cxX 103 [.code (sub [1, 0, 1, 0, 0] cd103), .code (sub [1, 0, 1, 0, 1] cd103), .code (sub [1, 1] cd103)] ⟨[], [], hp⟩
noncomputable def B103_3 (x0 : AV) (hp : Hp) : Option (AV × Hp) := go cxX 103 [.code (sub [1, 1, 0] cd103), .code (sub [1, 0, 1, 0, 1] cd103)] ⟨[(0, .av x0)], [], hp⟩
theorem E103 (a0 : AV) (hp : Hp) : run cxX 103 [a0] hp = ((nilP (ro a0)).bind fun y0 => (cond y0 (B103_2 hp) ((nnA (ro a0)).bind fun y1 => ((qk (ro a0)).bind fun y2 => ((Hp.rd hp (y2).1 ((y2).2).1).bind fun y3 => ((qc y3 (Nat.succ (Nat.succ ((y2).2).2))).bind fun y4 => ((binV Tryz.prog .neq 57 (.tmp 9) (.const (.int .i64 (.ofNat 0))) y4 (.int .i64 (.ofNat 0))).bind fun y5 => ((asB y5).bind fun y6 => (cond y6 (B103_2 hp) (B103_3 a0 hp)))))))))) :=
 (qf cxX 103 ss103 400 _ _).trans (by kernel_rfl)
theorem B103_2_eq (hp : Hp) : B103_2 hp = (some (Prod.mk (AV.sc (.int .i64 (.ofNat 0))) hp)) :=
 (qe cxX 103 ss103 400 _ _).trans (by kernel_rfl)
theorem B103_3_eq (x0 : AV) (hp : Hp) : B103_3 x0 hp = ((nnA (ro x0)).bind fun y7 => ((qk (ro x0)).bind fun y8 => ((Hp.rd hp (y8).1 ((y8).2).1).bind fun y9 => ((getC y9 ((y8).2).2).bind fun y10 => ((lenA (ro1 y10)).bind fun y11 => ((nnA (ro x0)).bind fun y12 => ((qk (ro x0)).bind fun y13 => ((Hp.rd hp (y13).1 ((y13).2).1).bind fun y14 => ((qc y14 (Nat.succ ((y13).2).2)).bind fun y15 => ((binV Tryz.prog .sub 3 (.tmp 16) (.tmp 20) (.int .i64 (.ofNat y11)) y15).bind fun y16 => (some (Prod.mk (AV.sc y16) hp)))))))))))) :=
 (qe cxX 103 ss103 400 _ _).trans (by kernel_rfl)
noncomputable def tab8 : Value := .string ⟨#[0, 1, 2, 2, 3, 3, 3, 3, 4, 4, 4, 4, 4, 4, 4, 4, 5, 5, 5, 5, 5, 5, 5, 5, 5, 5, 5, 5, 5, 5, 5, 5, 6, 6, 6, 6, 6, 6, 6, 6, 6, 6, 6, 6, 6, 6, 6, 6, 6, 6, 6, 6, 6, 6, 6, 6, 6, 6, 6, 6, 6, 6, 6, 6, 7, 7, 7, 7, 7, 7, 7, 7, 7, 7, 7, 7, 7, 7, 7, 7, 7, 7, 7, 7, 7, 7, 7, 7, 7, 7, 7, 7, 7, 7, 7, 7, 7, 7, 7, 7, 7, 7, 7, 7, 7, 7, 7, 7, 7, 7, 7, 7, 7, 7, 7, 7, 7, 7, 7, 7, 7, 7, 7, 7, 7, 7, 7, 7, 8, 8, 8, 8, 8, 8, 8, 8, 8, 8, 8, 8, 8, 8, 8, 8, 8, 8, 8, 8, 8, 8, 8, 8, 8, 8, 8, 8, 8, 8, 8, 8, 8, 8, 8, 8, 8, 8, 8, 8, 8, 8, 8, 8, 8, 8, 8, 8, 8, 8, 8, 8, 8, 8, 8, 8, 8, 8, 8, 8, 8, 8, 8, 8, 8, 8, 8, 8, 8, 8, 8, 8, 8, 8, 8, 8, 8, 8, 8, 8, 8, 8, 8, 8, 8, 8, 8, 8, 8, 8, 8, 8, 8, 8, 8, 8, 8, 8, 8, 8, 8, 8, 8, 8, 8, 8, 8, 8, 8, 8, 8, 8, 8, 8, 8, 8, 8, 8, 8, 8, 8, 8, 8, 8, 8, 8, 8, 8]⟩
theorem B180_10' (v0 v2 : Value) (hp : Hp) : B180_10 v0 v2 hp = (cvV Tryz.prog 76 5 v0).bind fun y12 => (ixV Tryz.prog 9 tab8 y12).bind fun y13 => (cvV Tryz.prog 5 3 y13).bind fun y14 => (binV Tryz.prog .add 3 (.tmp 19) (.tmp 23) v2 y14).bind fun y15 => some (.sc y15, hp) :=
 (B180_10_eq _ _ _).trans (by kernel_rfl)
noncomputable def tabOk (x : Nat) : Bool :=
 match ixV Tryz.prog 9 tab8 (.int .u8 (x : Int)) with
 | some (.int .u8 (.ofNat n)) => decide (n ≤ 8) && decide (x < 2 ^ n) && (decide (n = 0) || decide (2 ^ (n - 1) ≤ x))
 | _ => false
theorem tab_all : (List.range 256).all tabOk = true := by kernel_rfl
theorem tab_ok (x : Nat) (h : x < 256) : ∃ n : Nat, n ≤ 8 ∧ Bl x n ∧ ixV Tryz.prog 9 tab8 (.int .u8 (x : Int)) = some (.int .u8 (n : Int)) := by
 have hx := List.all_eq_true.mp tab_all x (List.mem_range.mpr h)
 unfold tabOk at hx
 split at hx
 ·rename_i n e
  simp only [Bool.and_eq_true, Bool.or_eq_true, decide_eq_true_eq] at hx
  exact ⟨n, hx.1.1, ⟨hx.1.2, hx.2⟩, e⟩
 ·cases hx
theorem cv8 (n : Int) : cvV Tryz.prog 5 3 (.int .u8 n) = some (.int .i64 (IntKind.i64.wrap n)) := cv_5_3 n
theorem wrap64n (n : Nat) (h : n < 1000000) : IntKind.i64.wrap (n : Int) = n := qg (by omega) (by omega)
theorem len10 (x v : Nat) (h : x < 256) (hv : v ≤ 100) : ∃ n, n ≤ 8 ∧ Bl x n ∧ ∀ hp, B180_10 (.int .u64 (x : Int)) (.int .i64 (v : Int)) hp = some (.sc (.int .i64 ((n + v : Nat) : Int)), hp) := by
 obtain ⟨n, h1, h2, h3⟩ := tab_ok x h
 refine ⟨n, h1, h2, fun hp => ?_⟩
 have w : IntKind.u8.wrap (x : Int) = x := zt (by omega) (by omega)
 have w2 : IntKind.i64.wrap (n : Int) = n := wrap64n n (by omega)
 have w3 : IntKind.i64.wrap ((v : Int) + (n : Int)) = ((n + v : Nat) : Int) := by rw [qg] <;> omega
 rw [B180_10']
 simp [cv_76_5, w, h3, cv8, w2, w3]
theorem shr_nat (x k : Nat) (hk : k ≤ 64) (o o' : Operand) (K : IntKind) : binV Tryz.prog .shr 76 o o' (.int .u64 (x : Int)) (.int K (k : Int)) = some (.int .u64 ((x / 2 ^ k : Nat) : Int)) := by
 rw [zK _ _ _ _ _ _ _ _ (by omega)]
 have e : min ((k : Int)).toNat IntKind.u64.bits = k := by
  have : IntKind.u64.bits = 64 := rfl
  rw [this]; omega
 rw [e, Int.fdiv_eq_ediv_of_nonneg _ (by exact_mod_cast Nat.zero_le (2 ^ k))]
 congr 2
theorem len7 (x v : Nat) (h : x < 65536) (hv : v ≤ 90) : ∃ n, n ≤ 16 ∧ Bl x n ∧ ∀ hp, B180_7 (.int .u64 (x : Int)) (.int .i64 (v : Int)) hp = some (.sc (.int .i64 ((n + v : Nat) : Int)), hp) := by
 by_cases hx : 256 ≤ x
 ·obtain ⟨n, h1, h2, h3⟩ := len10 (x / 2 ^ 8) (v + 8) (by omega) (by omega)
  refine ⟨n + 8, by omega, h2.up (by omega), fun hp => ?_⟩
  have s := shr_nat x 8 (by omega) (.tmp 15) (.const (.int .u64 8)) .u64
  have c : (256 : Int) ≤ (x : Int) := by omega
  have w : IntKind.i64.wrap ((v : Int) + 8) = ((v + 8 : Nat) : Int) := by rw [qg] <;> omega
  have e : n + (v + 8) = n + 8 + v := by omega
  rw [e] at h3
  rw [B180_7_eq]
  simp at s w h3
  simp [c, s, w, h3]
 ·obtain ⟨n, h1, h2, h3⟩ := len10 x v (by omega) (by omega)
  refine ⟨n, by omega, h2, fun hp => ?_⟩
  have c : ¬((256 : Int) ≤ (x : Int)) := by omega
  rw [B180_7_eq]
  simp at h3
  simp [c, h3]
theorem len4 (x v : Nat) (h : x < 4294967296) (hv : v ≤ 70) : ∃ n, n ≤ 32 ∧ Bl x n ∧ ∀ hp, B180_4 (.int .u64 (x : Int)) (.int .i64 (v : Int)) hp = some (.sc (.int .i64 ((n + v : Nat) : Int)), hp) := by
 by_cases hx : 65536 ≤ x
 ·obtain ⟨n, h1, h2, h3⟩ := len7 (x / 2 ^ 16) (v + 16) (by omega) (by omega)
  refine ⟨n + 16, by omega, h2.up (by omega), fun hp => ?_⟩
  have s := shr_nat x 16 (by omega) (.tmp 9) (.const (.int .u64 16)) .u64
  have c : (65536 : Int) ≤ (x : Int) := by omega
  have w : IntKind.i64.wrap ((v : Int) + 16) = ((v + 16 : Nat) : Int) := by rw [qg] <;> omega
  have e : n + (v + 16) = n + 16 + v := by omega
  rw [e] at h3
  rw [B180_4_eq]
  simp at s w h3
  simp [c, s, w, h3]
 ·obtain ⟨n, h1, h2, h3⟩ := len7 x v (by omega) (by omega)
  refine ⟨n, by omega, h2, fun hp => ?_⟩
  have c : ¬((65536 : Int) ≤ (x : Int)) := by omega
  rw [B180_4_eq]
  simp at h3
  simp [c, h3]
theorem run_len64 (x : Nat) (h : x < 18446744073709551616) : ∃ n, n ≤ 64 ∧ Bl x n ∧ ∀ hp, run cxX 180 [.sc (.int .u64 (x : Int))] hp = some (.sc (.int .i64 (n : Int)), hp) := by
 by_cases hx : 4294967296 ≤ x
 ·obtain ⟨n, h1, h2, h3⟩ := len4 (x / 2 ^ 32) 32 (by omega) (by omega)
  refine ⟨n + 32, by omega, h2.up (by omega), fun hp => ?_⟩
  have s := shr_nat x 32 (by omega) (.tmp 5) (.const (.int .u64 32)) .u64
  have c : (4294967296 : Int) ≤ (x : Int) := by omega
  rw [E180]
  simp at s h3
  simp [c, s, h3]
 ·obtain ⟨n, h1, h2, h3⟩ := len4 x 0 (by omega) (by omega)
  refine ⟨n, by omega, h2, fun hp => ?_⟩
  have c : ¬((4294967296 : Int) ≤ (x : Int)) := by omega
  rw [E180]
  simp at h3
  simp [c, h3]
section
variable {B : Nat} (hB : B = 4294967296)
include hB
end
@[simp] theorem nilP_ptr (b g o : Nat) : nilP (.ptr b g o) = some false := rfl
@[simp] theorem nilP_nil : nilP (.sc (.pointer none)) = some true := rfl
@[simp] theorem nnA_ptr (b g o : Nat) : nnA (.ptr b g o) = some () := rfl
@[simp] theorem jr (b g o : Nat) : qk (.ptr b g o) = some (b, g, o) := rfl
@[simp] theorem ro_ptr (b g o : Nat) : ro (.ptr b g o) = .ptr b g o := rfl
@[simp] theorem ro1_ptr (b g o : Nat) : ro1 (.ptr b g o) = .ptr b g o := rfl
@[simp] theorem noTup_ptr (b g o : Nat) : qM (.ptr b g o) = some () := rfl
theorem qs (hp : Hp) (b : Nat) (x y : List AV) : (hp.put b 0 x).put b 0 y = hp.put b 0 y := by
 unfold Hp.put
 congr 1
 funext z
 by_cases e : z = b
 ·simp [e]
 ·simp [e]
theorem zF (hp : Hp) (x y : List AV) : (hp.new x).put hp.next 0 y = hp.new y := by
 unfold Hp.put Hp.new
 congr 1
 funext z
 by_cases e : z = hp.next
 ·simp [e]
 ·simp [e]
theorem zV {hp : Hp} {b : Nat} {x : List AV} (h : hp.rd b 0 = some x) : hp.put b 0 x = hp := by
 have hg : hp.get b = some (0, x) := by
  unfold Hp.rd at h
  obtain ⟨p, hp1, h⟩ := bsm h
  split at h
  ·rename_i e
   cases h
   rw [hp1]
   obtain ⟨p1, p2⟩ := p
   have : p1 = 0 := e.1
   subst this; rfl
  ·cases h
 obtain ⟨n, g⟩ := hp
 unfold Hp.put
 congr 1
 funext z
 by_cases e : z = b
 ·subst e; simp only [if_true]; exact hg.symm
 ·simp [e]
theorem zx (hp : Hp) {b c : Nat} (x : List AV) (h : c ≠ b) : (hp.put b 0 x).rd c 0 = hp.rd c 0 := by
 simp [Hp.rd, Hp.put, h]
theorem rd_new_ne (hp : Hp) {c : Nat} (x : List AV) (h : c ≠ hp.next) : (hp.new x).rd c 0 = hp.rd c 0 := by
 simp [Hp.rd, Hp.new, h]
@[simp] theorem next_put (hp : Hp) (b : Nat) (x : List AV) : (hp.put b 0 x).next = hp.next := rfl
@[simp] theorem next_new (hp : Hp) (x : List AV) : (hp.new x).next = hp.next + 1 := rfl
abbrev Wc (l : List Int) : List AV := [S 2 1 (LI .u8 l)]
theorem jZ {x : Int} : IntKind.u8.wrap x = x % 256 := by rw [IntKind.wrap_u8]
theorem zb (b : Nat) (l : List Int) (c : Int) (hl : l.length ≤ 1000000) (hp : Hp) (h : hp.rd b 0 = some (Wc l)) :
  run cxX 36 [.ptr b 0 0, .sc (.int .u8 c)] hp = some (.tup [], hp.put b 0 (Wc (l ++ [c]))) := by
 have ap := appI .u8 l 2 (.inr rfl) 1 (by decide) c hl
 rw [E36]
 simp [h, getC, ap, qp, putN, qs]
theorem yO (b : Nat) (l m : List Int) (k : Nat) (hl : l.length + m.length ≤ 1000000) (hp : Hp) (h : hp.rd b 0 = some (Wc l)) :
  run cxX 35 [.ptr b 0 0, S k 1 (LI .u8 m)] hp = some (.tup [], hp.put b 0 (Wc (l ++ m))) := by
 have ap := fun k => appsI .u8 l 2 (.inr rfl) 1 (by decide) k m hl
 rw [E35]
 simp [h, getC, ap, qp, putN, qs]
theorem run_wbytes (b : Nat) (l : List Int) (hl : l.length ≤ 1000000) (hp : Hp) (h : hp.rd b 0 = some (Wc l)) :
  run cxX 13 [.ptr b 0 0] hp = some (S 1 1 (LI .u8 l), hp) := by
 have ap := fun k => appsI .u8 [] 1 (.inl rfl) 1 (by decide) k l (by simpa using hl)
 simp at ap
 rw [E13]
 simp [h, getC, ap]
theorem or128_bv : ∀ x : BitVec 8, (x ||| 128#8).toNat = x.toNat % 128 + 128 := by decide
theorem or128 (n : Nat) (t : TypeId) (x y : Operand) : binV Tryz.prog .or t x y (.int .u8 ((n : Int) % 256)) (.int .u8 128) = some (.int .u8 ((n % 128 + 128 : Nat) : Int)) := by
 rw [zT]
 have e1 : (BitVec.ofInt 8 ((n : Int) % 256)).toNat = n % 256 := by
  rw [BitVec.toNat_ofInt]
  omega
 have e2 : (BitVec.ofInt IntKind.u8.bits ((n : Int) % 256) ||| BitVec.ofInt IntKind.u8.bits 128).toNat = n % 128 + 128 := by
  show (BitVec.ofInt 8 ((n : Int) % 256) ||| 128#8).toNat = _
  rw [or128_bv, e1]
  omega
 rw [e2, zt (by omega) (by omega)]
theorem shr7 (n : Nat) (t : TypeId) (x y : Operand) : binV Tryz.prog .shr t x y (.int .u64 (n : Int)) (.int .u64 7) = some (.int .u64 ((n / 128 : Nat) : Int)) := by
 rw [zK _ _ _ _ _ _ _ _ (by omega)]
 congr 2
 rw [Int.fdiv_eq_ediv_of_nonneg _ (by decide)]
 show (n : Int) / 128 = _
 omega
theorem wuint_loop (b : Nat) : ∀ (n : Nat) (l : List Int) (hp : Hp), n < 18446744073709551616 → l.length + (uv n).length ≤ 1000000 → hp.rd b 0 = some (Wc l) →
  B25_0 (.ptr b 0 0) (.int .u64 (n : Int)) hp = some (.tup [], hp.put b 0 (Wc (l ++ uv n))) := by
 intro n
 induction n using Nat.strongRecOn with
 | _ n ih =>
  intro l hp hn hl h
  rw [B25_0_eq]
  by_cases h1 : n < 128
  ·rw [uv_lt h1] at hl ⊢
   have hge : ¬((n : Int) ≥ 128) := by omega
   have hge' : ¬((128 : Int) ≤ (n : Int)) := by omega
   have w : IntKind.u8.wrap (n : Int) = (n : Int) := zt (by omega) (by omega)
   have wb := zb b l n (by simp at hl; omega) hp h
   simp [hge', w, wb]
  ·rw [uv_ge h1] at hl ⊢
   have hge : (128 : Int) ≤ (n : Int) := by omega
   have w : IntKind.u8.wrap (n : Int) = (n : Int) % 256 := by rw [jZ]
   have wb := zb b l ((n % 128 + 128 : Nat) : Int) (by simp at hl; omega) hp h
   have o := or128 n
   have s := shr7 n
   have ih' := ih (n / 128) (by omega) (l ++ [((n % 128 + 128 : Nat) : Int)]) (hp.put b 0 (Wc (l ++ [((n % 128 + 128 : Nat) : Int)]))) (by omega) (by simp at hl ⊢; omega) (qp _ _ _)
   rw [qs] at ih'
   generalize ((n % 128 + 128 : Nat) : Int) = c at *
   generalize ((n / 128 : Nat) : Int) = d at *
   simp [hge, w, wb, o, s, ih', -zT]
theorem qQ (b n : Nat) (l : List Int) (hn : n < 18446744073709551616) (hl : l.length + (uv n).length ≤ 1000000) (hp : Hp) (h : hp.rd b 0 = some (Wc l)) :
  run cxX 25 [.ptr b 0 0, .sc (.int .u64 (n : Int))] hp = some (.tup [], hp.put b 0 (Wc (l ++ uv n))) := by
 rw [E25]
 simp [wuint_loop b n l hp hn hl h]
theorem xor_zero (x : Nat) (h : x < 18446744073709551616) (t : TypeId) (a b : Operand) : binV Tryz.prog .xor t a b (.int .u64 (x : Int)) (.int .u64 0) = some (.int .u64 (x : Int)) := by
 rw [yv]
 have e : (BitVec.ofInt IntKind.u64.bits (x : Int) ^^^ BitVec.ofInt IntKind.u64.bits 0).toNat = x := by
  show (BitVec.ofInt 64 (x : Int) ^^^ 0#64).toNat = x
  rw [BitVec.xor_zero, BitVec.toNat_ofInt]
  omega
 rw [e, qt (by omega) (by omega)]
theorem xor_ones (x : Nat) (h : x < 18446744073709551616) (t : TypeId) (a b : Operand) : binV Tryz.prog .xor t a b (.int .u64 (x : Int)) (.int .u64 18446744073709551615) = some (.int .u64 ((18446744073709551615 - x : Nat) : Int)) := by
 rw [yv]
 have e : (BitVec.ofInt IntKind.u64.bits (x : Int) ^^^ BitVec.ofInt IntKind.u64.bits 18446744073709551615).toNat = 18446744073709551615 - x := by
  have e1 : BitVec.ofInt 64 18446744073709551615 = BitVec.allOnes 64 := by decide
  show (BitVec.ofInt 64 (x : Int) ^^^ BitVec.ofInt 64 18446744073709551615).toNat = _
  rw [e1, BitVec.xor_allOnes, BitVec.toNat_not, BitVec.toNat_ofInt]
  omega
 rw [e, qt (by omega) (by omega)]
theorem run_wint (b : Nat) (n : Int) (l : List Int) (hn : -9223372036854775808 ≤ n ∧ n < 9223372036854775808) (hl : l.length + (uv (zz n)).length ≤ 1000000) (hp : Hp) (h : hp.rd b 0 = some (Wc l)) :
  run cxX 12 [.ptr b 0 0, .sc (.int .i64 n)] hp = some (.tup [], hp.put b 0 (Wc (l ++ uv (zz n)))) := by
 have wu := qQ b (zz n) l (zz_lt hn.1 hn.2) hl hp h
 rw [E12]
 by_cases h0 : n < 0
 ·have z : zz n = 18446744073709551615 - (2 * n + 18446744073709551616).toNat := by unfold zz; rw [if_pos h0]; omega
  have w1 : IntKind.u64.wrap n = n + 18446744073709551616 := by rw [IntKind.wrap_u64]; omega
  have s1 : ∀ t x y, binV Tryz.prog .shl t x y (.int .u64 (n + 18446744073709551616)) (.int .u64 1) = some (.int .u64 (((2 * n + 18446744073709551616).toNat : Nat) : Int)) := by
   intro t x y
   rw [zL _ _ _ _ _ _ _ _ (by omega)]
   have e : (2 : Int) ^ min (1 : Int).toNat IntKind.u64.bits = 2 := rfl
   rw [e, IntKind.wrap_u64]
   congr 2
   omega
  have s2 : ∀ t x y, binV Tryz.prog .shr t x y (.int .i64 n) (.int .u64 63) = some (.int .i64 (-1)) := by
   intro t x y
   rw [zK _ _ _ _ _ _ _ _ (by omega)]
   have e : (2 : Int) ^ min (63 : Int).toNat IntKind.i64.bits = 9223372036854775808 := rfl
   rw [e, Int.fdiv_eq_ediv_of_nonneg _ (by omega)]
   congr 2
   omega
  have w2 : IntKind.u64.wrap (-1) = 18446744073709551615 := by rw [IntKind.wrap_u64]; rfl
  have x1 := xor_ones (2 * n + 18446744073709551616).toNat (by omega)
  rw [← z] at x1
  generalize (2 * n + 18446744073709551616).toNat = X at *
  simp [w1, s1, s2, w2, x1, wu, -yv]
 ·have z : zz n = (2 * n).toNat := by unfold zz; rw [if_neg h0]; omega
  have w1 : IntKind.u64.wrap n = n := qt (by omega) (by omega)
  have s1 : ∀ t x y, binV Tryz.prog .shl t x y (.int .u64 n) (.int .u64 1) = some (.int .u64 ((zz n : Nat) : Int)) := by
   intro t x y
   rw [zL _ _ _ _ _ _ _ _ (by omega)]
   have e : (2 : Int) ^ min (1 : Int).toNat IntKind.u64.bits = 2 := rfl
   rw [e, IntKind.wrap_u64, z]
   congr 2
   omega
  have s2 : ∀ t x y, binV Tryz.prog .shr t x y (.int .i64 n) (.int .u64 63) = some (.int .i64 0) := by
   intro t x y
   rw [zK _ _ _ _ _ _ _ _ (by omega)]
   have e : (2 : Int) ^ min (63 : Int).toNat IntKind.i64.bits = 9223372036854775808 := rfl
   rw [e, Int.fdiv_eq_ediv_of_nonneg _ (by omega)]
   congr 2
   omega
  have w2 : IntKind.u64.wrap 0 = 0 := rfl
  have x1 := xor_zero (zz n) (zz_lt hn.1 hn.2)
  simp [w1, s1, s2, w2, x1, wu, -yv]
abbrev Rc (k : Nat) (l : List Int) (p : Nat) (e : Int) : List AV := [S k 1 (LI .u8 l), .sc (.int .i64 (p : Int)), .sc (.int .i64 e)]
def rE (e f : Int) : Int := if e = 0 then f else e
def rL (l : List Int) (p : Nat) (e : Int) : Nat := if e = 0 then l.length - p else 0
theorem run_wread (k : Nat) (l : List Int) (hp : Hp) : run cxX 42 [S k 1 (LI .u8 l)] hp = some (.ptr hp.next 0 0, hp.new (Rc (rk k) l 0 0)) := by
 rw [E42]
 simp [putN]
 rfl
section
variable (b k : Nat) (l : List Int) (p : Nat) (e : Int) (hp : Hp)
theorem run_rerr (h : hp.rd b 0 = some (Rc k l p e)) : run cxX 93 [.ptr b 0 0] hp = some (.sc (.int .i64 e), hp) := by
 rw [E93]
 simp [h, qc]
theorem run_rfail (f : Int) (h : hp.rd b 0 = some (Rc k l p e)) : run cxX 95 [.ptr b 0 0, .sc (.int .i64 f)] hp = some (.tup [], hp.put b 0 (Rc k l p (rE e f))) := by
 rw [E95]
 unfold rE
 by_cases h0 : e = 0
 ·subst h0
  simp [h, qc, B95_1_eq, putN]
 ·simp [h, qc, h0, zV h]
theorem run_rleft (hl : l.length ≤ 1000000000) (hp' : p ≤ l.length) (h : hp.rd b 0 = some (Rc k l p e)) : run cxX 103 [.ptr b 0 0] hp = some (.sc (.int .i64 (rL l p e : Nat)), hp) := by
 rw [E103]
 unfold rL
 by_cases h0 : e = 0
 ·subst h0
  have w : IntKind.i64.wrap ((l.length : Int) - (p : Int)) = ((l.length - p : Nat) : Int) := by rw [qg] <;> omega
  simp [h, qc, getC, B103_3_eq, w]
 ·simp [h, qc, h0, B103_2_eq]
def rB (l : List Int) (p : Nat) (e : Int) : Int × Nat × Int := if rL l p e = 0 then (0, p, rE e 3) else (l.getD p 0, p + 1, e)
theorem run_rbyte (hl : l.length ≤ 1000000000) (hp' : p ≤ l.length) (h : hp.rd b 0 = some (Rc k l p e)) :
  run cxX 48 [.ptr b 0 0] hp = some (.sc (.int .u8 (rB l p e).1), hp.put b 0 (Rc k l (rB l p e).2.1 (rB l p e).2.2)) := by
 have lf := run_rleft b k l p e hp hl hp' h
 rw [E48]
 unfold rB
 by_cases h0 : rL l p e = 0
 ·have fl := run_rfail b k l p e hp 3 h
  simp [lf, h0, fl]
 ·have he : e = 0 := by
   unfold rL at h0
   by_cases he : e = 0
   ·exact he
   ·simp [he] at h0
  subst he
  have hlt : p < l.length := by unfold rL at h0; simp at h0; omega
  have w : IntKind.i64.wrap ((p : Int) + 1) = ((p + 1 : Nat) : Int) := by rw [qg] <;> omega
  have w2 : IntKind.i64.wrap (((p + 1 : Nat) : Int) - 1) = (p : Int) := by rw [qg] <;> omega
  have w3 : IntKind.i64.wrap (p : Int) = (p : Int) := qg (by omega) (by omega)
  simp only [Int.natCast_add, Int.natCast_one] at w w2
  simp [lf, h0, h, qc, getC, w, putN, qp, w2, w3, hlt, Rc]
theorem run_rend (hl : l.length ≤ 1000000000) (hp' : p ≤ l.length) (h : hp.rd b 0 = some (Rc k l p e)) :
  run cxX 53 [.ptr b 0 0] hp = some (.sc (.int .i64 (if e = 0 ∧ p < l.length then 15 else e)), hp) := by
 have er := run_rerr b k l p e hp h
 rw [E53]
 by_cases h0 : e = 0
 ·subst h0
  by_cases h1 : p < l.length
  ·simp [h, qc, getC, h1, B53_2_eq]
  ·simp [h, qc, getC, h1, B53_3_eq, er]
 ·simp [h, qc, h0, B53_3_eq, er]
end
theorem and127_bv : ∀ x : BitVec 8, (x &&& 127#8).toNat = x.toNat % 128 := by decide
theorem and127 (c : Nat) (hc : c < 256) (t : TypeId) (x y : Operand) : binV Tryz.prog .and t x y (.int .u8 (c : Int)) (.int .u8 127) = some (.int .u8 ((c % 128 : Nat) : Int)) := by
 rw [qL]
 have e1 : (BitVec.ofInt 8 (c : Int)).toNat = c := by
  rw [BitVec.toNat_ofInt]; omega
 have e2 : (BitVec.ofInt IntKind.u8.bits (c : Int) &&& BitVec.ofInt IntKind.u8.bits 127).toNat = c % 128 := by
  show (BitVec.ofInt 8 (c : Int) &&& 127#8).toNat = _
  rw [and127_bv, e1]
 rw [e2, zt (by omega) (by omega)]
theorem or_add (n x s : Nat) (hn : n < 2 ^ s) (h : n + x * 2 ^ s < 18446744073709551616) (t : TypeId) (a b : Operand) :
  binV Tryz.prog .or t a b (.int .u64 (n : Int)) (.int .u64 ((x * 2 ^ s : Nat) : Int)) = some (.int .u64 ((n + x * 2 ^ s : Nat) : Int)) := by
 rw [zT]
 generalize hy : x * 2 ^ s = y at *
 have e : (BitVec.ofInt IntKind.u64.bits (n : Int) ||| BitVec.ofInt IntKind.u64.bits (y : Int)).toNat = n + y := by
  show (BitVec.ofInt 64 (n : Int) ||| BitVec.ofInt 64 (y : Int)).toNat = _
  rw [BitVec.toNat_or, BitVec.toNat_ofInt, BitVec.toNat_ofInt]
  have e1 : ((n : Int) % ((2 ^ 64 : Nat) : Int)).toNat = n := by omega
  have e2 : ((y : Int) % ((2 ^ 64 : Nat) : Int)).toNat = y := by omega
  rw [e1, e2]
  have := Nat.two_pow_add_eq_or_of_lt hn x
  rw [Nat.mul_comm] at this
  rw [hy] at this
  rw [Nat.or_comm, ← this, Nat.add_comm]
 rw [e, qt (by omega) (by omega)]
def rU (l : List Int) (p : Nat) (e : Int) (most : Nat) : Nat × Nat × Int :=
 if e ≠ 0 then (0, p, e)
 else if (gU (l.drop p) 0 0 0).2.2 ≠ 0 then (0, p + (gU (l.drop p) 0 0 0).2.1, (gU (l.drop p) 0 0 0).2.2)
 else if most < (gU (l.drop p) 0 0 0).1 then (0, p + (gU (l.drop p) 0 0 0).2.1, 7)
 else ((gU (l.drop p) 0 0 0).1, p + (gU (l.drop p) 0 0 0).2.1, 0)
section
variable (b k : Nat) (l : List Int) (most : Nat)
theorem ruint_err (p : Nat) (e : Int) (he : e ≠ 0) (hp : Hp) (h : hp.rd b 0 = some (Rc k l p e)) (v : Value) (n s : Int) (c : Int) :
  B45_7 (.ptr b 0 0) v (.int .u64 n) (.int .i64 s) (.int .u8 c) hp = some (.sc (.int .u64 0), hp) := by
 have er := run_rerr b k l p e hp h
 rw [B45_7_eq]
 simp [er, he]
theorem ruint_err6 (p : Nat) (e : Int) (hp : Hp) (h : hp.rd b 0 = some (Rc k l p e)) (v : Value) (n s : Int) (c : Int) :
  B45_6 (.ptr b 0 0) v (.int .u64 n) (.int .i64 s) (.int .u8 c) hp = some (.sc (.int .u64 0), hp.put b 0 (Rc k l p (rE e 4))) := by
 have fl := run_rfail b k l p e hp 4 h
 have e7 := ruint_err b k l p (rE e 4) (by unfold rE; split <;> simp_all) (hp.put b 0 (Rc k l p (rE e 4))) (qp _ _ _) v n s c
 rw [B45_6_eq]
 simp [fl, e7]
def uF (most : Nat) (g : Nat × Nat × Int) : Nat × Int := if g.2.2 ≠ 0 then (0, g.2.2) else if most < g.1 then (0, 7) else (g.1, 0)
theorem ruint_7 (hm : most < 18446744073709551616) (q s n c : Nat) (hp : Hp) (hc : c < 256) (hs : s ≤ 63) (hn : n < 2 ^ s) (hfit : n + c % 128 * 2 ^ s < 18446744073709551616) (h : hp.rd b 0 = some (Rc k l q 0)) :
  B45_7 (.ptr b 0 0) (.int .u64 most) (.int .u64 n) (.int .i64 s) (.int .u8 c) hp =
   if c < 128 then (if most < n + c * 2 ^ s then some (.sc (.int .u64 0), hp.put b 0 (Rc k l q 7)) else some (.sc (.int .u64 ((n + c * 2 ^ s : Nat) : Int)), hp))
   else B45_4 (.ptr b 0 0) (.int .u64 most) (.int .u64 ((n + (c - 128) * 2 ^ s : Nat) : Int)) (.int .i64 ((s + 7 : Nat) : Int)) hp := by
 have er := run_rerr b k l q 0 hp h
 have fl := run_rfail b k l q 0 hp 7 h
 have an := and127 c hc
 have w : IntKind.u64.wrap ((c % 128 : Nat) : Int) = ((c % 128 : Nat) : Int) := qt (by omega) (by omega)
 have sh : ∀ t x y, binV Tryz.prog .shl t x y (.int .u64 ((c % 128 : Nat) : Int)) (.int .i64 (s : Int)) = some (.int .u64 ((c % 128 * 2 ^ s : Nat) : Int)) := by
  intro t x y
  rw [zL _ _ _ _ _ _ _ _ (by omega)]
  have e : min (s : Int).toNat IntKind.u64.bits = s := by
   have : IntKind.u64.bits = 64 := rfl
   omega
  rw [e]
  have e2 : ((c % 128 : Nat) : Int) * 2 ^ s = ((c % 128 * 2 ^ s : Nat) : Int) := by simp
  rw [e2, qt (by omega) (by omega)]
 have oo := or_add n (c % 128) s hn hfit
 have w7 : IntKind.i64.wrap ((s : Int) + 7) = ((s + 7 : Nat) : Int) := by rw [qg] <;> omega
 rw [B45_7_eq]
 by_cases h1 : c < 128
 ·have e1 : c % 128 = c := by omega
  rw [e1] at an w sh oo
  have hlt : ((c : Int) < 128) := by omega
  rw [if_pos h1]
  by_cases h2 : most < n + c * 2 ^ s
  ·rw [if_pos h2]
   generalize c * 2 ^ s = y at *
   generalize hz : n + y = z at *
   have hlt2 : (most : Int) < (z : Int) := by omega
   simp [er, an, w, sh, oo, hlt, hlt2, fl, rE, -qL, -zT]
  ·rw [if_neg h2]
   generalize c * 2 ^ s = y at *
   generalize hz : n + y = z at *
   have hlt2 : ¬((most : Int) < (z : Int)) := by omega
   simp [er, an, w, sh, oo, hlt, hlt2, -qL, -zT]
 ·have e1 : c % 128 = c - 128 := by omega
  rw [e1] at an w sh oo
  have hlt : ¬((c : Int) < 128) := by omega
  rw [if_neg h1]
  generalize (c - 128) * 2 ^ s = y at *
  generalize hz : n + y = z at *
  generalize ((c - 128 : Nat) : Int) = c' at *
  generalize ((s + 7 : Nat) : Int) = s' at *
  simp [er, an, w, sh, oo, hlt, w7, -qL, -zT]
end
section
variable (b k : Nat) (l : List Int) (most : Nat)
theorem ruint_loop (hm : most < 18446744073709551616) (hl : l.length ≤ 1000000000) (h8 : ∀ c ∈ l, 0 ≤ c ∧ c < 256) (p : Nat) : ∀ (r : List Int) (u s n i : Nat) (hp : Hp), l.drop (p + u) = r → p + u ≤ l.length → s = 7 * i → i ≤ 9 → n < 2 ^ s → hp.rd b 0 = some (Rc k l (p + u) 0) →
  B45_4 (.ptr b 0 0) (.int .u64 most) (.int .u64 n) (.int .i64 s) hp = some (.sc (.int .u64 ((uF most (gU r s n u)).1 : Nat)), hp.put b 0 (Rc k l (p + (gU r s n u).2.1) (uF most (gU r s n u)).2)) := by
 intro r
 induction r with
 | nil =>
  intro u s n i hp hr hpu hs hi hn h
  have hle := qw hr
  have hb : rB l (p + u) 0 = (0, p + u, 3) := by
   unfold rB rL rE
   rw [if_pos (by simp; omega)]
   simp
  have rb := run_rbyte b k l (p + u) 0 hp hl hpu h
  rw [hb] at rb
  have g : gU [] s n u = (0, u, 3) := rfl
  have f : uF most (0, u, 3) = (0, 3) := rfl
  rw [g, f]
  have e6 := ruint_err6 b k l (p + u) 3 (hp.put b 0 (Rc k l (p + u) 3)) (qp _ _ _) (.int .u64 most) n s 0
  have e7 := ruint_err b k l (p + u) 3 (by decide) (hp.put b 0 (Rc k l (p + u) 3)) (qp _ _ _) (.int .u64 most) n s 0
  have r34 : rE 3 4 = 3 := rfl
  rw [qs, r34] at e6
  rw [B45_4_eq]
  by_cases h63 : s = 63
  ·subst h63
   simp at e6
   simp [rb, e6]
  ·have hc : ¬((s : Int) = 63) := by omega
   by_cases h0 : s = 0
   ·subst h0
    simp at e7
    simp [rb, e7]
   ·have hp0 : 0 < s := by omega
    simp [rb, hc, hp0, e6]
 | cons c r ih =>
  intro u s n i hp hr hpu hs hi hn h
  obtain ⟨e1, e2, hlt, e3⟩ := qr hr
  have hc8 := h8 c (List.mem_of_getElem? e1)
  obtain ⟨cn, rfl⟩ : ∃ cn : Nat, c = cn := ⟨c.toNat, by omega⟩
  have hb : rB l (p + u) 0 = ((cn : Int), p + u + 1, 0) := by
   unfold rB rL
   rw [if_neg (by simp; omega)]
   simp [hlt, e3]
  have rb := run_rbyte b k l (p + u) 0 hp hl hpu h
  rw [hb] at rb
  have e6 := ruint_err6 b k l (p + u + 1) 0 (hp.put b 0 (Rc k l (p + u + 1) 0)) (qp _ _ _) (.int .u64 most) n s cn
  have r34 : rE 0 4 = 4 := rfl
  rw [qs, r34] at e6
  have hs63 : s ≤ 63 := by omega
  by_cases bad : (s = 63 ∧ 1 < (cn : Int)) ∨ (0 < s ∧ (cn : Int) = 0)
  ·have g : gU ((cn : Int) :: r) s n u = (0, u + 1, 4) := by unfold gU; rw [if_pos bad]
   have f : uF most (0, u + 1, 4) = (0, 4) := rfl
   rw [g, f, B45_4_eq]
   have hpu1 : p + (u + 1) = p + u + 1 := by omega
   rw [hpu1]
   by_cases h63 : s = 63
   ·subst h63
    by_cases h1 : 1 < cn
    ·have h1' : 1 < (cn : Int) := by omega
     simp at e6
     simp [rb, h1', e6]
    ·have hc0 : cn = 0 := by
      rcases bad with ⟨_, h2⟩ | ⟨_, h2⟩ <;> omega
     subst hc0
     simp at e6
     simp [rb, e6]
   ·have hc : ¬((s : Int) = 63) := by omega
    have hz : 0 < s ∧ cn = 0 := by
     rcases bad with ⟨h2, _⟩ | ⟨h2, h3⟩
     ·exact absurd h2 h63
     ·exact ⟨h2, by omega⟩
    obtain ⟨hz1, hz2⟩ := hz
    subst hz2
    simp at e6
    simp [rb, hc, hz1, e6]
  ·have hfit : n + cn % 128 * 2 ^ s < 18446744073709551616 := by
    by_cases h63 : s = 63
    ·subst h63
     have hc1 : ¬(1 < (cn : Int)) := fun h2 => bad (.inl ⟨rfl, h2⟩)
     have e : (2 : Nat) ^ 63 = 9223372036854775808 := rfl
     rw [e] at hn ⊢
     have : cn % 128 ≤ 1 := by omega
     omega
    ·have hs56 : s ≤ 56 := by omega
     have h7 : 2 ^ s ≤ 2 ^ 56 := Nat.pow_le_pow_right (by decide) hs56
     have e : (2 : Nat) ^ 56 = 72057594037927936 := rfl
     rw [e] at h7
     have : cn % 128 * 2 ^ s ≤ 127 * 72057594037927936 := Nat.mul_le_mul (by omega) h7
     omega
   have b7 := ruint_7 b k l most hm (p + u + 1) s n cn (hp.put b 0 (Rc k l (p + u + 1) 0)) (by omega) hs63 hn hfit (qp _ _ _)
   have hpu1 : p + (u + 1) = p + u + 1 := by omega
   have step : B45_4 (.ptr b 0 0) (.int .u64 most) (.int .u64 n) (.int .i64 s) hp = B45_7 (.ptr b 0 0) (.int .u64 most) (.int .u64 n) (.int .i64 s) (.int .u8 cn) (hp.put b 0 (Rc k l (p + u + 1) 0)) := by
    rw [B45_4_eq]
    by_cases h63 : s = 63
    ·subst h63
     have h1 : ¬(1 < cn) := fun h2 => bad (.inl ⟨rfl, by omega⟩)
     have h2 : ¬(cn = 0) := fun h2 => bad (.inr ⟨by omega, by omega⟩)
     have h1' : ¬(1 < (cn : Int)) := by omega
     simp [rb, h1', h2]
    ·have hc : ¬((s : Int) = 63) := by omega
     by_cases h0 : s = 0
     ·subst h0
      simp [rb]
     ·have hp0 : 0 < s := by omega
      have h2 : ¬(cn = 0) := fun h2 => bad (.inr ⟨by omega, by omega⟩)
      simp [rb, hc, hp0, h2]
   rw [step, b7]
   by_cases h1 : cn < 128
   ·have g : gU ((cn : Int) :: r) s n u = (n + cn * 2 ^ s, u + 1, 0) := by
     unfold gU; rw [if_neg bad, if_pos (by omega), Int.toNat_natCast]
    rw [if_pos h1, g, qs]
    by_cases h2 : most < n + cn * 2 ^ s
    ·have f : uF most (n + cn * 2 ^ s, u + 1, 0) = (0, 7) := by unfold uF; simp [h2]
     rw [if_pos h2, f]
     simp only [hpu1]; rfl
    ·have f : uF most (n + cn * 2 ^ s, u + 1, 0) = (n + cn * 2 ^ s, 0) := by unfold uF; simp [h2]
     rw [if_neg h2, f]
     simp only [hpu1]
   ·have g : gU ((cn : Int) :: r) s n u = gU r (s + 7) (n + (cn - 128) * 2 ^ s) (u + 1) := by
     conv => lhs; unfold gU
     rw [if_neg bad, if_neg (by omega), Int.toNat_natCast]
    have hi9 : i + 1 ≤ 9 := by
     by_cases h63 : s = 63
     ·exact absurd (.inl ⟨h63, by omega⟩) bad
     ·omega
    have hn7 : n + (cn - 128) * 2 ^ s < 2 ^ (s + 7) := by
     have e : 2 ^ (s + 7) = 128 * 2 ^ s := by rw [Nat.pow_add]; omega
     rw [e]
     have : (cn - 128) * 2 ^ s ≤ 127 * 2 ^ s := Nat.mul_le_mul_right _ (by omega)
     omega
    rw [if_neg h1, g]
    have hh := ih (u + 1) (s + 7) (n + (cn - 128) * 2 ^ s) (i + 1) (hp.put b 0 (Rc k l (p + u + 1) 0)) (by rw [hpu1]; exact e2) (by omega) (by omega) hi9 hn7 (by rw [hpu1]; exact qp _ _ _)
    rw [qs] at hh
    exact hh
theorem run_ruint (p : Nat) (e : Int) (hm : most < 18446744073709551616) (hl : l.length ≤ 1000000000) (h8 : ∀ c ∈ l, 0 ≤ c ∧ c < 256) (hpl : p ≤ l.length) (hp : Hp) (h : hp.rd b 0 = some (Rc k l p e)) :
  run cxX 45 [.ptr b 0 0, .sc (.int .u64 (most : Int))] hp = some (.sc (.int .u64 ((rU l p e most).1 : Nat)), hp.put b 0 (Rc k l (rU l p e most).2.1 (rU l p e most).2.2)) := by
 rw [E45]
 by_cases he : e = 0
 ·subst he
  have hh := ruint_loop b k l most hm hl h8 p (l.drop p) 0 0 0 0 hp rfl (by omega) rfl (by omega) (by decide) h
  have er : rU l p 0 most = ((uF most (gU (l.drop p) 0 0 0)).1, p + (gU (l.drop p) 0 0 0).2.1, (uF most (gU (l.drop p) 0 0 0)).2) := by
   unfold rU uF
   rw [if_neg (by simp)]
   split
   ·rfl
   ·split <;> rfl
  rw [er]
  simpa using hh
 ·have er : rU l p e most = (0, p, e) := by unfold rU; rw [if_pos he]
  rw [er]
  have hb : rB l p e = (0, p, e) := by
   unfold rB rL rE
   simp [he]
  have rb := run_rbyte b k l p e hp hl hpl h
  rw [hb, zV h] at rb
  have e7 := ruint_err b k l p e he hp h (.int .u64 most) 0 0 0
  rw [zV h]
  simp [B45_4_eq, rb, e7]
end
theorem and1 (n : Nat) (hn : n < 18446744073709551616) (t : TypeId) (x y : Operand) : binV Tryz.prog .and t x y (.int .u64 (n : Int)) (.int .u64 1) = some (.int .u64 ((n % 2 : Nat) : Int)) := by
 rw [qL]
 have e2 : (BitVec.ofInt IntKind.u64.bits (n : Int) &&& BitVec.ofInt IntKind.u64.bits 1).toNat = n % 2 := by
  show (BitVec.ofInt 64 (n : Int) &&& 1#64).toNat = _
  rw [BitVec.toNat_and, BitVec.toNat_ofInt]
  have e1 : ((n : Int) % ((2 ^ 64 : Nat) : Int)).toNat = n := by omega
  rw [e1]
  exact Nat.and_one_is_mod n
 rw [e2, qt (by omega) (by omega)]
def Fm (X : List Nat) (hp hp' : Hp) : Prop := hp.next ≤ hp'.next ∧ ∀ c, c < hp.next → c ∉ X → hp'.get c = hp.get c
theorem Fm.refl (X : List Nat) (hp : Hp) : Fm X hp hp := ⟨Nat.le_refl _, fun _ _ _ => rfl⟩
theorem Fm.trans {X : List Nat} {a b c : Hp} (h : Fm X a b) (g : Fm X b c) : Fm X a c :=
 ⟨Nat.le_trans h.1 g.1, fun x hx hn => by rw [g.2 x (Nat.lt_of_lt_of_le hx h.1) hn, h.2 x hx hn]⟩
theorem Fm.mono {X Y : List Nat} {a b : Hp} (h : Fm X a b) (hs : ∀ c, c ∈ X → c < a.next → c ∈ Y) : Fm Y a b :=
 ⟨h.1, fun c hc hn => h.2 c hc (fun hx => hn (hs c hx hc))⟩
theorem rdg {a b : Hp} {c : Nat} (h : b.get c = a.get c) : b.rd c 0 = a.rd c 0 := by unfold Hp.rd; rw [h]
theorem Fm.rd {X : List Nat} {a b : Hp} (h : Fm X a b) {c : Nat} (hc : c < a.next) (hn : c ∉ X) : b.rd c 0 = a.rd c 0 := rdg (h.2 c hc hn)
theorem Fm.put {X : List Nat} (hp : Hp) (b : Nat) (x : List AV) (hb : b ∈ X) : Fm X hp (hp.put b 0 x) :=
  ⟨Nat.le_refl _, fun c _ hn => by
    have : c ≠ b := fun e => hn (e ▸ hb)
    simp [Hp.put, this]⟩
theorem Fm.new (X : List Nat) (hp : Hp) (x : List AV) : Fm X hp (hp.new x) :=
  ⟨Nat.le_succ _, fun c hc _ => by
    have : c ≠ hp.next := by omega
    simp [Hp.new, this]⟩
theorem Fm.delNew {X : List Nat} (hp : Hp) (b : Nat) (x : List AV) (hb : b ∈ X) : Fm X hp ((hp.del b).new x) :=
  ⟨Nat.le_succ _, fun c hc hn => by
    have h1 : c ≠ hp.next := by omega
    have h2 : c ≠ b := fun e => hn (e ▸ hb)
    have h3 : c ≠ (hp.del b).next := h1
    show (if c = (hp.del b).next then _ else (hp.del b).get c) = _
    rw [if_neg h3]
    show (if c = b then none else hp.get c) = _
    rw [if_neg h2]⟩
def Bs (nb : Nat) (bs : List Bool) : AV := if bs = [] then S 2 1 [] else .ms nb 0 0 (pk bs).length 1
def BW (hp : Hp) (w nb : Nat) (bs : List Bool) : Prop :=
 w < hp.next ∧ (bs = [] → nb = w) ∧ (bs ≠ [] → nb < hp.next ∧ nb ≠ w ∧ hp.rd nb 0 = some (LI .u8 (pk bs))) ∧ hp.rd w 0 = some [Bs nb bs, .sc (.int .i64 (bs.length : Int))]
def RW (hp : Hp) (w nb : Nat) (l : List Bool) (m : Nat) : Prop :=
 w < hp.next ∧ nb < hp.next ∧ nb ≠ w ∧ hp.rd nb 0 = some (LI .u8 (pk l)) ∧ hp.rd w 0 = some [.ms nb 0 0 (pk l).length 1, .sc (.int .i64 (m : Int))]
theorem BW.new (hp : Hp) : BW (hp.new [S 2 1 [], .sc (.int .i64 0)]) hp.next hp.next [] :=
 ⟨Nat.lt_succ_self _, fun _ => rfl, fun h => absurd rfl h, by rw [qB]; rfl⟩
theorem BW.fr {hp hp' : Hp} {w nb : Nat} {bs : List Bool} {X : List Nat} (h : BW hp w nb bs) (f : Fm X hp hp') (h1 : w ∉ X) (h2 : nb ∉ X) : BW hp' w nb bs :=
  ⟨Nat.lt_of_lt_of_le h.1 f.1, h.2.1, fun hb => ⟨Nat.lt_of_lt_of_le (h.2.2.1 hb).1 f.1, (h.2.2.1 hb).2.1, by rw [f.rd (h.2.2.1 hb).1 h2]; exact (h.2.2.1 hb).2.2⟩,
    by rw [f.rd h.1 h1]; exact h.2.2.2⟩
def BS (hp : Hp) (w nb : Nat) (hp' : Hp) (nb' : Nat) (l : List Bool) : Prop := BW hp' w nb' l ∧ Fm [w, nb] hp hp' ∧ (nb' = nb ∨ hp.next ≤ nb')
theorem BS.trans {a b c : Hp} {w n1 n2 n3 : Nat} {l m : List Bool} (hw : w < a.next) (h : BS a w n1 b n2 l) (g : BS b w n2 c n3 m) : BS a w n1 c n3 m := by
  refine ⟨g.1, ⟨Nat.le_trans h.2.1.1 g.2.1.1, fun x hx hn => ?_⟩, ?_⟩
  · have hx' := Nat.lt_of_lt_of_le hx h.2.1.1
    simp at hn
    rw [g.2.1.2 x hx' (by simp; refine ⟨hn.1, ?_⟩; rcases h.2.2 with e | e
                          · rw [e]; exact hn.2
                          · omega), h.2.1.2 x hx (by simp; exact hn)]
  · have := h.2.1.1
    rcases h.2.2 with e | e
    · rcases g.2.2 with e' | e'
      · exact .inl (by rw [e', e])
      · exact .inr (by omega)
    · rcases g.2.2 with e' | e'
      · exact .inr (by omega)
      · exact .inr (by omega)
theorem rem8 (m : Nat) (t : TypeId) (x y : Operand) : binV Tryz.prog .rem t x y (.int .i64 (m : Int)) (.int .i64 8) = some (.int .i64 ((m % 8 : Nat) : Int)) := by
 rw [qI _ _ _ _ _ _ _ (by omega), qG (by omega)]
 rfl
theorem quo8 (m : Nat) (hm : m < 1000000000) (t : TypeId) (x y : Operand) : binV Tryz.prog .quo t x y (.int .i64 (m : Int)) (.int .i64 8) = some (.int .i64 ((m / 8 : Nat) : Int)) := by
 rw [binV_quo _ _ _ _ _ _ _ (by omega), Int.tdiv_eq_ediv_of_nonneg (by omega), qg (by omega) (by omega)]
 rfl
theorem pkne {l : List Bool} (h : l ≠ []) : pk l ≠ [] := by
 intro e
 have := congrArg List.length e
 have h1 := List.length_pos_iff.mpr h
 simp at this
 omega
section
variable (w nb n : Nat) (v1 : Value) (i : Nat) (bs : List Bool) (hp : Hp)
theorem bput_A (hm : bs.length < 7900000) (h : BW hp w nb bs) : ∃ hp' nb', B86_2 (.ptr w 0 0) v1 (.int .i64 (i : Int)) hp = B86_6 (.ptr w 0 0) v1 (.int .i64 (i : Int)) hp' ∧
  RW hp' w nb' (bs ++ [false]) bs.length ∧ Fm [w, nb] hp hp' ∧ (nb' = nb ∨ hp.next ≤ nb') := by
 obtain ⟨h1, h2, h3, h4⟩ := h
 have hi : (0 : Int) ≤ (i : Int) := by omega
 have r8 := rem8 bs.length
 rw [B86_2_eq]
 by_cases hz : bs.length % 8 = 0
 ·have pf := pk_false bs
  rw [if_pos hz] at pf
  rw [hz] at r8
  by_cases hb : bs = []
  ·subst hb
   have e : Bs nb [] = S 2 1 [] := rfl
   have r80 : ∀ t x y, binV Tryz.prog .rem t x y (.int .i64 0) (.int .i64 8) = some (.int .i64 0) := fun t x y => rem8 0 t x y
   rw [e] at h4
   have a := appM_first .u8 0 1 (by decide) hp
   have hne : w ≠ hp.next := by omega
   have r1 := rd_new_ne hp (LI .u8 [0]) hne
   rw [h4] at r1
   refine ⟨(hp.new (LI .u8 [0])).put w 0 [.ms hp.next 0 0 1 1, .sc (.int .i64 0)], hp.next, ?_, ?_, ?_, .inr (Nat.le_refl _)⟩
   ·simp [hi, h4, qc, getC, r80, okV, a, r1, putN]
   ·refine ⟨by simp; omega, by simp, fun e => hne e.symm, ?_, ?_⟩
    ·rw [zx _ _ (fun e => hne e.symm), qB]; rfl
    ·rw [qp]; rfl
   ·exact (Fm.new _ hp _).trans (Fm.put _ _ _ (by simp))
  ·obtain ⟨n1, n2, n3⟩ := h3 hb
   have e : Bs nb bs = .ms nb 0 0 (pk bs).length 1 := if_neg hb
   rw [e] at h4
   have a := appM_one .u8 (pk bs) 0 1 nb (by decide) (by rw [jL]; omega) (pkne hb) hp n3
   have hne : w ≠ hp.next := by omega
   have r1 : ((hp.del nb).new (LI .u8 (pk bs ++ [0]))).rd w 0 = hp.rd w 0 := (Fm.delNew (X := [nb]) hp nb _ (by simp)).rd h1 (by simp; exact fun e => n2 e.symm)
   rw [h4] at r1
   refine ⟨((hp.del nb).new (LI .u8 (pk bs ++ [0]))).put w 0 [.ms hp.next 0 0 ((pk bs).length + 1) 1, .sc (.int .i64 bs.length)], hp.next, ?_, ?_, ?_, .inr (Nat.le_refl _)⟩
   ·generalize pk bs = pb at *
    simp [hi, h4, qc, getC, r8, okV, a, r1, putN]
   ·refine ⟨by simp [Hp.del]; omega, by simp [Hp.del], fun e => hne e.symm, ?_, ?_⟩
    ·rw [zx _ _ (fun e => hne e.symm), pf]; exact qB (hp.del nb) _
    ·rw [qp, pf, List.length_append]; rfl
   ·exact (Fm.delNew hp nb _ (by simp)).trans (Fm.put _ _ _ (by simp))
 ·have hb : bs ≠ [] := fun e => hz (by rw [e]; rfl)
  obtain ⟨n1, n2, n3⟩ := h3 hb
  have e : Bs nb bs = .ms nb 0 0 (pk bs).length 1 := if_neg hb
  rw [e] at h4
  have pf := pk_false bs
  rw [if_neg hz] at pf
  refine ⟨hp, nb, ?_, ⟨h1, n1, n2, by rw [pf]; exact n3, by rw [pf]; exact h4⟩, Fm.refl _ _, .inl rfl⟩
  have hz' : ¬(((bs.length % 8 : Nat) : Int) = 0) := by omega
  generalize ((bs.length % 8 : Nat) : Int) = z at *
  simp [hi, h4, qc, r8, hz']
theorem shr128 (m : Nat) (t : TypeId) (x y : Operand) : binV Tryz.prog .shr t x y (.int .u8 128) (.int .i64 ((m % 8 : Nat) : Int)) = some (.int .u8 ((2 ^ (7 - m % 8) : Nat) : Int)) := by
 rw [zK _ _ _ _ _ _ _ _ (by omega), Int.toNat_natCast]
 have h : m % 8 < 8 := Nat.mod_lt _ (by decide)
 generalize m % 8 = r at *
 have : r = 0 ∨ r = 1 ∨ r = 2 ∨ r = 3 ∨ r = 4 ∨ r = 5 ∨ r = 6 ∨ r = 7 := by omega
 rcases this with e | e | e | e | e | e | e | e <;> subst e <;> rfl
theorem or8 (bs : List Bool) (t : TypeId) (x y : Operand) : binV Tryz.prog .or t x y (.int .u8 (by8 (bs ++ [false]) (8 * (bs.length / 8)) : Nat)) (.int .u8 ((2 ^ (7 - bs.length % 8) : Nat) : Int)) =
  some (.int .u8 (by8 (bs ++ [true]) (8 * (bs.length / 8)) : Nat)) := by
 rw [zT]
 have e : (BitVec.ofInt IntKind.u8.bits (by8 (bs ++ [false]) (8 * (bs.length / 8)) : Nat) ||| BitVec.ofInt IntKind.u8.bits ((2 ^ (7 - bs.length % 8) : Nat) : Int)).toNat = by8 (bs ++ [true]) (8 * (bs.length / 8)) := by
  rw [← by8_or, BitVec.ofInt_natCast, BitVec.ofInt_natCast]
  rfl
 have := by8_lt (bs ++ [true]) (8 * (bs.length / 8))
 rw [e, zt (by omega) (by omega)]
theorem getSc_I (K : IntKind) (l : List Int) (i : Nat) (h : i < l.length) : qc (LI K l) i = some (.int K (l.getD i 0)) := by
 unfold qc LI
 rw [List.getElem?_map, List.getD_eq_getElem?_getD, List.getElem?_eq_getElem h]
 rfl
theorem bput_B (hn : n < 18446744073709551616) (hi : i < 64) (hm : bs.length < 7900000) (h : RW hp w nb (bs ++ [false]) bs.length) :
  ∃ hp', B86_6 (.ptr w 0 0) (.int .u64 (n : Int)) (.int .i64 (i : Int)) hp = B86_8 (.ptr w 0 0) (.int .u64 (n : Int)) (.int .i64 (i : Int)) hp' ∧
   RW hp' w nb (bs ++ [n.testBit i]) bs.length ∧ Fm [w, nb] hp hp' := by
 obtain ⟨h1, h2, h3, h4, h5⟩ := h
 have s1 := fun o o' => shr_nat n i (by omega) o o' .i64
 have s2' := and1 (n / 2 ^ i) (Nat.lt_of_le_of_lt (Nat.div_le_self _ _) hn)
 have tb : n.testBit i = decide (n / 2 ^ i % 2 = 1) := Nat.testBit_eq_decide_div_mod_eq
 rw [B86_6_eq]
 by_cases hb : n / 2 ^ i % 2 = 1
 ·have s2 : ∀ t x y, binV Tryz.prog .and t x y (.int .u64 ((n / 2 ^ i : Nat) : Int)) (.int .u64 1) = some (.int .u64 1) := fun t x y => by rw [s2', hb]; rfl
  rw [tb, decide_eq_true hb]
  have q := quo8 bs.length (by omega)
  have r := rem8 bs.length
  have s3 := shr128 bs.length
  have o8 := or8 bs
  have il : bs.length / 8 < (pk (bs ++ [false])).length := by rw [jL]; simp; omega
  have ix := zr .i64 il
  have g1 := getSc_I .u8 (pk (bs ++ [false])) _ il
  rw [pk_getD _ _ (by simp; omega)] at g1
  have p1 := putN_I .u8 (pk (bs ++ [false])) (bs.length / 8) (by8 (bs ++ [true]) (8 * (bs.length / 8)) : Nat) il
  rw [← pk_true] at p1
  have e := jL (bs ++ [true])
  have e2 : (pk (bs ++ [true])).length = (pk (bs ++ [false])).length := by simp
  refine ⟨hp.put nb 0 (LI .u8 (pk (bs ++ [true]))), ?_, ⟨h1, h2, h3, by rw [qp], by rw [zx _ _ (fun e => h3 e.symm), h5, e2]⟩, Fm.put _ _ _ (by simp)⟩
  generalize (by8 (bs ++ [false]) (8 * (bs.length / 8)) : Nat) = x at *
  generalize (by8 (bs ++ [true]) (8 * (bs.length / 8)) : Nat) = y at *
  generalize pk (bs ++ [false]) = pf at *
  generalize pk (bs ++ [true]) = pt at *
  generalize ((2 ^ (7 - bs.length % 8) : Nat) : Int) = zz at *
  generalize n / 2 ^ i = nn at *
  generalize bs.length / 8 = jj at *
  generalize bs.length % 8 = kk at *
  simp only [s1, Option.bind_some]
  have gs : ∀ (x : AV) (v : Value), qc [x, .sc v] 1 = some v := fun _ _ => rfl
  simp [s2, h5, getC, gs, q, ix, h4, g1, r, s3, o8, p1, -zT, -qL]
 ·have hz : n / 2 ^ i % 2 = 0 := by omega
  have s2 : ∀ t x y, binV Tryz.prog .and t x y (.int .u64 ((n / 2 ^ i : Nat) : Int)) (.int .u64 1) = some (.int .u64 0) := fun t x y => by rw [s2', hz]; rfl
  rw [tb, decide_eq_false hb]
  refine ⟨hp, ?_, ⟨h1, h2, h3, h4, h5⟩, Fm.refl _ _⟩
  generalize n / 2 ^ i = nn at *
  simp only [s1, Option.bind_some]
  simp [s2, -qL]
theorem bput_C (hm : bs.length < 7900000) (b : Bool) (hi : i < 64) (h : RW hp w nb (bs ++ [b]) bs.length) :
  ∃ hp', B86_8 (.ptr w 0 0) v1 (.int .i64 (i : Int)) hp = B86_2 (.ptr w 0 0) v1 (.int .i64 ((i : Int) - 1)) hp' ∧ BW hp' w nb (bs ++ [b]) ∧ Fm [w, nb] hp hp' := by
 obtain ⟨h1, h2, h3, h4, h5⟩ := h
 have w1 : IntKind.i64.wrap ((bs.length : Int) + 1) = ((bs.length : Int) + 1) := by rw [qg] <;> omega
 have w2 : IntKind.i64.wrap ((i : Int) - 1) = ((i : Int) - 1) := by rw [qg] <;> omega
 have hne : bs ++ [b] ≠ [] := by simp
 refine ⟨hp.put w 0 [.ms nb 0 0 (pk (bs ++ [b])).length 1, .sc (.int .i64 ((bs ++ [b]).length : Int))], ?_, ⟨h1, fun e => absurd e hne, fun _ => ⟨h2, h3, by rw [zx _ _ h3]; exact h4⟩, ?_⟩, Fm.put _ _ _ (by simp)⟩
 ·rw [B86_8_eq]
  generalize pk (bs ++ [b]) = pb at *
  simp [h5, qc, w1, w2, putN]
 ·rw [qp]
  unfold Bs
  rw [if_neg hne]
theorem bput_loop (w n : Nat) (hn : n < 18446744073709551616) : ∀ (k nb : Nat) (bs : List Bool) (hp : Hp), k ≤ 64 → bs.length + k < 7900000 → BW hp w nb bs →
  ∃ hp' nb', B86_2 (.ptr w 0 0) (.int .u64 (n : Int)) (.int .i64 ((k : Int) - 1)) hp = some (.tup [], hp') ∧ BS hp w nb hp' nb' (bs ++ nbs n k) := by
 intro k
 induction k with
 | zero =>
  intro nb bs hp hk hl h
  refine ⟨hp, nb, ?_, by simpa [nbs] using h, Fm.refl _ _, .inl rfl⟩
  rw [B86_2_eq]
  simp
 | succ k ih =>
  intro nb bs hp hk hl h
  obtain ⟨hp1, nb1, a1, a2, a3, a4⟩ := bput_A w nb (.int .u64 (n : Int)) k bs hp (by omega) h
  obtain ⟨hp2, b1, b2, b3⟩ := bput_B w nb1 n k bs hp1 hn (by omega) (by omega) a2
  obtain ⟨hp3, c1, c2, c3⟩ := bput_C w nb1 (.int .u64 (n : Int)) k bs hp2 (by omega) _ (by omega) b2
  obtain ⟨hp4, nb4, d1, d2⟩ := ih nb1 (bs ++ [n.testBit k]) hp3 (by omega) (by simp; omega) c2
  have e : ((k + 1 : Nat) : Int) - 1 = (k : Int) := by omega
  have e2 : bs ++ nbs n (k + 1) = bs ++ [n.testBit k] ++ nbs n k := by simp [nbs]
  refine ⟨hp4, nb4, by rw [e, a1, b1, c1, d1], ?_⟩
  rw [e2]
  refine BS.trans h.1 (n2 := nb1) (b := hp3) (l := bs ++ [n.testBit k]) ⟨c2, ?_, a4⟩ d2
  refine ⟨Nat.le_trans a3.1 (Nat.le_trans b3.1 c3.1), fun c hc hn => ?_⟩
  have hc1 := Nat.lt_of_lt_of_le hc a3.1
  have hc2 := Nat.lt_of_lt_of_le hc1 b3.1
  have hn' : c ∉ [w, nb1] := by
   simp at hn ⊢
   refine ⟨hn.1, ?_⟩
   rcases a4 with e | e
   ·rw [e]; exact hn.2
   ·omega
  rw [c3.2 c hc2 hn', b3.2 c hc1 hn', a3.2 c hc hn]
theorem run_bput (w nb n k : Nat) (bs : List Bool) (hp : Hp) (hn : n < 18446744073709551616) (hk : k ≤ 64) (hl : bs.length + k < 7900000) (h : BW hp w nb bs) :
  ∃ hp' nb', run cxX 86 [.ptr w 0 0, .sc (.int .u64 (n : Int)), .sc (.int .i64 (k : Int))] hp = some (.tup [], hp') ∧ BS hp w nb hp' nb' (bs ++ nbs n k) := by
 obtain ⟨hp', nb', h1, h2⟩ := bput_loop w n hn k nb bs hp hk hl h
 refine ⟨hp', nb', ?_, h2⟩
 have m1 : max (k : Int) 0 = (k : Int) := by omega
 have m2 : min (k : Int) 64 = (k : Int) := by omega
 have w1 : IntKind.i64.wrap ((k : Int) - 1) = (k : Int) - 1 := by rw [qg] <;> omega
 rw [E86]
 simp [m1, m2, w1, h1]
theorem unary_loop (w : Nat) : ∀ (k nb : Nat) (bs : List Bool) (hp : Hp), bs.length + k < 7800000 → BW hp w nb bs →
  ∃ hp' nb', B85_0 (.ptr w 0 0) (.int .i64 (k : Int)) hp = some (.tup [], hp') ∧ BS hp w nb hp' nb' (bs ++ una k) := by
 intro k
 induction k with
 | zero =>
  intro nb bs hp hl h
  obtain ⟨hp1, nb1, a1, a2⟩ := run_bput w nb 0 1 bs hp (by omega) (by omega) (by omega) h
  refine ⟨hp1, nb1, ?_, a2⟩
  rw [B85_0_eq]
  simp at a1
  simp [a1]
 | succ k ih =>
  intro nb bs hp hl h
  obtain ⟨hp1, nb1, a1, a2⟩ := run_bput w nb 1 1 bs hp (by omega) (by omega) (by omega) h
  obtain ⟨hp2, nb2, b1, b2⟩ := ih nb1 (bs ++ nbs 1 1) hp1 (by simp; omega) a2.1
  have w2 : IntKind.i64.wrap (((k + 1 : Nat) : Int) - 1) = (k : Int) := by rw [qg] <;> omega
  have hpos : ((k + 1 : Nat) : Int) > 0 := by omega
  have e : bs ++ una (k + 1) = bs ++ nbs 1 1 ++ una k := by simp [una, nbs, List.replicate_succ]
  refine ⟨hp2, nb2, ?_, by rw [e]; exact a2.trans h.1 b2⟩
  rw [B85_0_eq]
  generalize ((k + 1 : Nat) : Int) = z at *
  simp at a1
  simp [a1, hpos, w2, b1]
theorem run_unary (w nb k : Nat) (bs : List Bool) (hp : Hp) (hl : bs.length + k < 7800000) (h : BW hp w nb bs) :
  ∃ hp' nb', run cxX 85 [.ptr w 0 0, .sc (.int .i64 (k : Int))] hp = some (.tup [], hp') ∧ BS hp w nb hp' nb' (bs ++ una k) := by
 obtain ⟨hp', nb', h1, h2⟩ := unary_loop w k nb bs hp hl h
 refine ⟨hp', nb', ?_, h2⟩
 rw [E85]
 simp [h1]
theorem xa (w nb : Nat) (bs : List Bool) (hp : Hp) (hl : bs.length < 7900000) (h : BW hp w nb bs) :
  ∃ t hp', run cxX 87 [.ptr w 0 0] hp = some (S t 1 (LI .u8 (pk bs)), hp') ∧ Fm [] hp hp' := by
 obtain ⟨h1, h2, h3, h4⟩ := h
 rw [E87]
 by_cases hb : bs = []
 ·subst hb
  have e : Bs nb [] = S 2 1 [] := rfl
  rw [e] at h4
  refine ⟨1, hp, ?_, Fm.refl _ _⟩
  have a := appM_nil 1 2 hp
  simp [h4, getC, okV, a, pk_nil]
 ·obtain ⟨n1, n2, n3⟩ := h3 hb
  have e : Bs nb bs = .ms nb 0 0 (pk bs).length 1 := if_neg hb
  rw [e] at h4
  have s := srcM_all .u8 (pk bs) hp nb n3
  have a := appM_freshM .u8 (pk bs) (.ms nb 0 0 (pk bs).length 1) 1 (by decide) (by rw [jL]; omega) (pkne hb) hp s
  have f := frz1_I .u8 (pk bs) (hp.new (LI .u8 (pk bs))) hp.next (qB _ _)
  refine ⟨0, (hp.new (LI .u8 (pk bs))).del hp.next, ?_, ⟨by simp [Hp.del], fun c hc _ => ?_⟩⟩
  ·generalize pk bs = pb at *
   simp [h4, getC, okV, a, f]
  ·have : c ≠ hp.next := by omega
   simp [Hp.del, Hp.new, this]
end
noncomputable def B63_2 (hp : Hp) : Option (AV × Hp) := go cxX 63 [.code (sub [1, 0, 0, 1, 0, 0] cd63), .code (sub [1, 0, 0, 1, 0, 1] cd63), .inBlock 0, .code (sub [1, 1] cd63)] ⟨[], [], hp⟩
noncomputable def B63_3 (b1 : List AV) (hp : Hp) : Option (AV × Hp) := go cxX 63 [.code (sub [1, 0, 0, 1, 1, 0] cd63), .code (sub [1, 0, 0, 1, 1, 1] cd63), .inBlock 0, .code (sub [1, 1] cd63)] ⟨[(1, .lp 1 0 0)], [(1, 0, b1)], hp⟩
theorem E63 (a0 : AV) (hp : Hp) : run cxX 63 [a0] hp = ((qh 2 a0).bind fun y0 => ((qc (List.map ro1 y0) 0).bind fun y1 => ((binV Tryz.prog .lss 3 (.tmp 5) (.const (.int .i64 (.ofNat 1))) y1 (.int .i64 (.ofNat 1))).bind fun y2 => ((asB y2).bind fun y3 => (cond y3 (B63_2 hp) ((qc (List.map ro1 y0) 0).bind fun y4 => ((binV Tryz.prog .gtr 3 (.tmp 9) (.const (.int .i64 (.ofNat 1024))) y4 (.int .i64 (.ofNat 1024))).bind fun y5 => ((asB y5).bind fun y6 => (cond y6 (B63_2 hp) (B63_3 (List.map ro1 y0) hp)))))))))) :=
 (qf cxX 63 ss63 400 _ _).trans (by kernel_rfl)
theorem B63_2_eq (hp : Hp) : B63_2 hp = (some (Prod.mk (AV.sc (.int .i64 (.ofNat 2))) hp)) :=
 (qe cxX 63 ss63 400 _ _).trans (by kernel_rfl)
theorem B63_3_eq (b1 : List AV) (hp : Hp) : B63_3 b1 hp = ((getC b1 1).bind fun y7 => ((lenA (ro1 y7)).bind fun y8 => ((qc b1 0).bind fun y9 => ((binV Tryz.prog .gtr 3 (.tmp 15) (.tmp 17) (.int .i64 (.ofNat y8)) y9).bind fun y10 => ((asB y10).bind fun y11 => (cond y11 (some (Prod.mk (AV.sc (.int .i64 (.ofNat 7))) hp)) ((getC b1 1).bind fun y12 => ((qi [ro1 y12] []).bind fun y13 => ((run cxX 82 [ro (ro1 y12)] hp0).bind fun y14 => ((qm (y14).1).bind fun y15 => ((asSc (y14).1).bind fun y16 => (some (Prod.mk (AV.sc y16) hp))))))))))))) :=
 (qe cxX 63 ss63 400 _ _).trans (by kernel_rfl)
theorem E69 (a0 a1 : AV) (hp : Hp) : run cxX 69 [a0, a1] hp = ((asSc a1).bind fun y0 => ((qh 2 a0).bind fun y1 => ((getN (List.map ro1 y1) 0 2).bind fun y2 => ((qc (List.map ro1 y1) 0).bind fun y3 => ((okV [AV.sc y0]).bind fun y4 => ((qi [AV.agg (List.map ro1 y2), AV.agg [AV.sc y3, ro1 (AV.us 1 [AV.sc y0])]] []).bind fun y5 => ((run cxX 124 [ro (AV.agg (List.map ro1 y2)), ro (AV.agg [AV.sc y3, ro1 (AV.us 1 [AV.sc y0])])] hp0).bind fun y6 => ((qm (y6).1).bind fun y7 => ((qM (y6).1).bind fun y8 => ((qh 2 (y6).1).bind fun y9 => ((putN [AV.sc (.int .i64 (.ofNat 0)), AV.sc (.slice none 0 0)] 0 y9).bind fun y10 => ((getN y10 0 2).bind fun y11 => (some (Prod.mk (AV.agg y11) hp)))))))))))))) :=
 (qf cxX 69 ss69 400 _ _).trans (by kernel_rfl)
noncomputable def B117_2 (hp : Hp) : Option (AV × Hp) := go cxX 117 [.code (sub [1, 0, 1, 0, 0] cd117), .code (sub [1, 0, 1, 0, 1] cd117), .code (sub [1, 1] cd117)] ⟨[], [], hp⟩
noncomputable def B117_3 (b2 b3 : List AV) (hp : Hp) : Option (AV × Hp) := go cxX 117 [.code (sub [1, 1, 0, 0] cd117), .code (sub [1, 1, 0, 1] cd117), .code (sub [1, 1, 1] cd117)] ⟨[(2, .lp 2 0 0), (3, .lp 3 0 0)], [(2, 0, b2), (3, 0, b3)], hp⟩
noncomputable def B117_4 (v22 v23 : Value) (b2 b3 : List AV) (hp : Hp) : Option (AV × Hp) := go cxX 117 [.code (sub [1, 1, 0, 1, 0, 0, 0] cd117), .code (sub [1, 1, 0, 1, 0, 0, 1] cd117), .inLoop (sub [1, 1, 0, 1, 0, 0] cd117), .inBlock 0, .code (sub [1, 1, 1] cd117)] ⟨[(2, .lp 2 0 0), (3, .lp 3 0 0), (22, .sv v22), (23, .sv v23)], [(2, 0, b2), (3, 0, b3)], hp⟩
theorem E117 (a0 a1 : AV) (hp : Hp) : run cxX 117 [a0, a1] hp = ((qh 2 a0).bind fun y0 => ((qh 2 a1).bind fun y1 => ((qc (List.map ro1 y0) 0).bind fun y2 => ((qc (List.map ro1 y1) 0).bind fun y3 => ((binV Tryz.prog .neq 3 (.tmp 7) (.tmp 9) y2 y3).bind fun y4 => ((asB y4).bind fun y5 => (cond y5 (B117_2 hp) ((getC (List.map ro1 y0) 1).bind fun y6 => ((lenA (ro1 y6)).bind fun y7 => ((getC (List.map ro1 y1) 1).bind fun y8 => ((lenA (ro1 y8)).bind fun y9 => ((binV Tryz.prog .neq 3 (.tmp 14) (.tmp 17) (.int .i64 (.ofNat y7)) (.int .i64 (.ofNat y9))).bind fun y10 => ((asB y10).bind fun y11 => (cond y11 (B117_2 hp) (B117_3 (List.map ro1 y0) (List.map ro1 y1) hp))))))))))))))) :=
 (qf cxX 117 ss117 400 _ _).trans (by kernel_rfl)
theorem B117_2_eq (hp : Hp) : B117_2 hp = (some (Prod.mk (AV.sc (.bool false)) hp)) :=
 (qe cxX 117 ss117 400 _ _).trans (by kernel_rfl)
theorem B117_3_eq (b2 b3 : List AV) (hp : Hp) : B117_3 b2 b3 hp = ((getC b2 1).bind fun y12 => ((lenA (ro1 y12)).bind fun y13 => (B117_4 (.int .i64 (.ofNat y13)) (.int .i64 (.ofNat 0)) b2 b3 hp))) :=
 (qe cxX 117 ss117 400 _ _).trans (by kernel_rfl)
theorem B117_4_eq (v22 v23 : Value) (b2 b3 : List AV) (hp : Hp) : B117_4 v22 v23 b2 b3 hp = ((binV Tryz.prog .lss 3 (.tmp 23) (.tmp 22) v23 v22).bind fun y14 => ((asB y14).bind fun y15 => (cond y15 ((getC b2 1).bind fun y16 => ((idxA 1 (ro1 y16) v23).bind fun y17 => ((qc y17 0).bind fun y18 => ((getC b3 1).bind fun y19 => ((idxA 1 (ro1 y19) v23).bind fun y20 => ((qc y20 0).bind fun y21 => ((binV Tryz.prog .neq 76 (.tmp 30) (.tmp 35) y18 y21).bind fun y22 => ((asB y22).bind fun y23 => (cond y23 (some (Prod.mk (AV.sc (.bool false)) hp)) ((binV Tryz.prog .add 3 (.tmp 23) (.const (.int .i64 (.ofNat 1))) v23 (.int .i64 (.ofNat 1))).bind fun y24 => (B117_4 v22 y24 b2 b3 hp))))))))))) (some (Prod.mk (AV.sc (.bool true)) hp))))) :=
 (qe cxX 117 ss117 400 _ _).trans (by kernel_rfl)
noncomputable def B124_3 (x6 x7 : AV) (b2 b4 b5 : List AV) (hp : Hp) : Option (AV × Hp) := go cxX 124 [.code (sub [1, 1, 1, 0, 0, 0, 0, 0] zO), .code (sub [1, 1, 1, 0, 0, 0, 0, 1] zO), .code (sub [1, 1, 1, 0, 0, 0, 1] zO), .inLoop (sub [1, 1, 1, 0, 0, 0] zO), .inBlock 0, .code (sub [1, 1, 1, 1] zO)] ⟨[(2, .lp 2 0 0), (4, .lp 4 0 0), (5, .lp 5 0 0), (6, .av x6), (7, .av x7)], [(2, 0, b2), (4, 0, b4), (5, 0, b5)], hp⟩
noncomputable def B124_5 (x6 x7 : AV) (b2 b4 b5 : List AV) (hp : Hp) : Option (AV × Hp) := go cxX 124 [.code (sub [1, 1, 1, 0, 0, 0, 1, 0, 0, 0] zO), .code (sub [1, 1, 1, 0, 0, 0, 1, 0, 0, 1] zO), .inBlock 2, .inBlock 1, .inLoop (sub [1, 1, 1, 0, 0, 0] zO), .inBlock 0, .code (sub [1, 1, 1, 1] zO)] ⟨[(2, .lp 2 0 0), (4, .lp 4 0 0), (5, .lp 5 0 0), (6, .av x6), (7, .av x7)], [(2, 0, b2), (4, 0, b4), (5, 0, b5)], hp⟩
noncomputable def B124_9 (b4 b5 : List AV) (hp : Hp) : Option (AV × Hp) := go cxX 124 [.code (sub [1, 1, 1, 1, 0] zO), .code (sub [1, 1, 1, 1, 1] zO)] ⟨[(4, .lp 4 0 0), (5, .lp 5 0 0)], [(4, 0, b4), (5, 0, b5)], hp⟩
noncomputable def B124_6 (x6 x7 : AV) (b2 b4 b5 : List AV) (hp : Hp) : Option (AV × Hp) := go cxX 124 [.code (sub [1, 1, 1, 0, 0, 0, 1, 0, 0, 1, 0] zO), .inBlock 2, .inBlock 1, .inLoop (sub [1, 1, 1, 0, 0, 0] zO), .inBlock 0, .code (sub [1, 1, 1, 1] zO)] ⟨[(2, .lp 2 0 0), (4, .lp 4 0 0), (5, .lp 5 0 0), (6, .av x6), (7, .av x7)], [(2, 0, b2), (4, 0, b4), (5, 0, b5)], hp⟩
noncomputable def B124_7 (x6 x7 : AV) (b2 b4 b5 : List AV) (hp : Hp) : Option (AV × Hp) := go cxX 124 [.code (sub [1, 1, 1, 0, 0, 0, 1, 0, 0, 1, 1, 0] zO), .code (sub [1, 1, 1, 0, 0, 0, 1, 0, 0, 1, 1, 1] zO), .inBlock 2, .inBlock 1, .inLoop (sub [1, 1, 1, 0, 0, 0] zO), .inBlock 0, .code (sub [1, 1, 1, 1] zO)] ⟨[(2, .lp 2 0 0), (4, .lp 4 0 0), (5, .lp 5 0 0), (6, .av x6), (7, .av x7)], [(2, 0, b2), (4, 0, b4), (5, 0, b5)], hp⟩
noncomputable def B124_8 (x6 x7 : AV) (b2 b4 b5 : List AV) (hp : Hp) : Option (AV × Hp) := go cxX 124 [.code (sub [1, 1, 1, 0, 0, 0, 1, 0, 0, 1, 1, 1, 0] zO), .inBlock 2, .inBlock 1, .inLoop (sub [1, 1, 1, 0, 0, 0] zO), .inBlock 0, .code (sub [1, 1, 1, 1] zO)] ⟨[(2, .lp 2 0 0), (4, .lp 4 0 0), (5, .lp 5 0 0), (6, .av x6), (7, .av x7)], [(2, 0, b2), (4, 0, b4), (5, 0, b5)], hp⟩
noncomputable def B124_4 (x6 x7 : AV) (b2 b4 b5 : List AV) (hp : Hp) : Option (AV × Hp) := go cxX 124 [.code (sub [1, 1, 1, 0, 0, 0, 1, 0, 0, 1, 1, 1, 1] zO), .inBlock 2, .inBlock 1, .inLoop (sub [1, 1, 1, 0, 0, 0] zO), .inBlock 0, .code (sub [1, 1, 1, 1] zO)] ⟨[(2, .lp 2 0 0), (4, .lp 4 0 0), (5, .lp 5 0 0), (6, .av x6), (7, .av x7)], [(2, 0, b2), (4, 0, b4), (5, 0, b5)], hp⟩
theorem E124 (a0 a1 : AV) (hp : Hp) : run cxX 124 [a0, a1] hp = ((qh 2 a0).bind fun y0 => ((qh 2 a1).bind fun y1 => ((qc (List.map ro1 y0) 0).bind fun y2 => ((getC (List.map ro1 y0) 1).bind fun y3 => ((getC (List.map ro1 y1) 1).bind fun y4 => (B124_3 (ro1 y3) (ro1 y4) (List.map ro1 y0) [AV.sc (.int .i64 (.ofNat 0)), AV.sc (.slice none 0 0)] [AV.sc y2, AV.sc (.slice none 0 0)] hp)))))) :=
 (qf cxX 124 ss124 400 _ _).trans (by kernel_rfl)
theorem B124_3_eq (x6 x7 : AV) (b2 b4 b5 : List AV) (hp : Hp) : B124_3 x6 x7 b2 b4 b5 hp = ((getC b5 1).bind fun y5 => ((lenA (ro1 y5)).bind fun y6 => ((qc b2 0).bind fun y7 => ((binV Tryz.prog .lss 3 (.tmp 17) (.tmp 19) (.int .i64 (.ofNat y6)) y7).bind fun y8 => ((asB y8).bind fun y9 => (cond y9 ((lenA (ro x6)).bind fun y10 => ((lenA (ro x7)).bind fun y11 => ((binV Tryz.prog .add 3 (.tmp 23) (.tmp 25) (.int .i64 (.ofNat y10)) (.int .i64 (.ofNat y11))).bind fun y12 => ((binV Tryz.prog .gtr 3 (.tmp 26) (.const (.int .i64 (.ofNat 0))) y12 (.int .i64 (.ofNat 0))).bind fun y13 => ((asB y13).bind fun y14 => (cond y14 (B124_5 x6 x7 b2 b4 b5 hp) (B124_9 b4 b5 hp))))))) (B124_9 b4 b5 hp))))))) :=
 (qe cxX 124 ss124 400 _ _).trans (by kernel_rfl)
theorem yW (x6 x7 : AV) (b2 b4 b5 : List AV) (hp : Hp) : B124_5 x6 x7 b2 b4 b5 hp = ((lenA (ro x7)).bind fun y15 => ((binV Tryz.prog .eql 3 (.tmp 43) (.const (.int .i64 (.ofNat 0))) (.int .i64 (.ofNat y15)) (.int .i64 (.ofNat 0))).bind fun y16 => ((asB y16).bind fun y17 => (cond y17 (B124_6 x6 x7 b2 b4 b5 hp) ((lenA (ro x6)).bind fun y18 => ((binV Tryz.prog .gtr 3 (.tmp 47) (.const (.int .i64 (.ofNat 0))) (.int .i64 (.ofNat y18)) (.int .i64 (.ofNat 0))).bind fun y19 => ((asB y19).bind fun y20 => (cond y20 ((idxA 1 (ro x6) (.int .i64 (.ofNat 0))).bind fun y21 => ((qc y21 0).bind fun y22 => ((idxA 1 (ro x7) (.int .i64 (.ofNat 0))).bind fun y23 => ((qc y23 0).bind fun y24 => ((binV Tryz.prog .lss 76 (.tmp 52) (.tmp 55) y22 y24).bind fun y25 => ((asB y25).bind fun y26 => (cond y26 (B124_6 x6 x7 b2 b4 b5 hp) (B124_7 x6 x7 b2 b4 b5 hp)))))))) (B124_7 x6 x7 b2 b4 b5 hp))))))))) :=
 (qe cxX 124 ss124 400 _ _).trans (by kernel_rfl)
theorem B124_9_eq (b4 b5 : List AV) (hp : Hp) : B124_9 b4 b5 hp = ((getN b5 0 2).bind fun y27 => ((putN b5 0 (List.map ro1 y27)).bind fun y28 => ((qh 2 (AV.agg y27)).bind fun y29 => ((putN b4 0 y29).bind fun y30 => ((getN y30 0 2).bind fun y31 => (some (Prod.mk (AV.agg y31) hp))))))) :=
 (qe cxX 124 ss124 400 _ _).trans (by kernel_rfl)
theorem B124_6_eq (x6 x7 : AV) (b2 b4 b5 : List AV) (hp : Hp) : B124_6 x6 x7 b2 b4 b5 hp = ((getC b5 1).bind fun y32 => ((idxA 1 (ro x6) (.int .i64 (.ofNat 0))).bind fun y33 => ((qc y33 0).bind fun y34 => ((okV [AV.sc y34]).bind fun y35 => ((appA 8 1 y32 (AV.us 1 [AV.sc y34])).bind fun y36 => ((slcA 1 (ro x6) (some (.int .i64 (.ofNat 1))) none none).bind fun y37 => ((qh 1 y36).bind fun y38 => ((putN (List.set b5 1 (ro1 y32)) 1 y38).bind fun y39 => (B124_3 y37 x7 b2 b4 y39 hp))))))))) :=
 (qe cxX 124 ss124 400 _ _).trans (by kernel_rfl)
theorem B124_7_eq (x6 x7 : AV) (b2 b4 b5 : List AV) (hp : Hp) : B124_7 x6 x7 b2 b4 b5 hp = ((lenA (ro x6)).bind fun y40 => ((binV Tryz.prog .eql 3 (.tmp 71) (.const (.int .i64 (.ofNat 0))) (.int .i64 (.ofNat y40)) (.int .i64 (.ofNat 0))).bind fun y41 => ((asB y41).bind fun y42 => (cond y42 (B124_8 x6 x7 b2 b4 b5 hp) ((idxA 1 (ro x7) (.int .i64 (.ofNat 0))).bind fun y43 => ((qc y43 0).bind fun y44 => ((idxA 1 (ro x6) (.int .i64 (.ofNat 0))).bind fun y45 => ((qc y45 0).bind fun y46 => ((binV Tryz.prog .lss 76 (.tmp 76) (.tmp 79) y44 y46).bind fun y47 => ((asB y47).bind fun y48 => (cond y48 (B124_8 x6 x7 b2 b4 b5 hp) (B124_4 x6 x7 b2 b4 b5 hp)))))))))))) :=
 (qe cxX 124 ss124 400 _ _).trans (by kernel_rfl)
theorem B124_8_eq (x6 x7 : AV) (b2 b4 b5 : List AV) (hp : Hp) : B124_8 x6 x7 b2 b4 b5 hp = ((getC b5 1).bind fun y49 => ((idxA 1 (ro x7) (.int .i64 (.ofNat 0))).bind fun y50 => ((qc y50 0).bind fun y51 => ((okV [AV.sc y51]).bind fun y52 => ((appA 8 1 y49 (AV.us 1 [AV.sc y51])).bind fun y53 => ((slcA 1 (ro x7) (some (.int .i64 (.ofNat 1))) none none).bind fun y54 => ((qh 1 y53).bind fun y55 => ((putN (List.set b5 1 (ro1 y49)) 1 y55).bind fun y56 => (B124_3 x6 y54 b2 b4 y56 hp))))))))) :=
 (qe cxX 124 ss124 400 _ _).trans (by kernel_rfl)
theorem B124_4_eq (x6 x7 : AV) (b2 b4 b5 : List AV) (hp : Hp) : B124_4 x6 x7 b2 b4 b5 hp = ((getC b5 1).bind fun y57 => ((idxA 1 (ro x6) (.int .i64 (.ofNat 0))).bind fun y58 => ((qc y58 0).bind fun y59 => ((okV [AV.sc y59]).bind fun y60 => ((appA 8 1 y57 (AV.us 1 [AV.sc y59])).bind fun y61 => ((slcA 1 (ro x6) (some (.int .i64 (.ofNat 1))) none none).bind fun y62 => ((slcA 1 (ro x7) (some (.int .i64 (.ofNat 1))) none none).bind fun y63 => ((qh 1 y61).bind fun y64 => ((putN (List.set b5 1 (ro1 y57)) 1 y64).bind fun y65 => (B124_3 y62 y63 b2 b4 y65 hp)))))))))) :=
 (qe cxX 124 ss124 400 _ _).trans (by kernel_rfl)
noncomputable def B27_3 (v2 : Value) (x15 : AV) (v16 v17 : Value) (b6 b7 : List AV) (hp : Hp) : Option (AV × Hp) := go cxX 27 [.code (sub [1, 1, 0, 1, 0, 0, 0] cd27), .code (sub [1, 1, 0, 1, 0, 0, 1] cd27), .inLoop (sub [1, 1, 0, 1, 0, 0] cd27), .inBlock 0, .code (sub [1, 1, 1] cd27)] ⟨[(2, .sv v2), (6, .lp 6 0 0), (7, .lp 7 0 0), (15, .av x15), (16, .sv v16), (17, .sv v17)], [(6, 0, b6), (7, 0, b7)], hp⟩
noncomputable def B27_7 (v2 v9 : Value) (x15 : AV) (v16 v17 : Value) (b6 b7 : List AV) (hp : Hp) : Option (AV × Hp) := go cxX 27 [.code (sub [1, 1, 0, 1, 0, 0, 1, 1, 0, 0, 1, 1] cd27), .inBlock 1, .code (sub [1, 1, 0, 1, 0, 0, 1, 1, 1] cd27), .inLoop (sub [1, 1, 0, 1, 0, 0] cd27), .inBlock 0, .code (sub [1, 1, 1] cd27)] ⟨[(2, .sv v2), (6, .lp 6 0 0), (7, .lp 7 0 0), (9, .sv v9), (15, .av x15), (16, .sv v16), (17, .sv v17)], [(6, 0, b6), (7, 0, b7)], hp⟩
theorem E27 (a0 a1 a2 : AV) (hp : Hp) : run cxX 27 [a0, a1, a2] hp = ((asSc a0).bind fun y0 => ((asSc a2).bind fun y1 => ((binV Tryz.prog .rem 5 (.tmp 10) (.const (.int .u8 (.ofNat 20))) y0 (.int .u8 (.ofNat 20))).bind fun y2 => ((cvV Tryz.prog 5 3 y2).bind fun y3 => ((binV Tryz.prog .add 3 (.const (.int .i64 (.ofNat 1))) (.tmp 12) (.int .i64 (.ofNat 1)) y3).bind fun y4 => ((lenA (ro a1)).bind fun y5 => (B27_3 y1 (ro a1) (.int .i64 (.ofNat y5)) (.int .i64 (.ofNat 0)) [AV.sc (.int .i64 (.ofNat 0)), AV.sc (.slice none 0 0)] [AV.sc y4, AV.sc (.slice none 0 0)] hp))))))) :=
 (qf cxX 27 ss27 400 _ _).trans (by kernel_rfl)
theorem B27_3_eq (v2 : Value) (x15 : AV) (v16 v17 : Value) (b6 b7 : List AV) (hp : Hp) : B27_3 v2 x15 v16 v17 b6 b7 hp = ((binV Tryz.prog .lss 3 (.tmp 17) (.tmp 16) v17 v16).bind fun y6 => ((asB y6).bind fun y7 => (cond y7 ((idxA 1 x15 v17).bind fun y8 => ((qc y8 0).bind fun y9 => ((asB v2).bind fun y10 => (cond y10 ((binV Tryz.prog .rem 76 (.tmp 22) (.const (.int .u64 (.ofNat 30))) y9 (.int .u64 (.ofNat 30))).bind fun y11 => (B27_7 v2 y11 x15 v16 v17 b6 b7 hp)) (B27_7 v2 y9 x15 v16 v17 b6 b7 hp))))) ((getN b7 0 2).bind fun y12 => ((putN b7 0 (List.map ro1 y12)).bind fun y13 => ((qh 2 (AV.agg y12)).bind fun y14 => ((putN b6 0 y14).bind fun y15 => ((getN y15 0 2).bind fun y16 => (some (Prod.mk (AV.agg y16) hp)))))))))) :=
 (qe cxX 27 ss27 400 _ _).trans (by kernel_rfl)
theorem B27_7_eq (v2 v9 : Value) (x15 : AV) (v16 v17 : Value) (b6 b7 : List AV) (hp : Hp) : B27_7 v2 v9 x15 v16 v17 b6 b7 hp = ((getN b7 0 2).bind fun y17 => ((qi [AV.agg (List.map ro1 y17), AV.sc v9] []).bind fun y18 => ((run cxX 69 [ro (AV.agg (List.map ro1 y17)), AV.sc v9] hp0).bind fun y19 => ((qm (y19).1).bind fun y20 => ((qM (y19).1).bind fun y21 => ((qh 2 (y19).1).bind fun y22 => ((putN b7 0 y22).bind fun y23 => ((binV Tryz.prog .add 3 (.tmp 17) (.const (.int .i64 (.ofNat 1))) v17 (.int .i64 (.ofNat 1))).bind fun y24 => (B27_3 v2 x15 v16 y24 b6 y23 hp))))))))) :=
 (qe cxX 27 ss27 400 _ _).trans (by kernel_rfl)
abbrev Kv (K : Int) (x : AV) : AV := .agg [.sc (.int .i64 K), x]
theorem kmerge_loop (K : Int) (q0 q1 p1 : AV) (hp : Hp) : ∀ (n : Nat) (a b acc : List Int) (k k' : Nat), a.length + b.length = n → acc.length + n ≤ 1000000 →
  B124_3 (S k 1 (LI .u64 a)) (S k' 1 (LI .u64 b)) [.sc (.int .i64 K), p1] [q0, q1] [.sc (.int .i64 K), S 2 1 (LI .u64 acc)] hp = some (Kv K (S 2 1 (LI .u64 (acc ++ (mrg a b).take (K.toNat - acc.length)))), hp) := by
 intro n
 induction n using Nat.strongRecOn with
 | _ n ih =>
 intro a b acc k k' hn hlen
 have ap : ∀ x : Int, appA 8 1 (S 2 1 (LI .u64 acc)) (S 1 1 [.sc (.int .u64 x)]) = some (S 2 1 (LI .u64 (acc ++ [x]))) := fun x => appI .u64 acc 2 (.inr rfl) 8 (by decide) x (by omega)
 have fin : B124_9 [q0, q1] [.sc (.int .i64 K), S 2 1 (LI .u64 acc)] hp = some (Kv K (S 2 1 (LI .u64 acc)), hp) := by
  rw [B124_9_eq]
  simp [getN, putN]
 rw [B124_3_eq]
 by_cases hK : (acc.length : Int) < K
 ·have hs : K.toNat - acc.length = (K.toNat - (acc.length + 1)) + 1 := by omega
  have goA : ∀ (x : Int) (r : List Int), r.length + 1 + b.length ≤ n → B124_6 (S k 1 (LI .u64 (x :: r))) (S k' 1 (LI .u64 b)) [.sc (.int .i64 K), p1] [q0, q1] [.sc (.int .i64 K), S 2 1 (LI .u64 acc)] hp = some (Kv K (S 2 1 (LI .u64 (acc ++ (x :: mrg r b).take (K.toNat - acc.length)))), hp) := by
   intro x r hle
   rw [B124_6_eq]
   have e := yM (rk k) (LI .u64 (x :: r)) .i64 1 (by omega) (by simp only [lenI, List.length_cons]; omega)
   have i := fun k => ih (r.length + b.length) (by omega) r b (acc ++ [x]) k k' rfl (by simp only [List.length_append, List.length_cons, List.length_nil]; omega)
   simp at i
   rw [hs, List.take_succ_cons]
   simp [getC, qc, ap, e, putN, i]
  have goB : ∀ (y : Int) (r : List Int), a.length + (r.length + 1) ≤ n → B124_8 (S k 1 (LI .u64 a)) (S k' 1 (LI .u64 (y :: r))) [.sc (.int .i64 K), p1] [q0, q1] [.sc (.int .i64 K), S 2 1 (LI .u64 acc)] hp = some (Kv K (S 2 1 (LI .u64 (acc ++ (y :: mrg a r).take (K.toNat - acc.length)))), hp) := by
   intro x r hle
   rw [B124_8_eq]
   have e := yM (rk k') (LI .u64 (x :: r)) .i64 1 (by omega) (by simp only [lenI, List.length_cons]; omega)
   have i := fun k' => ih (a.length + r.length) (by omega) a r (acc ++ [x]) k k' rfl (by simp only [List.length_append, List.length_cons, List.length_nil]; omega)
   simp at i
   rw [hs, List.take_succ_cons]
   simp [getC, qc, ap, e, putN, i]
  have goC : ∀ (x y : Int) (r s : List Int), r.length + s.length + 2 ≤ n → B124_4 (S k 1 (LI .u64 (x :: r))) (S k' 1 (LI .u64 (y :: s))) [.sc (.int .i64 K), p1] [q0, q1] [.sc (.int .i64 K), S 2 1 (LI .u64 acc)] hp = some (Kv K (S 2 1 (LI .u64 (acc ++ (x :: mrg r s).take (K.toNat - acc.length)))), hp) := by
   intro x y r s hle
   rw [B124_4_eq]
   have e := yM (rk k) (LI .u64 (x :: r)) .i64 1 (by omega) (by simp only [lenI, List.length_cons]; omega)
   have e' := yM (rk k') (LI .u64 (y :: s)) .i64 1 (by omega) (by simp only [lenI, List.length_cons]; omega)
   have i := fun k k' => ih (r.length + s.length) (by omega) r s (acc ++ [x]) k k' rfl (by simp only [List.length_append, List.length_cons, List.length_nil]; omega)
   simp at i
   rw [hs, List.take_succ_cons]
   simp [getC, qc, ap, e, e', putN, i]
  match a, b with
  | [], [] => simp [getC, qc, hK, fin]
  | [], y :: s =>
   have h := goB y s (by simp at hn ⊢; omega)
   simp at h
   have hw' : IntKind.i64.wrap ((s.length : Int) + 1) = (s.length : Int) + 1 := qg (by omega) (by simp at hn; omega)
   have p : (0 : Int) < (s.length : Int) + 1 := by omega
   have z : ¬((s.length : Int) + 1 = 0) := by omega
   simp [getC, qc, hK, hw', p, z, yW, B124_7_eq, h]
  | x :: r, [] =>
   have h := goA x r (by simp at hn ⊢; omega)
   simp at h
   have hw' : IntKind.i64.wrap ((r.length : Int) + 1) = (r.length : Int) + 1 := qg (by omega) (by simp at hn; omega)
   have p : (0 : Int) < (r.length : Int) + 1 := by omega
   simp [getC, qc, hK, hw', p, yW, h]
  | x :: r, y :: s =>
   have h1 := goA x r (by simp at hn ⊢; omega)
   have h2 := goB y s (by simp at hn ⊢; omega)
   have h3 := goC x y r s (by simp at hn ⊢; omega)
   have hw' : IntKind.i64.wrap ((r.length : Int) + 1 + ((s.length : Int) + 1)) = (r.length : Int) + 1 + ((s.length : Int) + 1) := qg (by omega) (by simp at hn; omega)
   have p : (0 : Int) < (r.length : Int) + 1 + ((s.length : Int) + 1) := by omega
   have p' : (0 : Int) < (r.length : Int) + 1 := by omega
   have z : ¬((s.length : Int) + 1 = 0) := by omega
   have z' : ¬((r.length : Int) + 1 = 0) := by omega
   rw [qV]
   by_cases hxy : x < y
   ·simp [getC, qc, hK, hw', p, p', z, z', hxy, h1, yW]
   ·by_cases hyx : y < x
    ·simp [getC, qc, hK, hw', p, p', z, z', hxy, hyx, h2, yW, B124_7_eq]
    ·simp [getC, qc, hK, hw', p, p', z, z', hxy, hyx, h3, yW, B124_7_eq]
 ·have hs : K.toNat - acc.length = 0 := by omega
  simp [getC, qc, hK, fin, hs]
theorem run_kmerge (K : Int) (B' : AV) (a b : List Int) (k k' : Nat) (hp : Hp) (hlen : a.length + b.length ≤ 1000000) :
  run cxX 124 [Kv K (S k 1 (LI .u64 a)), .agg [B', S k' 1 (LI .u64 b)]] hp = some (Kv K (S 2 1 (LI .u64 ((mrg a b).take K.toNat))), hp) := by
 rw [E124]
 have := kmerge_loop K (.sc (.int .i64 0)) (S 2 1 []) (S (rk k) 1 (LI .u64 a)) hp (a.length + b.length) a b [] (rk k) (rk k') rfl (by simpa using hlen)
 simp at this
 simp [qc, getC]
 exact this
theorem run_kadd (K : Int) (a : List Int) (n : Int) (k : Nat) (hp : Hp) (hlen : a.length + 1 ≤ 1000000) :
  run cxX 69 [Kv K (S k 1 (LI .u64 a)), .sc (.int .u64 n)] hp = some (Kv K (S 2 1 (LI .u64 ((mrg a [n]).take K.toNat))), hp) := by
 rw [E69]
 have m := fun k k' hp => run_kmerge K (.sc (.int .i64 K)) a [n] k k' hp (by simpa using hlen)
 simp [LI] at m
 simp [qc, getN, putN, LI, m]
theorem ksame_loop (B B' : AV) (a b : List Int) (k k' : Nat) (hab : a.length = b.length) (hl : a.length ≤ 1000000) (hp : Hp) : ∀ (r s : List Int) (i : Nat), a.drop i = r → b.drop i = s →
  B117_4 (.int .i64 a.length) (.int .i64 i) [B, S k 1 (LI .u64 a)] [B', S k' 1 (LI .u64 b)] hp = some (.sc (.bool (decide (r = s))), hp) := by
 intro r
 induction r with
 | nil =>
  intro s i hr hs
  have h1 := qw hr
  have h2 : s = [] := by rw [← hs]; exact List.drop_eq_nil_of_le (by omega)
  have hlt : ¬((i : Int) < (a.length : Int)) := by omega
  rw [B117_4_eq]
  simp [hlt, h2]
 | cons x r ih =>
  intro s i hr hs
  obtain ⟨e1, e2, hi, e3⟩ := qr hr
  rw [B117_4_eq]
  have hw : IntKind.i64.wrap ((i : Int) + 1) = ((i + 1 : Nat) : Int) := by rw [qg] <;> omega
  cases s with
  | nil => have := qw hs; omega
  | cons y s =>
   obtain ⟨f1, f2, hj, f3⟩ := qr hs
   have h := ih s (i + 1) e2 f2
   simp at h hw
   by_cases e : x = y
   ·simp [hi, hj, getC, qc, e3, f3, e, hw, h]
   ·simp [hi, hj, getC, qc, e3, f3, e]
theorem run_ksame (B B' : Int) (a b : List Int) (k k' : Nat) (hp : Hp) (ha : a.length ≤ 1000000) (hb : b.length ≤ 1000000) :
  run cxX 117 [Kv B (S k 1 (LI .u64 a)), Kv B' (S k' 1 (LI .u64 b))] hp = some (.sc (.bool (decide (B = B' ∧ a = b))), hp) := by
 rw [E117]
 by_cases h1 : B = B'
 ·by_cases h3 : a.length = b.length
  ·have h := ksame_loop (.sc (.int .i64 B)) (.sc (.int .i64 B')) a b (rk k) (rk k') h3 ha hp a b 0 rfl rfl
   simp at h
   subst h1
   rw [h3] at h
   simp [qc, getC, h3, B117_3_eq, h]
  ·have h4 : ¬(a = b) := fun e => h3 (by rw [e])
   have h5 : ¬((a.length : Int) = (b.length : Int)) := by omega
   simp [qc, getC, h1, h4, h5, B117_2_eq]
 ·simp [qc, getC, h1, B117_2_eq]
def cut (few : Bool) (n : Int) : Int := if few then n % 30 else n
theorem kmv_loop (K : Int) (few : Bool) (q0 q1 : AV) (k : Nat) (l : List Int) (hK : K ≤ 1000) (hl : l.length ≤ 1000) (hpos : ∀ n ∈ l, 0 ≤ n) (hp : Hp) : ∀ (r : List Int) (i : Nat) (acc : List Int) (k' : Nat), l.drop i = r → acc.length ≤ 1000 →
  B27_3 (.bool few) (S k 1 (LI .u64 l)) (.int .i64 l.length) (.int .i64 i) [q0, q1] [.sc (.int .i64 K), S 2 1 (LI .u64 acc)] hp = some (Kv K (S 2 1 (LI .u64 (kmvs K.toNat acc (r.map (cut few))))), hp) := by
 intro r
 induction r with
 | nil =>
  intro i acc k' hr ha
  have := qw hr
  have hlt : ¬((i : Int) < (l.length : Int)) := by omega
  rw [B27_3_eq]
  simp [hlt, getN, putN, kmvs]
 | cons x r ih =>
  intro i acc k' hr ha
  obtain ⟨e1, e2, hi, e3⟩ := qr hr
  have hx := hpos x (List.mem_of_getElem? e1)
  have hw : IntKind.i64.wrap ((i : Int) + 1) = ((i + 1 : Nat) : Int) := by rw [qg] <;> omega
  have h := ih (i + 1) ((mrg acc [cut few x]).take K.toNat) k' e2 (by rw [List.length_take]; omega)
  have d := fun hp => run_kadd K acc (cut few x) 3 hp (by omega)
  have e7 : B27_7 (.bool few) (.int .u64 (cut few x)) (S k 1 (LI .u64 l)) (.int .i64 l.length) (.int .i64 i) [q0, q1] [.sc (.int .i64 K), S 2 1 (LI .u64 acc)] hp = some (Kv K (S 2 1 (LI .u64 (kmvs K.toNat acc ((x :: r).map (cut few))))), hp) := by
   rw [B27_7_eq]
   simp at h hw
   simp [getN, putN, d, hw, h, kmvs]
  rw [B27_3_eq]
  have hm : ∀ a b, binV Tryz.prog .rem 76 a b (.int .u64 x) (.int .u64 30) = some (.int .u64 (x % 30)) := by
   intro a b; rw [qI _ _ _ _ _ _ _ (by omega), qG hx]
  cases few with
  | true =>
   simp [cut] at e7
   simp [hi, e3, qc, hm, e7, cut]
  | false =>
   simp [cut] at e7
   simp [hi, e3, qc, e7, cut]
theorem run_kmv (c : Int) (few : Bool) (l : List Int) (k : Nat) (hc : 0 ≤ c ∧ c < 256) (hl : l.length ≤ 1000) (hpos : ∀ n ∈ l, 0 ≤ n) (hp : Hp) :
  run cxX 27 [.sc (.int .u8 c), S k 1 (LI .u64 l), .sc (.bool few)] hp = some (Kv (1 + c % 20) (S 2 1 (LI .u64 (kmvs (1 + c % 20).toNat [] (l.map (cut few))))), hp) := by
 rw [E27]
 have h1 : ∀ x y, binV Tryz.prog .rem 5 x y (.int .u8 c) (.int .u8 20) = some (.int .u8 (c % 20)) := by
  intro x y; rw [qI _ _ _ _ _ _ _ (by omega), qG hc.1]
 have w1 : IntKind.i64.wrap (c % 20) = c % 20 := qg (by omega) (by omega)
 have w2 : IntKind.i64.wrap (1 + c % 20) = 1 + c % 20 := qg (by omega) (by omega)
 have hq := kmv_loop (1 + c % 20) few (.sc (.int .i64 0)) (S 2 1 []) (rk k) l (by omega) hl hpos hp l 0 [] 2 rfl (by simp)
 simp at hq
 simp [h1, cv_5_3, w1, w2, hq]
@[simp] theorem ro_fn (f : FuncId) (c : List AV) : ro (.fn f c) = .fn f c := rfl
def ordL : List Int → Int
 | [] => 0
 | [_] => 0
 | x :: y :: r => if y ≤ x then 8 else ordL (y :: r)
def kchk (K : Int) (l : List Int) : Int := if K < 1 ∨ 1024 < K then 2 else if K < (l.length : Int) then 7 else ordL l
theorem rice_loop (l : List Int) (k : Nat) (hl : l.length ≤ 4096) (hp : Hp) : ∀ (r : List Int) (x : Int) (j : Nat), l.drop j = x :: r →
  B82_4 (S k 1 (LI .u64 l)) (.int .i64 ((j + 1 : Nat) : Int)) hp = some (.sc (.int .i64 (ordL (x :: r))), hp) := by
 intro r
 induction r with
 | nil =>
  intro x j hr
  obtain ⟨e1, e2, hi, e3⟩ := qr hr
  have := qw e2
  have hlt : ¬((j : Int) + 1 < (l.length : Int)) := by omega
  rw [B82_4_eq]
  simp [hlt, ordL]
 | cons y r ih =>
  intro x j hr
  obtain ⟨e1, e2, hi, e3⟩ := qr hr
  obtain ⟨f1, f2, hj, f3⟩ := qr e2
  have hlt : (j : Int) + 1 < (l.length : Int) := by omega
  have hw : IntKind.i64.wrap ((j : Int) + 1 + 1) = (j : Int) + 1 + 1 := qg (by omega) (by omega)
  have hw2 : IntKind.i64.wrap ((j : Int) + 1 - 1) = (j : Int) := by rw [qg] <;> omega
  have hge : (0 : Int) ≤ (j : Int) + 1 := by omega
  have htn : ((j : Int) + 1).toNat = j + 1 := by omega
  have g := ih y (j + 1) e2
  rw [B82_4_eq]
  simp at g hw2
  by_cases hq : y ≤ x
  ·simp [hlt, hge, htn, qc, f1, e1, hw2, hq, ordL]
  ·simp [hlt, hge, htn, qc, f1, e1, hw2, hq, ordL, hw, g]
theorem run_rice (l : List Int) (k : Nat) (hl : l.length ≤ 4096) (hp : Hp) : run cxX 82 [S k 1 (LI .u64 l)] hp = some (.sc (.int .i64 (ordL l)), hp) := by
 rw [E82]
 have h1 : ¬((4096 : Int) < (l.length : Int)) := by omega
 cases l with
 | nil =>
  rw [B82_4_eq]
  simp [ordL]
 | cons x r =>
  have g := rice_loop (x :: r) k hl hp r x 0 rfl
  have h1 : ¬((4096 : Int) < (r.length : Int) + 1) := by simp at hl; omega
  simp at g
  simp [h1, g]
theorem run_kcheck (K : Int) (l : List Int) (k : Nat) (hl : l.length ≤ 1000000) (hp : Hp) : run cxX 63 [Kv K (S k 1 (LI .u64 l))] hp = some (.sc (.int .i64 (kchk K l)), hp) := by
 rw [E63]
 unfold kchk
 by_cases h1 : K < 1
 ·simp [qc, h1, B63_2_eq]
 ·by_cases h2 : 1024 < K
  ·simp [qc, h1, h2, B63_2_eq]
  ·by_cases h3 : K < (l.length : Int)
   ·simp [qc, getC, h1, h2, h3, B63_3_eq]
   ·simp [qc, getC, h1, h2, h3, B63_3_eq, run_rice l _ (show l.length ≤ 4096 by omega)]
end Go.Proofs.YtchmioacjkbfcaaGreat.AI
