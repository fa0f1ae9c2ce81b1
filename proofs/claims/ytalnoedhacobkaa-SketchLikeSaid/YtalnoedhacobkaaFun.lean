/- Slices as functions of a tag and of their cells: so that 'simp' reckons with them. -/
import Derived.Test.YtalnoedhacobkaaPure
namespace Go.Proofs.Ytalnoedhacobkaa.AI
open Go
set_option linter.unusedVariables false
set_option linter.unusedSimpArgs false

/-- A slice: 0 read alone, 1 owned, 2 nil or owned, 3 nil or read alone. -/
def S (k sz : Nat) (cs : List AV) : AV :=
  match k with
  | 0 => .sl sz cs
  | 1 => .us sz cs
  | 2 => match cs with
    | [] => .sc nil0
    | _ => .us sz cs
  | _ => match cs with
    | [] => .sc nil0
    | _ => .sl sz cs
/-- The tag of what is read. -/
def rk : Nat → Nat
  | 0 => 0
  | 1 => 0
  | _ => 3
/-- The tag behind a cut. -/
def tg (k : Nat) (cs : List AV) : Nat :=
  match cs with
  | [] => rk k
  | _ => 0
@[simp] theorem rk_rk (k : Nat) : rk (rk k) = rk k := by
  match k with
  | 0 => rfl
  | 1 => rfl
  | n + 2 => rfl
@[simp] theorem rk0 : rk 0 = 0 := rfl
@[simp] theorem rk1 : rk 1 = 0 := rfl
@[simp] theorem rk2 : rk 2 = 3 := rfl
@[simp] theorem rk3 : rk 3 = 3 := rfl
section
variable (k sz : Nat) (cs : List AV)
theorem S_cases : S k sz cs = .sl sz cs ∨ S k sz cs = .us sz cs ∨ (S k sz cs = .sc nil0 ∧ cs = []) := by
  unfold S
  match k, cs with
  | 0, _ => exact .inl rfl
  | 1, _ => exact .inr (.inl rfl)
  | 2, [] => exact .inr (.inr ⟨rfl, rfl⟩)
  | 2, _ :: _ => exact .inr (.inl rfl)
  | n + 3, [] => exact .inr (.inr ⟨rfl, rfl⟩)
  | n + 3, _ :: _ => exact .inl rfl
@[simp] theorem ro1_S : ro1 (S k sz cs) = S (rk k) sz cs := by
  match k, cs with
  | 0, _ => rfl
  | 1, _ => rfl
  | 2, [] => rfl
  | 2, _ :: _ => rfl
  | n + 3, [] => rfl
  | n + 3, _ :: _ => rfl
@[simp] theorem ro_S : ro (S k sz cs) = S (rk k) sz cs := by
  match k, cs with
  | 0, _ => rfl
  | 1, _ => rfl
  | 2, [] => rfl
  | 2, _ :: _ => rfl
  | n + 3, [] => rfl
  | n + 3, _ :: _ => rfl
theorem rd_S : Rd sz (S k sz cs) cs := S_cases k sz cs
@[simp] theorem lenA_S : lenA (S k 1 cs) = some cs.length := (rd_S k 1 cs).len
@[simp] theorem idxA_S (K : IntKind) (z : Int) : idxA 1 (S k 1 cs) (.int K z) = if 0 ≤ z then (cs[z.toNat]?).map fun c => [c] else none := by
  by_cases hz : 0 ≤ z
  · rw [if_pos hz]
    cases h : cs[z.toNat]? with
    | some y => exact (rd_S k 1 cs).idx (by omega) h
    | none =>
      have hl : cs.length ≤ z.toNat := by simpa using h
      have hn : ¬(z < (cs.length : Int)) := by omega
      rcases S_cases k 1 cs with e | e | ⟨e, e'⟩
      · rw [e]; simp [idxA, idx, asI, hn]
      · rw [e]; simp [idxA, idx, asI, hn]
      · rw [e]; rfl
  · rw [if_neg hz]
    rcases S_cases k 1 cs with e | e | ⟨e, e'⟩
    · rw [e]; simp [idxA, idx, asI, hz]
    · rw [e]; simp [idxA, idx, asI, hz]
    · rw [e]; rfl
@[simp] theorem cellsN_S : cellsN 1 (S k sz cs) = some [S k sz cs] := by
  rcases S_cases k sz cs with e | e | ⟨e, e'⟩ <;> rw [e] <;> rfl
@[simp] theorem noTup_S : noTup (S k sz cs) = some () := by
  rcases S_cases k sz cs with e | e | ⟨e, e'⟩ <;> rw [e] <;> rfl
@[simp] theorem srcA_S : srcA sz (S k sz cs) = some cs := by
  rcases S_cases k sz cs with e | e | ⟨e, e'⟩
  · rw [e]; simp [srcA]
  · rw [e]; simp [srcA]
  · rw [e, e']; rfl
@[simp] theorem us_S : AV.us sz cs = S 1 sz cs := rfl
@[simp] theorem sl_S : AV.sl sz cs = S 0 sz cs := rfl
end
theorem nil_S (sz : Nat) : AV.sc nil0 = S 2 sz [] := rfl
@[simp] theorem nil_S1 : AV.sc (Value.slice none 0 0) = S 2 1 [] := rfl
@[simp] theorem S3_nil (sz : Nat) : S 3 sz [] = S 2 sz [] := rfl
theorem slcA_S (k : Nat) (cs : List AV) (K : IntKind) (z : Int) (h : 0 ≤ z) (h' : z ≤ cs.length) : slcA 1 (S k 1 cs) (some (.int K z)) none none = some (S (tg k cs) 1 (cs.drop z.toNat)) := by
  obtain ⟨i, rfl⟩ : ∃ i : Nat, z = i := ⟨z.toNat, by omega⟩
  have hi : i ≤ cs.length := by omega
  have hb : ∀ n : Nat, i ≤ n → bound 0 (n : Int) (some (.int K (i : Int))) 0 = some i := by
    intro n hn
    have : (0 : Int) ≤ (i : Int) ∧ (i : Int) ≤ (n : Int) := ⟨Int.natCast_nonneg i, by omega⟩
    simp only [bound, asI, Option.bind_some, this, and_self, if_true, Int.toNat_natCast]
  have key : (cs.drop (i * 1)).take ((cs.length - i) * 1) = cs.drop i := by
    rw [Nat.mul_one, Nat.mul_one]
    exact List.take_of_length_le (by simp)
  have this := hb cs.length hi
  simp only [bound] at this
  have a : slcA 1 (.sl 1 cs) (some (.int K i)) none none = some (.sl 1 (cs.drop i)) := by
    simp only [slcA, if_true]
    show (bound 0 _ none _).bind _ = _
    simp only [bound, Option.bind_some]
    rw [this]
    simp only [Option.bind_some, key]
  have b : slcA 1 (.us 1 cs) (some (.int K i)) none none = some (.sl 1 (cs.drop i)) := by
    simp only [slcA, if_true]
    show (bound 0 _ none _).bind _ = _
    simp only [bound, Option.bind_some]
    rw [this]
    simp only [Option.bind_some, key]
  rw [Int.toNat_natCast]
  match k, cs with
  | 0, [] => exact a
  | 0, _ :: _ => exact a
  | 1, [] => exact b
  | 1, _ :: _ => exact b
  | 2, [] => obtain rfl : i = 0 := by simpa using hi
             rfl
  | 2, _ :: _ => exact b
  | n + 3, [] => obtain rfl : i = 0 := by simpa using hi
                 rfl
  | n + 3, _ :: _ => exact a
/-- What an append makes. -/
theorem appA_S (b sz k : Nat) (cs ys : List AV) (k' : Nat) (hk : k = 1 ∨ k = 2) (hf : Flat ys) (hfit : ys = [] ∨ fits b sz (cs.length + ys.length) = true) :
    appA b sz (S k sz cs) (S k' sz ys) = some (S k sz (cs ++ ys)) := by
  unfold appA
  rw [srcA_S]
  simp only [Option.bind_some]
  have hf' : ys.map ro1 = ys := hf
  match ys, hf', hfit with
  | [], _, _ =>
    rw [List.append_nil]
    rcases hk with rfl | rfl
    · show (if sz = sz then some (AV.us sz cs) else none) = _
      rw [if_pos rfl]; rfl
    · cases cs with
      | nil => rfl
      | cons c cs => exact if_pos rfl
  | y :: ys, hf', hfit =>
    have hfit : fits b sz (cs.length + (y :: ys).length) = true := hfit.resolve_left (by simp)
    rcases hk with rfl | rfl
    · simp only [S, hf', hfit, Bool.and_true, decide_true, if_true]
    · cases cs with
      | nil =>
        have h0 : fits b sz (y :: ys).length = true := by simpa using hfit
        simp only [S, hf', h0, isNil, nil0, Bool.and_true, if_true, List.nil_append]
      | cons c cs => simp only [S, hf', hfit, Bool.and_true, decide_true, if_true, List.cons_append]
theorem fits_ok {b sz n : Nat} (hb : 0 < b) (h : n * b ≤ 140737488355328 * sz) : fits b sz n = true := by
  simp [fits, h, hb]
@[simp] theorem flat_one (v : Value) : Flat [.sc v] := rfl
theorem flat_map {α : Type} (f : α → Value) (l : List α) : Flat (l.map fun x => .sc (f x)) := by
  unfold Flat; rw [List.map_map]; rfl
@[simp] theorem ro1_sc (v : Value) : ro1 (.sc v) = .sc v := rfl
@[simp] theorem ro_sc (v : Value) : ro (.sc v) = .sc v := rfl
@[simp] theorem ro_agg (l : List AV) : ro (.agg l) = .agg (l.map ro1) := rfl
@[simp] theorem noTup_sc (v : Value) : noTup (.sc v) = some () := rfl
@[simp] theorem noTup_agg (l : List AV) : noTup (.agg l) = some () := rfl
@[simp] theorem vl_S (k sz : Nat) (cs : List AV) : vl (S k sz cs) = true := by
  rcases S_cases k sz cs with e | e | ⟨e, e'⟩ <;> rw [e] <;> rfl
@[simp] theorem vlF_S (k sz : Nat) (cs : List AV) : vlF (S k sz cs) = true := by
  rcases S_cases k sz cs with e | e | ⟨e, e'⟩ <;> rw [e] <;> rfl
@[simp] theorem vlV_S (k sz : Nat) (cs : List AV) : vlV (S k sz cs) = true := by
  rcases S_cases k sz cs with e | e | ⟨e, e'⟩ <;> rw [e] <;> rfl
@[simp] theorem vl_sc (v : Value) : vl (.sc v) = true := rfl
@[simp] theorem vlF_sc (v : Value) : vlF (.sc v) = true := rfl
@[simp] theorem vlV_sc (v : Value) : vlV (.sc v) = true := rfl
@[simp] theorem vlF_agg (l : List AV) : vlF (.agg l) = l.all vl := rfl
@[simp] theorem vlV_agg (l : List AV) : vlV (.agg l) = l.all vl := rfl
@[simp] theorem vlV_tup (l : List AV) : vlV (.tup l) = l.all vlF := rfl
@[simp] theorem vl_fn (f : FuncId) : vl (.fn f []) = true := rfl
@[simp] theorem vlF_fn (f : FuncId) : vlF (.fn f []) = true := rfl
@[simp] theorem okArgs_eq (xs caps : List AV) : okArgs xs caps = chk (xs.all vlF = true ∧ caps.all vl = true) := rfl
@[simp] theorem chkN_eq (a b : Nat) : chkN a b = chk (a = b) := rfl
@[simp] theorem chkB_eq (b : Bool) : chkB b = chk (b = true) := rfl
@[simp] theorem okV_eq (cs : List AV) : okV cs = chk (cs.all vl = true) := rfl
@[simp] theorem tN_eq (n : Int) : tN n = n.toNat := rfl
theorem okMake_ok {b z : Nat} {n : Int} (h0 : 0 ≤ n) (hf : n.toNat * b ≤ 140737488355328) (hb : 0 < b) (hz : 0 < z) : okMake b z n n = some () :=
  if_pos ⟨rfl, h0, by simp [fits]; omega, hz⟩
@[simp] theorem okRes_eq (y : AV) : okRes y = chk (vlV y = true) := rfl
theorem chk_ok {p : Prop} [Decidable p] (h : p) : chk p = some () := if_pos h
@[simp] theorem chk_true : chk True = some () := rfl
@[simp] theorem chk_eq {α : Type} [DecidableEq α] (a : α) : chk (a = a) = some () := if_pos rfl
@[simp] theorem aggX_agg (l : List AV) : aggX (.agg l) = some l := rfl
@[simp] theorem chkTup_tup (n : Nat) (l : List AV) : chkTup n (.tup l) = if l.length = n then some () else none := rfl
@[simp] theorem nthA_tup (l : List AV) (i : Nat) : nthA (.tup l) i = l.getD i (.tup []) := rfl
theorem okArgs_sc (v : Value) : okArgs [.sc v] [] = some () := by rw [okArgs_eq]; exact if_pos ⟨by simp, by simp⟩
theorem okRes_sc (v : Value) : okRes (.sc v) = some () := by rw [okRes_eq]; exact if_pos (by simp)
@[simp] theorem chk_and2 : chk (True ∧ True) = some () := rfl
@[simp] theorem cellsN_agg (n : Nat) (l : List AV) : cellsN n (.agg l) = if l.length = n then some l else none := rfl
@[simp] theorem asSc_nil : asSc (.sc nil0) = some nil0 := rfl
theorem drop_cons {α : Type} {l : List α} {i : Nat} {x : α} {r : List α} (h : l.drop i = x :: r) : l[i]? = some x ∧ l.drop (i + 1) = r ∧ ∃ h : i < l.length, l[i] = x := by
  have hi : i < l.length := by
    by_cases hi : i < l.length
    · exact hi
    · rw [List.drop_eq_nil_of_le (by omega)] at h; cases h
  rw [List.drop_eq_getElem_cons hi] at h
  injection h with h1 h2
  exact ⟨by rw [List.getElem?_eq_getElem hi, h1], h2, hi, h1⟩
theorem drop_nil {α : Type} {l : List α} {i : Nat} (h : l.drop i = []) : l.length ≤ i := by simpa using h
/-! ### rows of whole numbers -/
def LI (K : IntKind) (l : List Int) : List AV := l.map fun n => .sc (.int K n)
section
variable (K : IntKind) (l : List Int)
theorem flatI : Flat (LI K l) := flat_map _ l
@[simp] theorem vlI : (LI K l).all vl = true := by simp [LI, List.all_map]
@[simp] theorem lenI : (LI K l).length = l.length := by simp [LI]
@[simp] theorem getI? (i : Nat) : (LI K l)[i]? = (l[i]?).map fun n => .sc (.int K n) := by simp [LI]
@[simp] theorem getI (i : Nat) (h : i < (LI K l).length) : (LI K l)[i] = .sc (.int K (l[i]'(by simpa using h))) := by simp [LI]
@[simp] theorem dropI (i : Nat) : (LI K l).drop i = LI K (l.drop i) := by simp [LI]
@[simp] theorem tailI : (LI K l).tail = LI K l.tail := by simp [LI]
@[simp] theorem nilI : LI K [] = [] := rfl
theorem appI (k : Nat) (hk : k = 1 ∨ k = 2) (b : Nat) (hb : 0 < b ∧ b ≤ 1000) (n : Int) (h : l.length ≤ 1000000) : appA b 1 (S k 1 (LI K l)) (S 1 1 [.sc (.int K n)]) = some (S k 1 (LI K (l ++ [n]))) := by
  rw [appA_S b 1 k _ _ 1 hk (flat_one _) (.inr (fits_ok hb.1 ?_))]
  · simp [LI]
  · simp only [lenI, List.length_cons, List.length_nil]
    have : (l.length + (0 + 1)) * b ≤ 1000001 * 1000 := Nat.mul_le_mul (by omega) hb.2
    omega
theorem appsI (k : Nat) (hk : k = 1 ∨ k = 2) (b : Nat) (hb : 0 < b ∧ b ≤ 1000) (k' : Nat) (m : List Int) (h : l.length + m.length ≤ 1000000) : appA b 1 (S k 1 (LI K l)) (S k' 1 (LI K m)) = some (S k 1 (LI K (l ++ m))) := by
  rw [appA_S b 1 k _ _ k' hk (flatI _ _) (.inr (fits_ok hb.1 ?_))]
  · simp [LI]
  · simp only [lenI]
    have : (l.length + m.length) * b ≤ 1000000 * 1000 := Nat.mul_le_mul (by omega) hb.2
    omega
end
section
variable (P : Program) (t : TypeId) (x y : Operand) (k k' : IntKind) (a b : Int)
theorem binV_shr (h : 0 ≤ b) : binV P .shr t x y (.int k a) (.int k' b) = some (.int k (a.fdiv (2 ^ (min b.toNat k.bits)))) := by
  unfold binV
  rw [eqGuard_int]
  simp only [Go.binOp, Op.shift]
  rw [if_neg (by omega)]
  rfl
theorem binV_shl (h : 0 ≤ b) : binV P .shl t x y (.int k a) (.int k' b) = some (.int k (k.wrap (a * 2 ^ (min b.toNat k.bits)))) := by
  unfold binV
  rw [eqGuard_int]
  simp only [Go.binOp, Op.shift]
  rw [if_neg (by omega)]
  rfl
end
theorem wrapu8 {z : Int} (h1 : 0 ≤ z) (h2 : z < 256) : IntKind.u8.wrap z = z := by rw [IntKind.wrap_u8]; omega
theorem wrapu16 {z : Int} (h1 : 0 ≤ z) (h2 : z < 65536) : IntKind.u16.wrap z = z := by rw [IntKind.wrap_u16]; omega
theorem wrapu32 {z : Int} (h1 : 0 ≤ z) (h2 : z < 4294967296) : IntKind.u32.wrap z = z := by rw [IntKind.wrap_u32]; omega
theorem wrapu64 {z : Int} (h1 : 0 ≤ z) (h2 : z < 18446744073709551616) : IntKind.u64.wrap z = z := by rw [IntKind.wrap_u64]; omega
theorem tmod_pos {a b : Int} (h : 0 ≤ a) : a.tmod b = a % b := Int.tmod_eq_emod_of_nonneg h
@[simp] theorem bltV_max (P : Program) (ts : Array TypeId) (t : TypeId) (k k' : IntKind) (a b : Int) : bltV P .max ts t [.int k a, .int k' b] = some (.int k (max a b)) := by
  show some (Value.int k (if b > a then b else a)) = _
  congr 2
  split <;> omega
@[simp] theorem bltV_min (P : Program) (ts : Array TypeId) (t : TypeId) (k k' : IntKind) (a b : Int) : bltV P .min ts t [.int k a, .int k' b] = some (.int k (min a b)) := by
  show some (Value.int k (if b < a then b else a)) = _
  congr 2
  split <;> omega
/-! ### slices that are written -/
@[simp] theorem getMs_ms (b g o n z : Nat) : getMs (.ms b g o n z) = some (b, g, o, n, z) := rfl
@[simp] theorem ro_ms (b g o n z : Nat) : ro (.ms b g o n z) = .ms b g o n z := rfl
@[simp] theorem ro1_ms (b g o n z : Nat) : ro1 (.ms b g o n z) = .ms b g o n z := rfl
@[simp] theorem lenA_ms (b g o n z : Nat) : lenA (.ms b g o n z) = some n := rfl
@[simp] theorem cellsN_ms (b g o n z : Nat) : cellsN 1 (.ms b g o n z) = some [.ms b g o n z] := rfl
@[simp] theorem noTup_ms (b g o n z : Nat) : noTup (.ms b g o n z) = some () := rfl
theorem idx_ok {n : Nat} {K : IntKind} {z : Int} (h : 0 ≤ z) (h' : z < n) : idx n (.int K z) = some z.toNat := by
  simp [idx, h, h']
theorem idx_nat {n i : Nat} (K : IntKind) (h : i < n) : idx n (.int K (i : Int)) = some i := by
  have h1 : (i : Int) < (n : Int) := by omega
  simp [idx, h1]
theorem rd_new (hp : Hp) (cs : List AV) : (hp.new cs).rd hp.next 0 = some cs := by simp [Hp.rd, Hp.new]
theorem rd_put (hp : Hp) (b : Nat) (cs : List AV) : (hp.put b 0 cs).rd b 0 = some cs := by simp [Hp.rd, Hp.put]
theorem putN_I (K : IntKind) (l : List Int) (i : Nat) (n : Int) (h : i < l.length) : putN (LI K l) i [.sc (.int K n)] = some (LI K (l.set i n)) := by
  unfold putN
  rw [if_pos (by simp; omega)]
  congr 1
  apply List.ext_getElem?
  intro j
  simp only [List.length_cons, List.length_nil, LI, List.getElem?_map, List.getElem?_append, List.length_append, List.length_take, List.length_map, List.getElem?_take, List.getElem?_drop, List.getElem?_set, List.length_cons, List.length_nil]
  by_cases h1 : j < i
  · have e1 : j < min i l.length + (0 + 1) := by omega
    have e2 : j < min i l.length := by omega
    have e3 : ¬(i = j) := by omega
    simp [e1, e2, e3, h1]
  · by_cases h2 : j = i
    · subst h2
      have e2 : ¬(j < min j l.length) := by omega
      have e3 : j - min j l.length = 0 := by omega
      have e4 : min j l.length = j := by omega
      simp [e2, e3, e4, h]
    · have e1 : ¬(j < min i l.length + (0 + 1)) := by omega
      have e2 : ¬(i = j) := by omega
      have e3 : i + (0 + 1) + (j - (min i l.length + (0 + 1))) = j := by omega
      have e4 : ¬(j < min i l.length) := by omega
      simp only [e1, e2, e3, if_false]
theorem getN_all (cs : List AV) : getN cs 0 cs.length = some cs := by simp [getN]
theorem frz1_ms (hp : Hp) (b : Nat) (cs : List AV) (hb : hp.rd b 0 = some cs) (hv : cs.all vl = true) : frz1 hp (.ms b 0 0 cs.length 1) = some (.sl 1 (cs.map ro1), hp.del b) := by
  have e : getN cs 0 (cs.length * 1) = some cs := by rw [Nat.mul_one]; exact getN_all cs
  simp only [frz1, hb, Option.bind_some, e, hv, chk]
  rfl
theorem frz1_I (K : IntKind) (l : List Int) (hp : Hp) (b : Nat) (hb : hp.rd b 0 = some (LI K l)) : frz1 hp (.ms b 0 0 l.length 1) = some (S 0 1 (LI K l), hp.del b) := by
  have h := frz1_ms hp b (LI K l) hb (vlI K l)
  rw [lenI] at h
  rw [h, flatI K l]
  rfl
@[simp] theorem frz1_S (k sz : Nat) (cs : List AV) (hp : Hp) : frz1 hp (S k sz cs) = some (S k sz cs, hp) := by
  rcases S_cases k sz cs with e | e | ⟨e, e'⟩ <;> rw [e] <;> rfl
@[simp] theorem frz1_sc (v : Value) (hp : Hp) : frz1 hp (.sc v) = some (.sc v, hp) := rfl
@[simp] theorem frzL_nil (hp : Hp) : frzL hp [] = some ([], hp) := rfl
@[simp] theorem frzL_cons (hp : Hp) (x : AV) (r : List AV) : frzL hp (x :: r) = (frz1 hp x).bind fun p => (frzL p.2 r).bind fun q => some (p.1 :: q.1, q.2) := rfl
@[simp] theorem many_one (cs : List AV) : many 1 cs = cs.length := rfl
/-- An append to a fresh slice. -/
theorem appM_fresh (K : IntKind) (l : List Int) (k : Nat) (b : Nat) (hb : 0 < b ∧ b ≤ 1000) (hl : l.length ≤ 1000000) (hne : l ≠ []) (hp : Hp) : appM b 1 (S 1 1 []) (S k 1 (LI K l)) hp = some (.ms hp.next 0 0 l.length 1, hp.new (LI K l)) := by
  unfold appM
  rw [srcA_S]
  simp only [Option.bind_some]
  cases l with
  | nil => exact absurd rfl hne
  | cons x l =>
    have hf : fits b 1 (LI K (x :: l)).length = true := fits_ok hb.1 (by
      rw [lenI]
      have : (x :: l).length * b ≤ 1000000 * 1000 := Nat.mul_le_mul hl hb.2
      omega)
    have e : LI K (x :: l) = .sc (.int K x) :: LI K l := rfl
    rw [e] at hf ⊢
    show (chk (1 = 1 ∧ fits b 1 (AV.sc (Value.int K x) :: LI K l).length = true)).bind _ = _
    rw [chk_ok ⟨rfl, hf⟩]
    simp [lenI]
theorem appM_nil (b : Nat) (k : Nat) (hp : Hp) : appM b 1 (S 1 1 []) (S k 1 []) hp = some (S 1 1 [], hp) := by
  unfold appM
  rw [srcA_S]
  show (appA b 1 (S 1 1 []) (S k 1 [])).bind _ = _
  rw [appA_S b 1 1 [] [] k (.inl rfl) rfl (.inl rfl)]
  rfl
/-- An append of one number, to a slice that may be written. -/
theorem appM_one (K : IntKind) (l : List Int) (n : Int) (b x : Nat) (hb : 0 < b ∧ b ≤ 1000) (hl : l.length ≤ 1000000) (hne : l ≠ []) (hp : Hp) (hx : hp.rd x 0 = some (LI K l)) :
    appM b 1 (.ms x 0 0 l.length 1) (S 1 1 [.sc (.int K n)]) hp = some (.ms hp.next 0 0 (l.length + 1) 1, (hp.del x).new (LI K (l ++ [n]))) := by
  have hpos : 0 < l.length := List.length_pos_iff.mpr hne
  have hf : fits b 1 (l.length * 1 + 1) = true := fits_ok hb.1 (by
    have : (l.length * 1 + 1) * b ≤ 1000001 * 1000 := Nat.mul_le_mul (by omega) hb.2
    omega)
  unfold appM
  rw [srcA_S]
  simp only [Option.bind_some, hx, List.length_cons, List.length_nil, many_one]
  rw [chk_ok (by simp [hpos])]
  simp only [Option.bind_some]
  rw [chk_ok ⟨by rw [lenI]; omega, hf⟩]
  have e : ((LI K l).take (l.length * 1)).map ro1 ++ [AV.sc (.int K n)] = LI K (l ++ [n]) := by
    rw [Nat.mul_one, List.take_of_length_le (by simp), flatI]
    simp [LI]
  simp only [Option.bind_some, e]
theorem appM_first (K : IntKind) (n : Int) (b : Nat) (hb : 0 < b ∧ b ≤ 1000) (hp : Hp) : appM b 1 (S 2 1 []) (S 1 1 [.sc (.int K n)]) hp = some (.ms hp.next 0 0 1 1, hp.new (LI K [n])) := by
  have hf : fits b 1 1 = true := fits_ok hb.1 (by omega)
  unfold appM
  rw [srcA_S]
  show (chk (isNil nil0 = true ∧ fits b 1 1 = true)).bind _ = _
  rw [chk_ok ⟨rfl, hf⟩]
  rfl
theorem zeros_I (K : IntKind) (n : Nat) : zerosA (n : Int) [.int K 0] = LI K (List.replicate n 0) := by
  unfold zerosA LI
  rw [Int.toNat_natCast]
  induction n with
  | zero => rfl
  | succ n ih =>
    rw [List.replicate_succ, List.replicate_succ, List.flatten_cons, ih]
    rfl
@[simp] theorem bound_none (lo hi : Int) (d : Nat) : bound lo hi none d = some d := rfl
theorem bound_nat {hi d n : Nat} (K : IntKind) (h : n ≤ hi) : bound 0 (hi : Int) (some (.int K (n : Int))) d = some n := by
  have h1 : (n : Int) ≤ (hi : Int) := by omega
  simp [bound, h1]
theorem getN_I (K : IntKind) (l : List Int) (i n : Nat) (h : i + n ≤ l.length) : getN (LI K l) i n = some (LI K ((l.drop i).take n)) := by
  unfold getN
  rw [if_pos (by simpa using h)]
  simp [LI, List.map_drop, List.map_take]
theorem putNs_I (K : IntKind) (l m : List Int) (i : Nat) (h : i + m.length ≤ l.length) : putN (LI K l) i (LI K m) = some (LI K (l.take i ++ m ++ l.drop (i + m.length))) := by
  unfold putN
  rw [if_pos (by simpa using h)]
  simp [LI, List.map_drop, List.map_take]
theorem takeI (K : IntKind) (l : List Int) (n : Nat) : (LI K l).take n = LI K (l.take n) := by simp [LI, List.map_take]
theorem srcM_ms (K : IntKind) (l : List Int) (hp : Hp) (b o n : Nat) (hb : hp.rd b 0 = some (LI K l)) (h : o + n ≤ l.length) : srcM hp 1 (.ms b 0 o n 1) = some (LI K ((l.drop o).take n)) := by
  unfold srcM
  have e := getN_I K l o n h
  simp only [getMs_ms, chkN_eq, chk_true, Option.bind_some, hb, Nat.mul_one, e]
  rw [flatI]
end Go.Proofs.Ytalnoedhacobkaa.AI
