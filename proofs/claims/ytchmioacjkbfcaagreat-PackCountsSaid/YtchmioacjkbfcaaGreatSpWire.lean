/- Bytes, put and taken: each function of the layer 'wire', on an object of the heap. -/
import Derived.Test.YtchmioacjkbfcaaGreatEqWire
import Derived.Test.YtchmioacjkbfcaaGreatMd
import Derived.Test.YtchmioacjkbfcaaGreatSpBits
import Derived.Test.YtchmioacjkbfcaaGreatMe
namespace Go.Proofs.YtchmioacjkbfcaaGreat.AI
open Go
set_option linter.unusedVariables false
set_option linter.unusedSimpArgs false
set_option maxRecDepth 100000

/-! ### objects -/
@[simp] theorem nilP_ptr (b g o : Nat) : nilP (.ptr b g o) = some false := rfl
@[simp] theorem nilP_nil : nilP (.sc (.pointer none)) = some true := rfl
@[simp] theorem nnA_ptr (b g o : Nat) : nnA (.ptr b g o) = some () := rfl
@[simp] theorem getPtr_ptr (b g o : Nat) : getPtr (.ptr b g o) = some (b, g, o) := rfl
@[simp] theorem ro_ptr (b g o : Nat) : ro (.ptr b g o) = .ptr b g o := rfl
@[simp] theorem ro1_ptr (b g o : Nat) : ro1 (.ptr b g o) = .ptr b g o := rfl
@[simp] theorem noTup_ptr (b g o : Nat) : noTup (.ptr b g o) = some () := rfl
theorem put_put (hp : Hp) (b : Nat) (x y : List AV) : (hp.put b 0 x).put b 0 y = hp.put b 0 y := by
  unfold Hp.put
  congr 1
  funext z
  by_cases e : z = b
  · simp [e]
  · simp [e]
theorem put_new (hp : Hp) (x y : List AV) : (hp.new x).put hp.next 0 y = hp.new y := by
  unfold Hp.put Hp.new
  congr 1
  funext z
  by_cases e : z = hp.next
  · simp [e]
  · simp [e]
theorem put_same {hp : Hp} {b : Nat} {x : List AV} (h : hp.rd b 0 = some x) : hp.put b 0 x = hp := by
  have hg : hp.get b = some (0, x) := by
    unfold Hp.rd at h
    obtain ⟨p, hp1, h⟩ := Option.bind_eq_some_iff.mp h
    split at h
    · rename_i e
      cases h
      rw [hp1]
      obtain ⟨p1, p2⟩ := p
      have : p1 = 0 := e.1
      subst this; rfl
    · cases h
  obtain ⟨n, g⟩ := hp
  unfold Hp.put
  congr 1
  funext z
  by_cases e : z = b
  · subst e; simp only [if_true]; exact hg.symm
  · simp [e]
theorem rd_put_ne (hp : Hp) {b c : Nat} (x : List AV) (h : c ≠ b) : (hp.put b 0 x).rd c 0 = hp.rd c 0 := by
  simp [Hp.rd, Hp.put, h]
theorem rd_new_ne (hp : Hp) {c : Nat} (x : List AV) (h : c ≠ hp.next) : (hp.new x).rd c 0 = hp.rd c 0 := by
  simp [Hp.rd, Hp.new, h]
@[simp] theorem next_put (hp : Hp) (b : Nat) (x : List AV) : (hp.put b 0 x).next = hp.next := rfl
@[simp] theorem next_new (hp : Hp) (x : List AV) : (hp.new x).next = hp.next + 1 := rfl
theorem set_one (x : AV) (i : Nat) (y : AV) (l : List AV) : (x :: l).set 0 y = y :: l := rfl

/-! ### the writer -/
/-- A writer's cells. -/
abbrev Wc (l : List Int) : List AV := [S 2 1 (LI .u8 l)]
theorem wrap8_of {x : Int} : IntKind.u8.wrap x = x % 256 := by rw [IntKind.wrap_u8]
theorem run_wbyte (b : Nat) (l : List Int) (c : Int) (hl : l.length ≤ 1000000) (hp : Hp) (h : hp.rd b 0 = some (Wc l)) :
    run cxX 36 [.ptr b 0 0, .sc (.int .u8 c)] hp = some (.tup [], hp.put b 0 (Wc (l ++ [c]))) := by
  have ap := appI .u8 l 2 (.inr rfl) 1 (by decide) c hl
  rw [E36]
  simp [h, getC, ap, rd_put, putN, put_put]
theorem run_wput (b : Nat) (l m : List Int) (k : Nat) (hl : l.length + m.length ≤ 1000000) (hp : Hp) (h : hp.rd b 0 = some (Wc l)) :
    run cxX 35 [.ptr b 0 0, S k 1 (LI .u8 m)] hp = some (.tup [], hp.put b 0 (Wc (l ++ m))) := by
  have ap := fun k => appsI .u8 l 2 (.inr rfl) 1 (by decide) k m hl
  rw [E35]
  simp [h, getC, ap, rd_put, putN, put_put]
theorem run_wbytes (b : Nat) (l : List Int) (hl : l.length ≤ 1000000) (hp : Hp) (h : hp.rd b 0 = some (Wc l)) :
    run cxX 13 [.ptr b 0 0] hp = some (S 1 1 (LI .u8 l), hp) := by
  have ap := fun k => appsI .u8 [] 1 (.inl rfl) 1 (by decide) k l (by simpa using hl)
  simp at ap
  rw [E13]
  simp [h, getC, ap]
theorem or128_bv : ∀ x : BitVec 8, (x ||| 128#8).toNat = x.toNat % 128 + 128 := by decide
theorem or128 (n : Nat) (t : TypeId) (x y : Operand) : binV Go.Proofs.Tryz.prog .or t x y (.int .u8 ((n : Int) % 256)) (.int .u8 128) = some (.int .u8 ((n % 128 + 128 : Nat) : Int)) := by
  rw [binV_or]
  have e1 : (BitVec.ofInt 8 ((n : Int) % 256)).toNat = n % 256 := by
    rw [BitVec.toNat_ofInt]
    omega
  have e2 : (BitVec.ofInt IntKind.u8.bits ((n : Int) % 256) ||| BitVec.ofInt IntKind.u8.bits 128).toNat = n % 128 + 128 := by
    show (BitVec.ofInt 8 ((n : Int) % 256) ||| 128#8).toNat = _
    rw [or128_bv, e1]
    omega
  rw [e2, wrapu8 (by omega) (by omega)]
theorem shr7 (n : Nat) (t : TypeId) (x y : Operand) : binV Go.Proofs.Tryz.prog .shr t x y (.int .u64 (n : Int)) (.int .u64 7) = some (.int .u64 ((n / 128 : Nat) : Int)) := by
  rw [binV_shr _ _ _ _ _ _ _ _ (by omega)]
  congr 2
  rw [Int.fdiv_eq_ediv_of_nonneg _ (by decide)]
  show (n : Int) / 128 = _
  omega
theorem wuint_loop (b : Nat) : ∀ (n : Nat) (l : List Int) (hp : Hp), n < 18446744073709551616 → l.length + (uv n).length ≤ 1000000 → hp.rd b 0 = some (Wc l) →
    B25_0 (.ptr b 0 0) (.int .u64 (n : Int)) hp = some (.tup [], hp.put b 0 (Wc (l ++ uv n))) := by
  intro n
  induction n using Nat.strongRecOn with
  | _ n ih =>
    intro l hp hn hl h
    rw [B25_0_eq]
    by_cases h1 : n < 128
    · rw [uv_lt h1] at hl ⊢
      have hge : ¬((n : Int) ≥ 128) := by omega
      have hge' : ¬((128 : Int) ≤ (n : Int)) := by omega
      have w : IntKind.u8.wrap (n : Int) = (n : Int) := wrapu8 (by omega) (by omega)
      have wb := run_wbyte b l n (by simp at hl; omega) hp h
      simp [hge', w, wb]
    · rw [uv_ge h1] at hl ⊢
      have hge : (128 : Int) ≤ (n : Int) := by omega
      have w : IntKind.u8.wrap (n : Int) = (n : Int) % 256 := by rw [wrap8_of]
      have wb := run_wbyte b l ((n % 128 + 128 : Nat) : Int) (by simp at hl; omega) hp h
      have o := or128 n
      have s := shr7 n
      have ih' := ih (n / 128) (by omega) (l ++ [((n % 128 + 128 : Nat) : Int)]) (hp.put b 0 (Wc (l ++ [((n % 128 + 128 : Nat) : Int)]))) (by omega) (by simp at hl ⊢; omega) (rd_put _ _ _)
      rw [put_put] at ih'
      generalize ((n % 128 + 128 : Nat) : Int) = c at *
      generalize ((n / 128 : Nat) : Int) = d at *
      simp [hge, w, wb, o, s, ih', -binV_or]
theorem run_wuint (b n : Nat) (l : List Int) (hn : n < 18446744073709551616) (hl : l.length + (uv n).length ≤ 1000000) (hp : Hp) (h : hp.rd b 0 = some (Wc l)) :
    run cxX 25 [.ptr b 0 0, .sc (.int .u64 (n : Int))] hp = some (.tup [], hp.put b 0 (Wc (l ++ uv n))) := by
  rw [E25]
  simp [wuint_loop b n l hp hn hl h]
/-! ### numbers with a sign -/
theorem xor_zero (x : Nat) (h : x < 18446744073709551616) (t : TypeId) (a b : Operand) : binV Go.Proofs.Tryz.prog .xor t a b (.int .u64 (x : Int)) (.int .u64 0) = some (.int .u64 (x : Int)) := by
  rw [binV_xor]
  have e : (BitVec.ofInt IntKind.u64.bits (x : Int) ^^^ BitVec.ofInt IntKind.u64.bits 0).toNat = x := by
    show (BitVec.ofInt 64 (x : Int) ^^^ 0#64).toNat = x
    rw [BitVec.xor_zero, BitVec.toNat_ofInt]
    omega
  rw [e, wrapu64 (by omega) (by omega)]
theorem xor_ones (x : Nat) (h : x < 18446744073709551616) (t : TypeId) (a b : Operand) : binV Go.Proofs.Tryz.prog .xor t a b (.int .u64 (x : Int)) (.int .u64 18446744073709551615) = some (.int .u64 ((18446744073709551615 - x : Nat) : Int)) := by
  rw [binV_xor]
  have e : (BitVec.ofInt IntKind.u64.bits (x : Int) ^^^ BitVec.ofInt IntKind.u64.bits 18446744073709551615).toNat = 18446744073709551615 - x := by
    have e1 : BitVec.ofInt 64 18446744073709551615 = BitVec.allOnes 64 := by decide
    show (BitVec.ofInt 64 (x : Int) ^^^ BitVec.ofInt 64 18446744073709551615).toNat = _
    rw [e1, BitVec.xor_allOnes, BitVec.toNat_not, BitVec.toNat_ofInt]
    omega
  rw [e, wrapu64 (by omega) (by omega)]
theorem run_wint (b : Nat) (n : Int) (l : List Int) (hn : -9223372036854775808 ≤ n ∧ n < 9223372036854775808) (hl : l.length + (uv (zz n)).length ≤ 1000000) (hp : Hp) (h : hp.rd b 0 = some (Wc l)) :
    run cxX 12 [.ptr b 0 0, .sc (.int .i64 n)] hp = some (.tup [], hp.put b 0 (Wc (l ++ uv (zz n)))) := by
  have wu := run_wuint b (zz n) l (zz_lt hn.1 hn.2) hl hp h
  rw [E12]
  by_cases h0 : n < 0
  · have z : zz n = 18446744073709551615 - (2 * n + 18446744073709551616).toNat := by unfold zz; rw [if_pos h0]; omega
    have w1 : IntKind.u64.wrap n = n + 18446744073709551616 := by rw [IntKind.wrap_u64]; omega
    have s1 : ∀ t x y, binV Go.Proofs.Tryz.prog .shl t x y (.int .u64 (n + 18446744073709551616)) (.int .u64 1) = some (.int .u64 (((2 * n + 18446744073709551616).toNat : Nat) : Int)) := by
      intro t x y
      rw [binV_shl _ _ _ _ _ _ _ _ (by omega)]
      have e : (2 : Int) ^ min (1 : Int).toNat IntKind.u64.bits = 2 := rfl
      rw [e, IntKind.wrap_u64]
      congr 2
      omega
    have s2 : ∀ t x y, binV Go.Proofs.Tryz.prog .shr t x y (.int .i64 n) (.int .u64 63) = some (.int .i64 (-1)) := by
      intro t x y
      rw [binV_shr _ _ _ _ _ _ _ _ (by omega)]
      have e : (2 : Int) ^ min (63 : Int).toNat IntKind.i64.bits = 9223372036854775808 := rfl
      rw [e, Int.fdiv_eq_ediv_of_nonneg _ (by omega)]
      congr 2
      omega
    have w2 : IntKind.u64.wrap (-1) = 18446744073709551615 := by rw [IntKind.wrap_u64]; rfl
    have x1 := xor_ones (2 * n + 18446744073709551616).toNat (by omega)
    rw [← z] at x1
    generalize (2 * n + 18446744073709551616).toNat = X at *
    simp [w1, s1, s2, w2, x1, wu, -binV_xor]
  · have z : zz n = (2 * n).toNat := by unfold zz; rw [if_neg h0]; omega
    have w1 : IntKind.u64.wrap n = n := wrapu64 (by omega) (by omega)
    have s1 : ∀ t x y, binV Go.Proofs.Tryz.prog .shl t x y (.int .u64 n) (.int .u64 1) = some (.int .u64 ((zz n : Nat) : Int)) := by
      intro t x y
      rw [binV_shl _ _ _ _ _ _ _ _ (by omega)]
      have e : (2 : Int) ^ min (1 : Int).toNat IntKind.u64.bits = 2 := rfl
      rw [e, IntKind.wrap_u64, z]
      congr 2
      omega
    have s2 : ∀ t x y, binV Go.Proofs.Tryz.prog .shr t x y (.int .i64 n) (.int .u64 63) = some (.int .i64 0) := by
      intro t x y
      rw [binV_shr _ _ _ _ _ _ _ _ (by omega)]
      have e : (2 : Int) ^ min (63 : Int).toNat IntKind.i64.bits = 9223372036854775808 := rfl
      rw [e, Int.fdiv_eq_ediv_of_nonneg _ (by omega)]
      congr 2
      omega
    have w2 : IntKind.u64.wrap 0 = 0 := rfl
    have x1 := xor_zero (zz n) (zz_lt hn.1 hn.2)
    simp [w1, s1, s2, w2, x1, wu, -binV_xor]

/-! ### the reader -/
/-- A reader's cells. -/
abbrev Rc (k : Nat) (l : List Int) (p : Nat) (e : Int) : List AV := [S k 1 (LI .u8 l), .sc (.int .i64 (p : Int)), .sc (.int .i64 e)]
/-- Its error, behind one more. -/
def rE (e f : Int) : Int := if e = 0 then f else e
def rL (l : List Int) (p : Nat) (e : Int) : Nat := if e = 0 then l.length - p else 0
theorem run_wread (k : Nat) (l : List Int) (hp : Hp) : run cxX 42 [S k 1 (LI .u8 l)] hp = some (.ptr hp.next 0 0, hp.new (Rc (rk k) l 0 0)) := by
  rw [E42]
  simp [putN]
  rfl
theorem slcA_S3 (k : Nat) (cs : List AV) (i h : Nat) (hih : i ≤ h) (hh : h ≤ cs.length) (hne : cs ≠ []) :
    slcA 1 (S k 1 cs) (some (.int .i64 (i : Int))) (some (.int .i64 (h : Int))) (some (.int .i64 (h : Int))) = some (S 0 1 ((cs.drop i).take (h - i))) := by
  have b1 : bound 0 (cs.length : Int) (some (.int .i64 (h : Int))) cs.length = some h := bound_nat .i64 hh
  have b2 : bound 0 (h : Int) (some (.int .i64 (h : Int))) cs.length = some h := bound_nat .i64 (Nat.le_refl h)
  have b3 : bound 0 (h : Int) (some (.int .i64 (i : Int))) 0 = some i := bound_nat .i64 hih
  rcases S_cases k 1 cs with e | e | ⟨e, e'⟩
  · rw [e]
    simp only [slcA, if_true, b1, b2, b3, Option.bind_some, Nat.mul_one]
    rfl
  · rw [e]
    simp only [slcA, if_true, b1, b2, b3, Option.bind_some, Nat.mul_one]
    rfl
  · exact absurd e' hne
section
variable (b k : Nat) (l : List Int) (p : Nat) (e : Int) (hp : Hp)
theorem run_rerr (h : hp.rd b 0 = some (Rc k l p e)) : run cxX 93 [.ptr b 0 0] hp = some (.sc (.int .i64 e), hp) := by
  rw [E93]
  simp [h, getSc]
theorem run_rfail (f : Int) (h : hp.rd b 0 = some (Rc k l p e)) : run cxX 95 [.ptr b 0 0, .sc (.int .i64 f)] hp = some (.tup [], hp.put b 0 (Rc k l p (rE e f))) := by
  rw [E95]
  unfold rE
  by_cases h0 : e = 0
  · subst h0
    simp [h, getSc, B95_1_eq, putN]
  · simp [h, getSc, h0, put_same h]
theorem run_rleft (hl : l.length ≤ 1000000000) (hp' : p ≤ l.length) (h : hp.rd b 0 = some (Rc k l p e)) : run cxX 103 [.ptr b 0 0] hp = some (.sc (.int .i64 (rL l p e : Nat)), hp) := by
  rw [E103]
  unfold rL
  by_cases h0 : e = 0
  · subst h0
    have w : IntKind.i64.wrap ((l.length : Int) - (p : Int)) = ((l.length - p : Nat) : Int) := by rw [wrap64] <;> omega
    simp [h, getSc, getC, B103_3_eq, w]
  · simp [h, getSc, h0, B103_2_eq]
/-- One byte. -/
def rB (l : List Int) (p : Nat) (e : Int) : Int × Nat × Int := if rL l p e = 0 then (0, p, rE e 3) else (l.getD p 0, p + 1, e)
theorem run_rbyte (hl : l.length ≤ 1000000000) (hp' : p ≤ l.length) (h : hp.rd b 0 = some (Rc k l p e)) :
    run cxX 48 [.ptr b 0 0] hp = some (.sc (.int .u8 (rB l p e).1), hp.put b 0 (Rc k l (rB l p e).2.1 (rB l p e).2.2)) := by
  have lf := run_rleft b k l p e hp hl hp' h
  rw [E48]
  unfold rB
  by_cases h0 : rL l p e = 0
  · have fl := run_rfail b k l p e hp 3 h
    simp [lf, h0, fl]
  · have he : e = 0 := by
      unfold rL at h0
      by_cases he : e = 0
      · exact he
      · simp [he] at h0
    subst he
    have hlt : p < l.length := by unfold rL at h0; simp at h0; omega
    have w : IntKind.i64.wrap ((p : Int) + 1) = ((p + 1 : Nat) : Int) := by rw [wrap64] <;> omega
    have w2 : IntKind.i64.wrap (((p + 1 : Nat) : Int) - 1) = (p : Int) := by rw [wrap64] <;> omega
    have w3 : IntKind.i64.wrap (p : Int) = (p : Int) := wrap64 (by omega) (by omega)
    simp only [Int.natCast_add, Int.natCast_one] at w w2
    simp [lf, h0, h, getSc, getC, w, putN, rd_put, w2, w3, hlt, Rc]
/-- Many bytes. -/
theorem run_rbytes (n : Nat) (hl : l.length ≤ 1000000000) (hn : n ≤ 1000000000) (hp' : p ≤ l.length) (h : hp.rd b 0 = some (Rc k l p e)) :
    ∃ t, run cxX 102 [.ptr b 0 0, .sc (.int .i64 (n : Int))] hp =
      if rL l p e < n then some (S 2 1 [], hp.put b 0 (Rc k l p (rE e 3))) else if n = 0 then some (S 2 1 [], hp) else some (S t 1 (LI .u8 ((l.drop p).take n)), hp.put b 0 (Rc k l (p + n) e)) := by
  have lf := run_rleft b k l p e hp hl hp' h
  have fl := run_rfail b k l p e hp 3 h
  have h00 : ¬((n : Int) < 0) := by omega
  rw [E102]
  by_cases h0 : rL l p e < n
  · refine ⟨0, ?_⟩
    simp [h00, lf, h0, B102_2_eq, fl]
  · by_cases h1 : n = 0
    · subst h1
      refine ⟨0, ?_⟩
      have hz : ¬((rL l p e : Int) < 0) := by omega
      simp [lf, hz, B102_4_eq]
    · have he : e = 0 := by
        unfold rL at h0
        by_cases he : e = 0
        · exact he
        · simp [he] at h0; omega
      subst he
      have hlt : p + n ≤ l.length := by unfold rL at h0; simp at h0; omega
      have w : IntKind.i64.wrap ((p : Int) + (n : Int)) = ((p + n : Nat) : Int) := by rw [wrap64] <;> omega
      have w2 : IntKind.i64.wrap (((p + n : Nat) : Int) - (n : Int)) = (p : Int) := by rw [wrap64] <;> omega
      have sl := fun k => slcA_S3 k (LI .u8 l) p (p + n) (by omega) (by simpa using hlt) (by intro hn0; have := congrArg List.length hn0; simp at this; subst this; simp at hlt; omega)
      have e1 : p + n - p = n := by omega
      simp only [e1, dropI, takeI] at sl
      refine ⟨0, ?_⟩
      have hz : ¬((rL l p 0 : Int) < (n : Int)) := by omega
      have pn : ∀ x : AV, putN (Rc k l p 0) 1 [x] = some [S k 1 (LI .u8 l), x, .sc (.int .i64 0)] := fun x => rfl
      have hn1 : ¬((n : Int) = 0) := by omega
      generalize hq : ((p + n : Nat) : Int) = q at *
      simp [h00, lf, h0, hz, B102_4_eq, h1, hn1, h, getSc, getC, w, pn, rd_put, w2, sl, Rc, hq]
theorem run_rend (hl : l.length ≤ 1000000000) (hp' : p ≤ l.length) (h : hp.rd b 0 = some (Rc k l p e)) :
    run cxX 53 [.ptr b 0 0] hp = some (.sc (.int .i64 (if e = 0 ∧ p < l.length then 15 else e)), hp) := by
  have er := run_rerr b k l p e hp h
  rw [E53]
  by_cases h0 : e = 0
  · subst h0
    by_cases h1 : p < l.length
    · simp [h, getSc, getC, h1, B53_2_eq]
    · simp [h, getSc, getC, h1, B53_3_eq, er]
  · simp [h, getSc, h0, B53_3_eq, er]
end
/-! ### numbers are read -/
theorem and127_bv : ∀ x : BitVec 8, (x &&& 127#8).toNat = x.toNat % 128 := by decide
theorem and127 (c : Nat) (hc : c < 256) (t : TypeId) (x y : Operand) : binV Go.Proofs.Tryz.prog .and t x y (.int .u8 (c : Int)) (.int .u8 127) = some (.int .u8 ((c % 128 : Nat) : Int)) := by
  rw [binV_and]
  have e1 : (BitVec.ofInt 8 (c : Int)).toNat = c := by
    rw [BitVec.toNat_ofInt]; omega
  have e2 : (BitVec.ofInt IntKind.u8.bits (c : Int) &&& BitVec.ofInt IntKind.u8.bits 127).toNat = c % 128 := by
    show (BitVec.ofInt 8 (c : Int) &&& 127#8).toNat = _
    rw [and127_bv, e1]
  rw [e2, wrapu8 (by omega) (by omega)]
theorem or_add (n x s : Nat) (hn : n < 2 ^ s) (h : n + x * 2 ^ s < 18446744073709551616) (t : TypeId) (a b : Operand) :
    binV Go.Proofs.Tryz.prog .or t a b (.int .u64 (n : Int)) (.int .u64 ((x * 2 ^ s : Nat) : Int)) = some (.int .u64 ((n + x * 2 ^ s : Nat) : Int)) := by
  rw [binV_or]
  generalize hy : x * 2 ^ s = y at *
  have e : (BitVec.ofInt IntKind.u64.bits (n : Int) ||| BitVec.ofInt IntKind.u64.bits (y : Int)).toNat = n + y := by
    show (BitVec.ofInt 64 (n : Int) ||| BitVec.ofInt 64 (y : Int)).toNat = _
    rw [BitVec.toNat_or, BitVec.toNat_ofInt, BitVec.toNat_ofInt]
    have e1 : ((n : Int) % ((2 ^ 64 : Nat) : Int)).toNat = n := by omega
    have e2 : ((y : Int) % ((2 ^ 64 : Nat) : Int)).toNat = y := by omega
    rw [e1, e2]
    have := Nat.two_pow_add_eq_or_of_lt hn x
    rw [Nat.mul_comm] at this
    rw [hy] at this
    rw [Nat.or_comm, ← this, Nat.add_comm]
  rw [e, wrapu64 (by omega) (by omega)]
def rU (l : List Int) (p : Nat) (e : Int) (most : Nat) : Nat × Nat × Int :=
  if e ≠ 0 then (0, p, e)
  else if (gU (l.drop p) 0 0 0).2.2 ≠ 0 then (0, p + (gU (l.drop p) 0 0 0).2.1, (gU (l.drop p) 0 0 0).2.2)
  else if most < (gU (l.drop p) 0 0 0).1 then (0, p + (gU (l.drop p) 0 0 0).2.1, 7)
  else ((gU (l.drop p) 0 0 0).1, p + (gU (l.drop p) 0 0 0).2.1, 0)
section
variable (b k : Nat) (l : List Int) (most : Nat)
theorem ruint_err (p : Nat) (e : Int) (he : e ≠ 0) (hp : Hp) (h : hp.rd b 0 = some (Rc k l p e)) (v : Value) (n s : Int) (c : Int) :
    B45_7 (.ptr b 0 0) v (.int .u64 n) (.int .i64 s) (.int .u8 c) hp = some (.sc (.int .u64 0), hp) := by
  have er := run_rerr b k l p e hp h
  rw [B45_7_eq]
  simp [er, he]
theorem ruint_err6 (p : Nat) (e : Int) (hp : Hp) (h : hp.rd b 0 = some (Rc k l p e)) (v : Value) (n s : Int) (c : Int) :
    B45_6 (.ptr b 0 0) v (.int .u64 n) (.int .i64 s) (.int .u8 c) hp = some (.sc (.int .u64 0), hp.put b 0 (Rc k l p (rE e 4))) := by
  have fl := run_rfail b k l p e hp 4 h
  have e7 := ruint_err b k l p (rE e 4) (by unfold rE; split <;> simp_all) (hp.put b 0 (Rc k l p (rE e 4))) (rd_put _ _ _) v n s c
  rw [B45_6_eq]
  simp [fl, e7]
/-- What a number comes to, in the end. -/
def uF (most : Nat) (g : Nat × Nat × Int) : Nat × Int := if g.2.2 ≠ 0 then (0, g.2.2) else if most < g.1 then (0, 7) else (g.1, 0)
theorem ruint_7 (hm : most < 18446744073709551616) (q s n c : Nat) (hp : Hp) (hc : c < 256) (hs : s ≤ 63) (hn : n < 2 ^ s) (hfit : n + c % 128 * 2 ^ s < 18446744073709551616) (h : hp.rd b 0 = some (Rc k l q 0)) :
    B45_7 (.ptr b 0 0) (.int .u64 most) (.int .u64 n) (.int .i64 s) (.int .u8 c) hp =
      if c < 128 then (if most < n + c * 2 ^ s then some (.sc (.int .u64 0), hp.put b 0 (Rc k l q 7)) else some (.sc (.int .u64 ((n + c * 2 ^ s : Nat) : Int)), hp))
      else B45_4 (.ptr b 0 0) (.int .u64 most) (.int .u64 ((n + (c - 128) * 2 ^ s : Nat) : Int)) (.int .i64 ((s + 7 : Nat) : Int)) hp := by
  have er := run_rerr b k l q 0 hp h
  have fl := run_rfail b k l q 0 hp 7 h
  have an := and127 c hc
  have w : IntKind.u64.wrap ((c % 128 : Nat) : Int) = ((c % 128 : Nat) : Int) := wrapu64 (by omega) (by omega)
  have sh : ∀ t x y, binV Go.Proofs.Tryz.prog .shl t x y (.int .u64 ((c % 128 : Nat) : Int)) (.int .i64 (s : Int)) = some (.int .u64 ((c % 128 * 2 ^ s : Nat) : Int)) := by
    intro t x y
    rw [binV_shl _ _ _ _ _ _ _ _ (by omega)]
    have e : min (s : Int).toNat IntKind.u64.bits = s := by
      have : IntKind.u64.bits = 64 := rfl
      omega
    rw [e]
    have e2 : ((c % 128 : Nat) : Int) * 2 ^ s = ((c % 128 * 2 ^ s : Nat) : Int) := by simp
    rw [e2, wrapu64 (by omega) (by omega)]
  have oo := or_add n (c % 128) s hn hfit
  have w7 : IntKind.i64.wrap ((s : Int) + 7) = ((s + 7 : Nat) : Int) := by rw [wrap64] <;> omega
  rw [B45_7_eq]
  by_cases h1 : c < 128
  · have e1 : c % 128 = c := by omega
    rw [e1] at an w sh oo
    have hlt : ((c : Int) < 128) := by omega
    rw [if_pos h1]
    by_cases h2 : most < n + c * 2 ^ s
    · rw [if_pos h2]
      generalize c * 2 ^ s = y at *
      generalize hz : n + y = z at *
      have hlt2 : (most : Int) < (z : Int) := by omega
      simp [er, an, w, sh, oo, hlt, hlt2, fl, rE, -binV_and, -binV_or]
    · rw [if_neg h2]
      generalize c * 2 ^ s = y at *
      generalize hz : n + y = z at *
      have hlt2 : ¬((most : Int) < (z : Int)) := by omega
      simp [er, an, w, sh, oo, hlt, hlt2, -binV_and, -binV_or]
  · have e1 : c % 128 = c - 128 := by omega
    rw [e1] at an w sh oo
    have hlt : ¬((c : Int) < 128) := by omega
    rw [if_neg h1]
    generalize (c - 128) * 2 ^ s = y at *
    generalize hz : n + y = z at *
    generalize ((c - 128 : Nat) : Int) = c' at *
    generalize ((s + 7 : Nat) : Int) = s' at *
    simp [er, an, w, sh, oo, hlt, w7, -binV_and, -binV_or]
end
section
variable (b k : Nat) (l : List Int) (most : Nat)
theorem ruint_loop (hm : most < 18446744073709551616) (hl : l.length ≤ 1000000000) (h8 : ∀ c ∈ l, 0 ≤ c ∧ c < 256) (p : Nat) : ∀ (r : List Int) (u s n i : Nat) (hp : Hp), l.drop (p + u) = r → p + u ≤ l.length → s = 7 * i → i ≤ 9 → n < 2 ^ s → hp.rd b 0 = some (Rc k l (p + u) 0) →
    B45_4 (.ptr b 0 0) (.int .u64 most) (.int .u64 n) (.int .i64 s) hp = some (.sc (.int .u64 ((uF most (gU r s n u)).1 : Nat)), hp.put b 0 (Rc k l (p + (gU r s n u).2.1) (uF most (gU r s n u)).2)) := by
  intro r
  induction r with
  | nil =>
    intro u s n i hp hr hpu hs hi hn h
    have hle := drop_nil hr
    have hb : rB l (p + u) 0 = (0, p + u, 3) := by
      unfold rB rL rE
      rw [if_pos (by simp; omega)]
      simp
    have rb := run_rbyte b k l (p + u) 0 hp hl hpu h
    rw [hb] at rb
    have g : gU [] s n u = (0, u, 3) := rfl
    have f : uF most (0, u, 3) = (0, 3) := rfl
    rw [g, f]
    have e6 := ruint_err6 b k l (p + u) 3 (hp.put b 0 (Rc k l (p + u) 3)) (rd_put _ _ _) (.int .u64 most) n s 0
    have e7 := ruint_err b k l (p + u) 3 (by decide) (hp.put b 0 (Rc k l (p + u) 3)) (rd_put _ _ _) (.int .u64 most) n s 0
    have r34 : rE 3 4 = 3 := rfl
    rw [put_put, r34] at e6
    rw [B45_4_eq]
    by_cases h63 : s = 63
    · subst h63
      simp at e6
      simp [rb, e6]
    · have hc : ¬((s : Int) = 63) := by omega
      by_cases h0 : s = 0
      · subst h0
        simp at e7
        simp [rb, e7]
      · have hp0 : 0 < s := by omega
        simp [rb, hc, hp0, e6]
  | cons c r ih =>
    intro u s n i hp hr hpu hs hi hn h
    obtain ⟨e1, e2, hlt, e3⟩ := drop_cons hr
    have hc8 := h8 c (List.mem_of_getElem? e1)
    obtain ⟨cn, rfl⟩ : ∃ cn : Nat, c = cn := ⟨c.toNat, by omega⟩
    have hb : rB l (p + u) 0 = ((cn : Int), p + u + 1, 0) := by
      unfold rB rL
      rw [if_neg (by simp; omega)]
      simp [hlt, e3]
    have rb := run_rbyte b k l (p + u) 0 hp hl hpu h
    rw [hb] at rb
    have e6 := ruint_err6 b k l (p + u + 1) 0 (hp.put b 0 (Rc k l (p + u + 1) 0)) (rd_put _ _ _) (.int .u64 most) n s cn
    have r34 : rE 0 4 = 4 := rfl
    rw [put_put, r34] at e6
    have hs63 : s ≤ 63 := by omega
    by_cases bad : (s = 63 ∧ 1 < (cn : Int)) ∨ (0 < s ∧ (cn : Int) = 0)
    · have g : gU ((cn : Int) :: r) s n u = (0, u + 1, 4) := by unfold gU; rw [if_pos bad]
      have f : uF most (0, u + 1, 4) = (0, 4) := rfl
      rw [g, f, B45_4_eq]
      have hpu1 : p + (u + 1) = p + u + 1 := by omega
      rw [hpu1]
      by_cases h63 : s = 63
      · subst h63
        by_cases h1 : 1 < cn
        · have h1' : 1 < (cn : Int) := by omega
          simp at e6
          simp [rb, h1', e6]
        · have hc0 : cn = 0 := by
            rcases bad with ⟨_, h2⟩ | ⟨_, h2⟩ <;> omega
          subst hc0
          simp at e6
          simp [rb, e6]
      · have hc : ¬((s : Int) = 63) := by omega
        have hz : 0 < s ∧ cn = 0 := by
          rcases bad with ⟨h2, _⟩ | ⟨h2, h3⟩
          · exact absurd h2 h63
          · exact ⟨h2, by omega⟩
        obtain ⟨hz1, hz2⟩ := hz
        subst hz2
        simp at e6
        simp [rb, hc, hz1, e6]
    · have hfit : n + cn % 128 * 2 ^ s < 18446744073709551616 := by
        by_cases h63 : s = 63
        · subst h63
          have hc1 : ¬(1 < (cn : Int)) := fun h2 => bad (.inl ⟨rfl, h2⟩)
          have e : (2 : Nat) ^ 63 = 9223372036854775808 := rfl
          rw [e] at hn ⊢
          have : cn % 128 ≤ 1 := by omega
          omega
        · have hs56 : s ≤ 56 := by omega
          have h7 : 2 ^ s ≤ 2 ^ 56 := Nat.pow_le_pow_right (by decide) hs56
          have e : (2 : Nat) ^ 56 = 72057594037927936 := rfl
          rw [e] at h7
          have : cn % 128 * 2 ^ s ≤ 127 * 72057594037927936 := Nat.mul_le_mul (by omega) h7
          omega
      have b7 := ruint_7 b k l most hm (p + u + 1) s n cn (hp.put b 0 (Rc k l (p + u + 1) 0)) (by omega) hs63 hn hfit (rd_put _ _ _)
      have hpu1 : p + (u + 1) = p + u + 1 := by omega
      have step : B45_4 (.ptr b 0 0) (.int .u64 most) (.int .u64 n) (.int .i64 s) hp = B45_7 (.ptr b 0 0) (.int .u64 most) (.int .u64 n) (.int .i64 s) (.int .u8 cn) (hp.put b 0 (Rc k l (p + u + 1) 0)) := by
        rw [B45_4_eq]
        by_cases h63 : s = 63
        · subst h63
          have h1 : ¬(1 < cn) := fun h2 => bad (.inl ⟨rfl, by omega⟩)
          have h2 : ¬(cn = 0) := fun h2 => bad (.inr ⟨by omega, by omega⟩)
          have h1' : ¬(1 < (cn : Int)) := by omega
          simp [rb, h1', h2]
        · have hc : ¬((s : Int) = 63) := by omega
          by_cases h0 : s = 0
          · subst h0
            simp [rb]
          · have hp0 : 0 < s := by omega
            have h2 : ¬(cn = 0) := fun h2 => bad (.inr ⟨by omega, by omega⟩)
            simp [rb, hc, hp0, h2]
      rw [step, b7]
      by_cases h1 : cn < 128
      · have g : gU ((cn : Int) :: r) s n u = (n + cn * 2 ^ s, u + 1, 0) := by
          unfold gU; rw [if_neg bad, if_pos (by omega), Int.toNat_natCast]
        rw [if_pos h1, g, put_put]
        by_cases h2 : most < n + cn * 2 ^ s
        · have f : uF most (n + cn * 2 ^ s, u + 1, 0) = (0, 7) := by unfold uF; simp [h2]
          rw [if_pos h2, f]
          simp only [hpu1]; rfl
        · have f : uF most (n + cn * 2 ^ s, u + 1, 0) = (n + cn * 2 ^ s, 0) := by unfold uF; simp [h2]
          rw [if_neg h2, f]
          simp only [hpu1]
      · have g : gU ((cn : Int) :: r) s n u = gU r (s + 7) (n + (cn - 128) * 2 ^ s) (u + 1) := by
          conv => lhs; unfold gU
          rw [if_neg bad, if_neg (by omega), Int.toNat_natCast]
        have hi9 : i + 1 ≤ 9 := by
          by_cases h63 : s = 63
          · exact absurd (.inl ⟨h63, by omega⟩) bad
          · omega
        have hn7 : n + (cn - 128) * 2 ^ s < 2 ^ (s + 7) := by
          have e : 2 ^ (s + 7) = 128 * 2 ^ s := by rw [Nat.pow_add]; omega
          rw [e]
          have : (cn - 128) * 2 ^ s ≤ 127 * 2 ^ s := Nat.mul_le_mul_right _ (by omega)
          omega
        rw [if_neg h1, g]
        have hh := ih (u + 1) (s + 7) (n + (cn - 128) * 2 ^ s) (i + 1) (hp.put b 0 (Rc k l (p + u + 1) 0)) (by rw [hpu1]; exact e2) (by omega) (by omega) hi9 hn7 (by rw [hpu1]; exact rd_put _ _ _)
        rw [put_put] at hh
        exact hh
theorem run_ruint (p : Nat) (e : Int) (hm : most < 18446744073709551616) (hl : l.length ≤ 1000000000) (h8 : ∀ c ∈ l, 0 ≤ c ∧ c < 256) (hpl : p ≤ l.length) (hp : Hp) (h : hp.rd b 0 = some (Rc k l p e)) :
    run cxX 45 [.ptr b 0 0, .sc (.int .u64 (most : Int))] hp = some (.sc (.int .u64 ((rU l p e most).1 : Nat)), hp.put b 0 (Rc k l (rU l p e most).2.1 (rU l p e most).2.2)) := by
  rw [E45]
  by_cases he : e = 0
  · subst he
    have hh := ruint_loop b k l most hm hl h8 p (l.drop p) 0 0 0 0 hp rfl (by omega) rfl (by omega) (by decide) h
    have er : rU l p 0 most = ((uF most (gU (l.drop p) 0 0 0)).1, p + (gU (l.drop p) 0 0 0).2.1, (uF most (gU (l.drop p) 0 0 0)).2) := by
      unfold rU uF
      rw [if_neg (by simp)]
      split
      · rfl
      · split <;> rfl
    rw [er]
    simpa using hh
  · have er : rU l p e most = (0, p, e) := by unfold rU; rw [if_pos he]
    rw [er]
    have hb : rB l p e = (0, p, e) := by
      unfold rB rL rE
      simp [he]
    have rb := run_rbyte b k l p e hp hl hpl h
    rw [hb, put_same h] at rb
    have e7 := ruint_err b k l p e he hp h (.int .u64 most) 0 0 0
    rw [put_same h]
    simp [B45_4_eq, rb, e7]
end
theorem rU_lt (l : List Int) (p : Nat) (e : Int) (most : Nat) (h8 : ∀ c ∈ l, 0 ≤ c ∧ c < 256) : (rU l p e most).1 < 18446744073709551616 := by
  unfold rU
  split
  · exact (by decide : 0 < 18446744073709551616)
  · split
    · exact (by decide : 0 < 18446744073709551616)
    · rename_i h
      split
      · exact (by decide : 0 < 18446744073709551616)
      · obtain ⟨m, m1, _, _, _, m5⟩ := gU_ok (l.drop p) 0 0 0 0 (fun c hc => h8 c (List.mem_of_mem_drop hc)) rfl (by omega) (Classical.not_not.mp h)
        show (gU (l.drop p) 0 0 0).1 < _
        rw [m1]
        simpa using m5
theorem and1 (n : Nat) (hn : n < 18446744073709551616) (t : TypeId) (x y : Operand) : binV Go.Proofs.Tryz.prog .and t x y (.int .u64 (n : Int)) (.int .u64 1) = some (.int .u64 ((n % 2 : Nat) : Int)) := by
  rw [binV_and]
  have e2 : (BitVec.ofInt IntKind.u64.bits (n : Int) &&& BitVec.ofInt IntKind.u64.bits 1).toNat = n % 2 := by
    show (BitVec.ofInt 64 (n : Int) &&& 1#64).toNat = _
    rw [BitVec.toNat_and, BitVec.toNat_ofInt]
    have e1 : ((n : Int) % ((2 ^ 64 : Nat) : Int)).toNat = n := by omega
    rw [e1]
    exact Nat.and_one_is_mod n
  rw [e2, wrapu64 (by omega) (by omega)]
theorem unV_neg (P : Program) (a : Int) : unV P .neg (.int .i64 a) = some (.int .i64 (IntKind.i64.wrap (0 - a))) := rfl
theorem run_rint (b k : Nat) (l : List Int) (p : Nat) (e : Int) (hl : l.length ≤ 1000000000) (h8 : ∀ c ∈ l, 0 ≤ c ∧ c < 256) (hpl : p ≤ l.length) (hp : Hp) (h : hp.rd b 0 = some (Rc k l p e)) :
    run cxX 107 [.ptr b 0 0] hp = some (.sc (.int .i64 (unzz (rU l p e 18446744073709551615).1)), hp.put b 0 (Rc k l (rU l p e 18446744073709551615).2.1 (rU l p e 18446744073709551615).2.2)) := by
  have ru := run_ruint b k l 18446744073709551615 p e (by decide) hl h8 hpl hp h
  have hu := rU_lt l p e 18446744073709551615 h8
  generalize rU l p e 18446744073709551615 = q at *
  obtain ⟨u, p', e'⟩ := q
  simp only at ru hu ⊢
  have sh : ∀ t x y, binV Go.Proofs.Tryz.prog .shr t x y (.int .u64 (u : Int)) (.int .u64 1) = some (.int .u64 ((u / 2 : Nat) : Int)) := by
    intro t x y
    rw [binV_shr _ _ _ _ _ _ _ _ (by omega)]
    congr 2
    rw [Int.fdiv_eq_ediv_of_nonneg _ (by decide)]
    show (u : Int) / 2 = _
    omega
  have an := and1 u hu
  have w1 : IntKind.i64.wrap ((u / 2 : Nat) : Int) = ((u / 2 : Nat) : Int) := wrap64 (by omega) (by omega)
  have w2 : IntKind.i64.wrap ((u % 2 : Nat) : Int) = ((u % 2 : Nat) : Int) := wrap64 (by omega) (by omega)
  have lit : (.int .u64 18446744073709551615 : Value) = .int .u64 ((18446744073709551615 : Nat) : Int) := rfl
  rw [E107]
  have fin : ∀ t x y, binV Go.Proofs.Tryz.prog .xor t x y (.int .i64 ((u / 2 : Nat) : Int)) (.int .i64 (IntKind.i64.wrap (0 - ((u % 2 : Nat) : Int)))) = some (.int .i64 (unzz u)) := by
    intro t x y
    rw [binV_xor]
    have hx : (BitVec.ofInt 64 ((u / 2 : Nat) : Int)).toNat = u / 2 := by rw [BitVec.toNat_ofInt]; omega
    by_cases h2 : u % 2 = 0
    · have e0 : IntKind.i64.wrap (0 - ((u % 2 : Nat) : Int)) = 0 := by rw [h2]; rfl
      have e1 : (BitVec.ofInt IntKind.i64.bits ((u / 2 : Nat) : Int) ^^^ BitVec.ofInt IntKind.i64.bits (IntKind.i64.wrap (0 - ((u % 2 : Nat) : Int)))).toNat = u / 2 := by
        rw [e0]
        show (BitVec.ofInt 64 ((u / 2 : Nat) : Int) ^^^ 0#64).toNat = _
        rw [BitVec.xor_zero, hx]
      rw [e1, w1]
      unfold unzz
      rw [if_pos h2]
    · have e0 : IntKind.i64.wrap (0 - ((u % 2 : Nat) : Int)) = -1 := by
        have : u % 2 = 1 := by omega
        rw [this]; rfl
      have e1 : (BitVec.ofInt IntKind.i64.bits ((u / 2 : Nat) : Int) ^^^ BitVec.ofInt IntKind.i64.bits (IntKind.i64.wrap (0 - ((u % 2 : Nat) : Int)))).toNat = 18446744073709551615 - u / 2 := by
        rw [e0]
        have e2 : BitVec.ofInt 64 (-1) = BitVec.allOnes 64 := by decide
        show (BitVec.ofInt 64 ((u / 2 : Nat) : Int) ^^^ BitVec.ofInt 64 (-1)).toNat = _
        rw [e2, BitVec.xor_allOnes, BitVec.toNat_not, hx]
      rw [e1]
      unfold unzz
      have hv : u / 2 < 9223372036854775808 := by omega
      generalize u / 2 = v at *
      have e3 : IntKind.i64.wrap ((18446744073709551615 - v : Nat) : Int) = -(v : Int) - 1 := by
        have e4 : ((18446744073709551615 - v : Nat) : Int) = 18446744073709551615 - (v : Int) := by omega
        rw [e4, IntKind.wrap_i64]
        omega
      rw [if_neg h2, e3]
  generalize ((u / 2 : Nat) : Int) = c1 at *
  generalize ((u % 2 : Nat) : Int) = c2 at *
  generalize unzz u = z at *
  simp at ru
  simp only [Int.zero_sub] at fin
  simp [ru, sh, an, w1, w2, unV_neg, fin, -binV_and, -binV_xor]
end Go.Proofs.YtchmioacjkbfcaaGreat.AI
