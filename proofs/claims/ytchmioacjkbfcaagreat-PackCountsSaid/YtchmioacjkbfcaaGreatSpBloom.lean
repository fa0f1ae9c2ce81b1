/- Filters: two as one, the same, may it be one, the places of a hash, a hash more, of many hashes. -/
import Derived.Test.YtchmioacjkbfcaaGreatEqBloom
import Derived.Test.YtchmioacjkbfcaaGreatEqLaw14
import Derived.Test.YtchmioacjkbfcaaGreatMe
import Derived.Test.YtchmioacjkbfcaaGreatMd
import Derived.Test.YtchmioacjkbfcaaGreatMe
namespace Go.Proofs.YtchmioacjkbfcaaGreat.AI
open Go
set_option linter.unusedVariables false
set_option linter.unusedSimpArgs false
set_option maxRecDepth 100000

/-- A filter. -/
abbrev Bv (bits hashes : Value) (S : AV) : AV := .agg [.sc bits, .sc hashes, S]
theorem merge_loop (B H : Value) (q0 q1 q2 : AV) (hp : Hp) : ∀ (n : Nat) (a b acc : List Int) (k k' : Nat), a.length + b.length = n → acc.length + n ≤ 1000000 →
    B127_3 (S k 1 (LI .u32 a)) (S k' 1 (LI .u32 b)) [q0, q1, q2] [.sc B, .sc H, S 2 1 (LI .u32 acc)] hp = some (Bv B H (S 2 1 (LI .u32 (acc ++ mrg a b))), hp) := by
  intro n
  induction n using Nat.strongRecOn with
  | _ n ih =>
  intro a b acc k k' hn hlen
  have hw : IntKind.i64.wrap ((a.length : Int) + (b.length : Int)) = ((a.length + b.length : Nat) : Int) := by
    rw [wrap64] <;> omega
  have ap : ∀ x : Int, appA 4 1 (S 2 1 (LI .u32 acc)) (S 1 1 [.sc (.int .u32 x)]) = some (S 2 1 (LI .u32 (acc ++ [x]))) := fun x => appI .u32 acc 2 (.inr rfl) 4 (by decide) x (by omega)
  have goA : ∀ (x : Int) (r : List Int), r.length + 1 + b.length ≤ n → B127_6 (S k 1 (LI .u32 (x :: r))) (S k' 1 (LI .u32 b)) [q0, q1, q2] [.sc B, .sc H, S 2 1 (LI .u32 acc)] hp = some (Bv B H (S 2 1 (LI .u32 (acc ++ x :: mrg r b))), hp) := by
    intro x r hle
    rw [B127_6_eq]
    have e := slcA_S (rk k) (LI .u32 (x :: r)) .i64 1 (by omega) (by simp only [lenI, List.length_cons]; omega)
    simp [getC, getSc, ap, e, putN, ih (r.length + b.length) (by omega) r b (acc ++ [x]) _ k' rfl (by simp only [List.length_append, List.length_cons, List.length_nil]; omega)]
  have goB : ∀ (y : Int) (r : List Int), a.length + (r.length + 1) ≤ n → B127_8 (S k 1 (LI .u32 a)) (S k' 1 (LI .u32 (y :: r))) [q0, q1, q2] [.sc B, .sc H, S 2 1 (LI .u32 acc)] hp = some (Bv B H (S 2 1 (LI .u32 (acc ++ y :: mrg a r))), hp) := by
    intro x r hle
    rw [B127_8_eq]
    have e := slcA_S (rk k') (LI .u32 (x :: r)) .i64 1 (by omega) (by simp only [lenI, List.length_cons]; omega)
    simp [getC, getSc, ap, e, putN, ih (a.length + r.length) (by omega) a r (acc ++ [x]) k _ rfl (by simp only [List.length_append, List.length_cons, List.length_nil]; omega)]
  have goC : ∀ (x y : Int) (r s : List Int), r.length + s.length + 2 ≤ n → B127_4 (S k 1 (LI .u32 (x :: r))) (S k' 1 (LI .u32 (y :: s))) [q0, q1, q2] [.sc B, .sc H, S 2 1 (LI .u32 acc)] hp = some (Bv B H (S 2 1 (LI .u32 (acc ++ x :: mrg r s))), hp) := by
    intro x y r s hle
    rw [B127_4_eq]
    have e := slcA_S (rk k) (LI .u32 (x :: r)) .i64 1 (by omega) (by simp only [lenI, List.length_cons]; omega)
    have e' := slcA_S (rk k') (LI .u32 (y :: s)) .i64 1 (by omega) (by simp only [lenI, List.length_cons]; omega)
    simp [getC, getSc, ap, e, e', putN, ih (r.length + s.length) (by omega) r s (acc ++ [x]) _ _ rfl (by simp only [List.length_append, List.length_cons, List.length_nil]; omega)]
  rw [B127_3_eq]
  match a, b with
  | [], [] => simp [getN, putN, Bv]
  | [], y :: s =>
    have h := goB y s (by simp at hn ⊢; omega)
    simp at h
    have hw' : IntKind.i64.wrap ((s.length : Int) + 1) = (s.length : Int) + 1 := wrap64 (by omega) (by simp at hn; omega)
    have p : (0 : Int) < (s.length : Int) + 1 := by omega
    have z : ¬((s.length : Int) + 1 = 0) := by omega
    simp [hw', p, z, B127_7_eq, h]
  | x :: r, [] =>
    have h := goA x r (by simp at hn ⊢; omega)
    simp at h
    have hw' : IntKind.i64.wrap ((r.length : Int) + 1) = (r.length : Int) + 1 := wrap64 (by omega) (by simp at hn; omega)
    have p : (0 : Int) < (r.length : Int) + 1 := by omega
    simp [hw', p, h]
  | x :: r, y :: s =>
    have h1 := goA x r (by simp at hn ⊢; omega)
    have h2 := goB y s (by simp at hn ⊢; omega)
    have h3 := goC x y r s (by simp at hn ⊢; omega)
    have hw' : IntKind.i64.wrap ((r.length : Int) + 1 + ((s.length : Int) + 1)) = (r.length : Int) + 1 + ((s.length : Int) + 1) := wrap64 (by omega) (by simp at hn; omega)
    have p : (0 : Int) < (r.length : Int) + 1 + ((s.length : Int) + 1) := by omega
    have p' : (0 : Int) < (r.length : Int) + 1 := by omega
    have z : ¬((s.length : Int) + 1 = 0) := by omega
    have z' : ¬((r.length : Int) + 1 = 0) := by omega
    rw [mrg_cons]
    by_cases hxy : x < y
    · simp [hw', p, p', z, z', getSc, hxy, h1]
    · by_cases hyx : y < x
      · simp [hw', p, p', z, z', getSc, hxy, hyx, h2, B127_7_eq]
      · simp [hw', p, p', z, z', getSc, hxy, hyx, h3, B127_7_eq]
/-- Two filters as one. -/
theorem run_merge (B H B' H' : Value) (a b : List Int) (k k' : Nat) (hp : Hp) (hlen : a.length + b.length ≤ 1000000) :
    run cxX 127 [Bv B H (S k 1 (LI .u32 a)), Bv B' H' (S k' 1 (LI .u32 b))] hp = some (Bv B H (S 2 1 (LI .u32 (mrg a b))), hp) := by
  rw [E127]
  have := merge_loop B H (.sc (.int .i64 0)) (.sc (.int .i64 0)) (S 2 1 []) hp (a.length + b.length) a b [] (rk k) (rk k') rfl (by simpa using hlen)
  simp at this
  simp [Bv, getSc, getC]
  exact this
/-! ### Same -/
theorem same_loop (B H B' H' : AV) (a b : List Int) (k k' : Nat) (hab : a.length = b.length) (hl : a.length ≤ 1000000) (hp : Hp) : ∀ (r s : List Int) (i : Nat), a.drop i = r → b.drop i = s →
    B119_4 (.int .i64 a.length) (.int .i64 i) [B, H, S k 1 (LI .u32 a)] [B', H', S k' 1 (LI .u32 b)] hp = some (.sc (.bool (decide (r = s))), hp) := by
  intro r
  induction r with
  | nil =>
    intro s i hr hs
    have h1 := drop_nil hr
    have h2 : s = [] := by rw [← hs]; exact List.drop_eq_nil_of_le (by omega)
    have hlt : ¬((i : Int) < (a.length : Int)) := by omega
    rw [B119_4_eq]
    simp [hlt, h2]
  | cons x r ih =>
    intro s i hr hs
    obtain ⟨e1, e2, hi, e3⟩ := drop_cons hr
    rw [B119_4_eq]
    have hw : IntKind.i64.wrap ((i : Int) + 1) = ((i + 1 : Nat) : Int) := by rw [wrap64] <;> omega
    cases s with
    | nil => have := drop_nil hs; omega
    | cons y s =>
      obtain ⟨f1, f2, hj, f3⟩ := drop_cons hs
      have h := ih s (i + 1) e2 f2
      simp at h hw
      by_cases e : x = y
      · simp [hi, hj, getC, getSc, e3, f3, e, hw, h]
      · simp [hi, hj, getC, getSc, e3, f3, e]
/-- Two filters of the same bits and hashes. -/
theorem run_same (B H : Int) (B' H' : Int) (a b : List Int) (k k' : Nat) (hp : Hp) (ha : a.length ≤ 1000000) (hb : b.length ≤ 1000000) :
    run cxX 119 [Bv (.int .i64 B) (.int .i64 H) (S k 1 (LI .u32 a)), Bv (.int .i64 B') (.int .i64 H') (S k' 1 (LI .u32 b))] hp = some (.sc (.bool (decide (B = B' ∧ H = H' ∧ a = b))), hp) := by
  rw [E119]
  by_cases h1 : B = B'
  · by_cases h2 : H = H'
    · by_cases h3 : a.length = b.length
      · have h := same_loop (.sc (.int .i64 B)) (.sc (.int .i64 H)) (.sc (.int .i64 B')) (.sc (.int .i64 H')) a b (rk k) (rk k') h3 ha hp a b 0 rfl rfl
        simp at h
        subst h1 h2
        rw [h3] at h
        simp [getSc, getC, h3, B119_3_eq, h]
      · have h4 : ¬(a = b) := fun e => h3 (by rw [e])
        have h5 : ¬((a.length : Int) = (b.length : Int)) := by omega
        simp [getSc, getC, h1, h2, h4, h5, B119_2_eq]
    · simp [getSc, getC, h1, h2, B119_2_eq]
  · simp [getSc, getC, h1, B119_2_eq]
/-! ### Check -/
def chkL (B : Int) : Option Int → List Int → Int
  | _, [] => 0
  | p, n :: r => if n ≥ B then 2 else match p with
    | none => chkL B (some n) r
    | some q => if n ≤ q then 8 else chkL B (some n) r
def bchk (B H : Int) (l : List Int) : Int := if B < 1 ∨ B > 4096 ∨ H < 1 ∨ H > 8 then 2 else chkL B none l
/-- Numbers of 32 bits. -/
def In32 (l : List Int) : Prop := ∀ n ∈ l, 0 ≤ n ∧ n < 4294967296
theorem check_loop (B : Int) (H : AV) (l : List Int) (k k' : Nat) (hl : l.length ≤ 1000000) (h32 : In32 l) (hp : Hp) : ∀ (r : List Int) (i : Nat) (p : Option Int), l.drop i = r →
    (match p with | none => i = 0 | some q => ∃ j, i = j + 1 ∧ l[j]? = some q) →
    B65_4 (S k 1 (LI .u32 l)) (.int .i64 l.length) (.int .i64 i) [.sc (.int .i64 B), H, S k' 1 (LI .u32 l)] hp = some (.sc (.int .i64 (chkL B p r)), hp) := by
  intro r
  induction r with
  | nil =>
    intro i p hr hp'
    have := drop_nil hr
    have hlt : ¬((i : Int) < (l.length : Int)) := by omega
    rw [B65_4_eq]
    simp [hlt, chkL]
  | cons n r ih =>
    intro i p hr hp'
    obtain ⟨e1, e2, hi, e3⟩ := drop_cons hr
    have h := ih (i + 1) (some n) e2 ⟨i, rfl, e1⟩
    have hw : IntKind.i64.wrap ((i : Int) + 1) = ((i + 1 : Nat) : Int) := by rw [wrap64] <;> omega
    have hn := h32 n (List.mem_of_getElem? e1)
    have hwn : IntKind.i64.wrap n = n := wrap64 (by omega) (by omega)
    rw [B65_4_eq]
    by_cases hB : B ≤ n
    · simp [hi, e1, e3, getSc, cv_30_3, hwn, hB, chkL]
    · cases p with
      | none =>
        obtain rfl : i = 0 := hp'
        simp at h e1 hw
        simp [hi, e1, e3, getSc, cv_30_3, hwn, hB, chkL, B65_10_eq, hw, h]
      | some q =>
        obtain ⟨j, rfl, ej⟩ := hp'
        have hw2 : IntKind.i64.wrap (((j + 1 : Nat) : Int) - 1) = (j : Int) := by rw [wrap64] <;> omega
        have hpos : (0 : Int) < (j : Int) + 1 := by omega
        have hi2 : (j : Int) + 1 < (l.length : Int) := by omega
        have hge : (0 : Int) ≤ (j : Int) + 1 := by omega
        have htn : ((j : Int) + 1).toNat = j + 1 := by omega
        simp at h hw hw2
        by_cases hq : n ≤ q
        · simp [hi2, hge, htn, e1, e3, ej, getSc, getC, cv_30_3, hwn, hB, chkL, hpos, hw2, hq, B65_9_eq]
        · simp [hi2, hge, htn, e1, e3, ej, getSc, getC, cv_30_3, hwn, hB, chkL, hpos, hw2, hq, B65_10_eq, hw, h]
theorem run_check (B H : Int) (l : List Int) (k : Nat) (hl : l.length ≤ 1000000) (h32 : In32 l) (hp : Hp) :
    run cxX 65 [Bv (.int .i64 B) (.int .i64 H) (S k 1 (LI .u32 l))] hp = some (.sc (.int .i64 (bchk B H l)), hp) := by
  rw [E65]
  have h := check_loop B (.sc (.int .i64 H)) l (rk k) (rk k) hl h32 hp l 0 none rfl rfl
  simp at h
  unfold bchk
  by_cases h1 : B < 1
  · simp [getSc, h1, B65_2_eq]
  · by_cases h2 : 4096 < B
    · simp [getSc, h1, h2, B65_2_eq]
    · by_cases h3 : H < 1
      · simp [getSc, h1, h2, h3, B65_2_eq]
      · by_cases h4 : 8 < H
        · simp [getSc, h1, h2, h3, h4, B65_2_eq]
        · simp [getSc, getC, h1, h2, h3, h4, B65_3_eq, h]
/-! ### Places -/
/-- Where the walk over the bits begins, and how far each step goes. -/
def at0 (h : Int) : Int := IntKind.u32.wrap h
def stp (h : Int) : Int := IntKind.u32.wrap (BitVec.ofInt 32 (IntKind.u32.wrap (h.fdiv (2 ^ 32))) ||| BitVec.ofInt 32 1).toNat
def plc (B st : Int) : Nat → Int → List Int
  | 0, _ => []
  | n + 1, a => a % B :: plc B st n (IntKind.u32.wrap (a + st))
theorem plc_len (B st : Int) : ∀ (n : Nat) (a : Int), (plc B st n a).length = n
  | 0, _ => rfl
  | n + 1, a => by simp [plc, plc_len B st n]
theorem plc_in (B st : Int) (hB : 0 < B) : ∀ (n : Nat) (a x : Int), x ∈ plc B st n a → 0 ≤ x ∧ x < B
  | 0, _, x, h => by simp [plc] at h
  | n + 1, a, x, h => by
    rcases List.mem_cons.mp h with rfl | h
    · exact ⟨Int.emod_nonneg _ (by omega), Int.emod_lt_of_pos _ hB⟩
    · exact plc_in B st hB n _ x h
theorem wrap32_in (z : Int) : 0 ≤ IntKind.u32.wrap z ∧ IntKind.u32.wrap z < 4294967296 := by
  rw [IntKind.wrap_u32]; omega
theorem places_loop (B H st : Int) (H' : AV) (q : AV) (hB : 1 ≤ B ∧ B ≤ 4096) (hH : H ≤ 8) (hp : Hp) : ∀ (n i : Nat) (a : Int) (acc : List Int), H = (i + n : Nat) → 0 ≤ a → acc.length ≤ i →
    B126_6 (S 2 1 (LI .u32 acc)) (.int .u32 a) (.int .u32 st) (.int .i64 H) (.int .i64 i) [.sc (.int .i64 B), H', q] hp = some (S 2 1 (LI .u32 (acc ++ plc B st n a)), hp) := by
  intro n
  induction n with
  | zero =>
    intro i a acc hi ha hc
    rw [B126_6_eq]
    have hlt : ¬((i : Int) < H) := by omega
    simp [hlt, plc]
  | succ n ih =>
    intro i a acc hi ha hc
    rw [B126_6_eq]
    have hlt : (i : Int) < H := by omega
    have hw : IntKind.i64.wrap ((i : Int) + 1) = ((i + 1 : Nat) : Int) := by rw [wrap64] <;> omega
    have hwB : IntKind.u32.wrap B = B := wrapu32 (by omega) (by omega)
    have h := ih (i + 1) (IntKind.u32.wrap (a + st)) (acc ++ [a % B]) (by omega) (wrap32_in _).1 (by simp; omega)
    have ap := appI .u32 acc 2 (.inr rfl) 4 (by decide) (a % B) (by omega)
    have hr : ∀ x y, binV Go.Proofs.Tryz.prog .rem 30 x y (.int .u32 a) (.int .u32 B) = some (.int .u32 (a % B)) := by
      intro x y
      rw [binV_rem _ _ _ _ _ _ _ (by omega), tmod_pos ha]
    simp at h hw
    simp [hlt, getSc, cv_3_30, hwB, hr, ap, hw, h, plc]
/-- The places of a hash: none of a filter that may not be. -/
def pls (B H : Int) (l : List Int) (h : Int) : List Int := if bchk B H l = 0 then plc B (stp h) H.toNat (at0 h) else []
theorem run_places (B H : Int) (l : List Int) (k : Nat) (h : Int) (hl : l.length ≤ 1000000) (h32 : In32 l) (hp : Hp) :
    run cxX 126 [Bv (.int .i64 B) (.int .i64 H) (S k 1 (LI .u32 l)), .sc (.int .u64 h)] hp = some (S 2 1 (LI .u32 (pls B H l h)), hp) := by
  rw [E126]
  have hc := run_check B H l (rk k) hl h32 hp0
  unfold pls
  by_cases h0 : bchk B H l = 0
  · have hr : ¬(B < 1 ∨ B > 4096 ∨ H < 1 ∨ H > 8) := by
      intro h'
      rw [bchk, if_pos h'] at h0
      cases h0
    have hh := places_loop B H (stp h) (.sc (.int .i64 H)) (S (rk k) 1 (LI .u32 l)) (by omega) (by omega) hp H.toNat 0 (at0 h) [] (by omega) (wrap32_in _).1 (by simp)
    simp at hh
    have hs : ∀ x y, binV Go.Proofs.Tryz.prog .shr 76 x y (.int .u64 h) (.int .u64 32) = some (.int .u64 (h.fdiv (2 ^ 32))) := by
      intro x y
      rw [binV_shr _ _ _ _ _ _ _ _ (by omega)]
      rfl
    simp [getN, hc, h0, cv_76_30, hs, getSc]
    exact hh
  · simp [getN, hc, h0]
/-! ### has, Has -/
theorem pls_len (B H : Int) (l : List Int) (h : Int) : (pls B H l h).length ≤ 8 := by
  unfold pls
  split
  · rename_i h0
    rw [plc_len]
    have hr : ¬(B < 1 ∨ B > 4096 ∨ H < 1 ∨ H > 8) := by
      intro h'
      rw [bchk, if_pos h'] at h0
      cases h0
    omega
  · simp
/-! ### Add -/
/-- A rising row within the bits. -/
def Good (B : Int) (l : List Int) : Prop := Rise l ∧ ∀ n ∈ l, 0 ≤ n ∧ n < B
theorem Good.in32 {B : Int} {l : List Int} (h : Good B l) (hB : B ≤ 4096) : In32 l := fun n hn => by have := h.2 n hn; omega
theorem Good.nil (B : Int) : Good B [] := ⟨List.Pairwise.nil, by simp⟩
theorem Good.mrg {B : Int} {a b : List Int} (ha : Good B a) (hb : Good B b) : Good B (mrg a b) :=
  ⟨rise_mrg a b ha.1 hb.1, fun n hn => ((mem_mrg n a b).mp hn).elim (ha.2 n) (hb.2 n)⟩
theorem Good.one {B n : Int} (h : 0 ≤ n ∧ n < B) : Good B [n] := ⟨by simp, by simpa using h⟩
/-- Of a rising row within B numbers there are no more than B. -/
theorem rise_len {B : Int} : ∀ {l : List Int} {a : Int}, Rise l → (∀ n ∈ l, a ≤ n ∧ n < B) → (l.length : Int) ≤ B - a ∨ l = []
  | [], _, _, _ => .inr rfl
  | x :: l, a, h, hb => by
    have h' := List.pairwise_cons.mp h
    have hx := hb x (by simp)
    rcases rise_len (a := x + 1) h'.2 (fun n hn => ⟨by have := h'.1 n hn; omega, (hb n (by simp [hn])).2⟩) with h2 | h2
    · left; simp; omega
    · left; subst h2; simp; omega
theorem Good.len {B : Int} {l : List Int} (h : Good B l) (hB : B ≤ 4096) : l.length ≤ 4096 := by
  rcases rise_len (a := 0) h.1 h.2 with h' | h'
  · omega
  · simp [h']
theorem chkL_good {B : Int} : ∀ (l : List Int) (p : Option Int), (∀ n ∈ l, 0 ≤ n ∧ n < B) → (match p with | none => Rise l | some q => Rise (q :: l)) → chkL B p l = 0
  | [], _, _, _ => rfl
  | n :: l, p, h, hp => by
    have hn := h n (by simp)
    have h0 : ¬(n ≥ B) := by omega
    simp only [chkL, h0, if_false]
    cases p with
    | none => exact chkL_good l (some n) (fun m hm => h m (by simp [hm])) hp
    | some q =>
      have hp : Rise (q :: n :: l) := hp
      have h1 := (List.pairwise_cons.mp hp).1 n (by simp)
      have h2 : ¬(n ≤ q) := by omega
      simp only [h2, if_false]
      exact chkL_good l (some n) (fun m hm => h m (by simp [hm])) (List.pairwise_cons.mp hp).2
theorem chk_good {B H : Int} {l : List Int} (hB : 1 ≤ B ∧ B ≤ 4096) (hH : 1 ≤ H ∧ H ≤ 8) (h : Good B l) : bchk B H l = 0 := by
  unfold bchk
  rw [if_neg (by omega)]
  exact chkL_good l none h.2 h.1
/-- The places of a hash, of a filter that may be. -/
def plg (B H h : Int) : List Int := plc B (stp h) H.toNat (at0 h)
theorem pls_good {B H : Int} {l : List Int} (hB : 1 ≤ B ∧ B ≤ 4096) (hH : 1 ≤ H ∧ H ≤ 8) (h : Good B l) (x : Int) : pls B H l x = plg B H x := by
  unfold pls
  rw [if_pos (chk_good hB hH h)]; rfl
theorem plg_in {B H h : Int} (hB : 1 ≤ B) : ∀ n ∈ plg B H h, 0 ≤ n ∧ n < B := fun n hn => plc_in B _ (by omega) _ _ n hn
theorem plg_len (B H h : Int) : (plg B H h).length = H.toNat := plc_len _ _ _ _
/-- Numbers laid into a row, one by one. -/
def adds (l : List Int) : List Int → List Int
  | [] => l
  | n :: r => adds (mrg l [n]) r
theorem adds_good {B : Int} : ∀ {r l : List Int}, Good B l → (∀ n ∈ r, 0 ≤ n ∧ n < B) → Good B (adds l r)
  | [], _, h, _ => h
  | n :: r, l, h, hr => adds_good (r := r) (h.mrg (Good.one (hr n (by simp)))) fun m hm => hr m (by simp [hm])
theorem mem_adds (x : Int) : ∀ (r l : List Int), x ∈ adds l r ↔ x ∈ l ∨ x ∈ r
  | [], l => by simp [adds]
  | n :: r, l => by
    rw [adds, mem_adds x r, mem_mrg]
    simp [or_assoc]
theorem add_loop (B H : Int) (q0 q1 q2 q : AV) (k' : Nat) (ps : List Int) (hB : 1 ≤ B ∧ B ≤ 4096) (hps : ps.length ≤ 8) (hin : ∀ n ∈ ps, 0 ≤ n ∧ n < B) (hp : Hp) : ∀ (r : List Int) (i : Nat) (l : List Int) (k : Nat), ps.drop i = r → Good B l →
    B71_3 (S k' 1 (LI .u32 ps)) (.int .i64 ps.length) (.int .i64 i) [.sc (.int .i64 B), .sc (.int .i64 H), q] [q0, q1, q2] [.sc (.int .i64 B), .sc (.int .i64 H), S k 1 (LI .u32 l)] hp = some (Bv (.int .i64 B) (.int .i64 H) (S (if r = [] then k else 2) 1 (LI .u32 (adds l r))), hp) := by
  intro r
  induction r with
  | nil =>
    intro i l k hr hg
    have := drop_nil hr
    have hlt : ¬((i : Int) < (ps.length : Int)) := by omega
    rw [B71_3_eq]
    simp [hlt, getN, putN, adds]
  | cons x r ih =>
    intro i l k hr hg
    obtain ⟨e1, e2, hi, e3⟩ := drop_cons hr
    have hx := hin x (List.mem_of_getElem? e1)
    have h := ih (i + 1) (mrg l [x]) 2 e2 (hg.mrg (Good.one hx))
    have hw : IntKind.i64.wrap ((i : Int) + 1) = ((i + 1 : Nat) : Int) := by rw [wrap64] <;> omega
    have hlen := hg.len hB.2
    have hm := fun hp => run_merge (.int .i64 B) (.int .i64 H) (.int .i64 B) (.int .i64 H) l [x] (rk k) 0 hp (by simp; omega)
    rw [B71_3_eq]
    simp [LI] at h hw hm
    simp [hi, e3, getSc, getC, getN, putN, adds, LI, hm, hw, h]
theorem run_add (B H : Int) (l : List Int) (k : Nat) (h : Int) (hB : 1 ≤ B ∧ B ≤ 4096) (hH : 1 ≤ H ∧ H ≤ 8) (hg : Good B l) (hp : Hp) :
    run cxX 71 [Bv (.int .i64 B) (.int .i64 H) (S k 1 (LI .u32 l)), .sc (.int .u64 h)] hp = some (Bv (.int .i64 B) (.int .i64 H) (S 2 1 (LI .u32 (adds l (plg B H h)))), hp) := by
  rw [E71]
  have hlen := hg.len hB.2
  have h1 := fun hp => run_places B H l (rk k) h (by omega) (hg.in32 hB.2) hp
  have hl := plg_len B H h
  have hne : plg B H h ≠ [] := by
    intro e
    rw [e] at hl
    simp at hl
    omega
  have h2 := add_loop B H (.sc (.int .i64 0)) (.sc (.int .i64 0)) (S 2 1 []) (S (rk k) 1 (LI .u32 l)) 2 (plg B H h) hB (by omega) (plg_in hB.1) hp _ 0 l (rk k) rfl hg
  rw [pls_good hB hH hg h] at h1
  simp [hne] at h2
  simp [getN, putN, h1, h2]
/-- A filter of hashes. -/
def blm (B H : Int) : List Int → List Int → List Int
  | acc, [] => acc
  | acc, h :: r => blm B H (adds acc (plg B H h)) r
theorem blm_good {B H : Int} (hB : 1 ≤ B) : ∀ {r acc : List Int}, Good B acc → Good B (blm B H acc r)
  | [], _, h => h
  | x :: r, acc, h => blm_good hB (r := r) (adds_good h (plg_in hB))
theorem mem_blm (B H n : Int) : ∀ (r acc : List Int), n ∈ blm B H acc r ↔ n ∈ acc ∨ ∃ h ∈ r, n ∈ plg B H h
  | [], acc => by simp [blm]
  | x :: r, acc => by
    rw [blm, mem_blm B H n r, mem_adds]
    simp [or_assoc]
theorem bloom_loop (B H : Int) (q0 q1 q2 : AV) (k : Nat) (hs : List Int) (hB : 1 ≤ B ∧ B ≤ 4096) (hH : 1 ≤ H ∧ H ≤ 8) (hl : hs.length ≤ 1000000) (hp : Hp) : ∀ (r : List Int) (i : Nat) (l : List Int), hs.drop i = r → Good B l →
    B29_3 (S k 1 (LI .u64 hs)) (.int .i64 hs.length) (.int .i64 i) [q0, q1, q2] [.sc (.int .i64 B), .sc (.int .i64 H), S 2 1 (LI .u32 l)] hp = some (Bv (.int .i64 B) (.int .i64 H) (S 2 1 (LI .u32 (blm B H l r))), hp) := by
  intro r
  induction r with
  | nil =>
    intro i l hr hg
    have := drop_nil hr
    have hlt : ¬((i : Int) < (hs.length : Int)) := by omega
    rw [B29_3_eq]
    simp [hlt, getN, putN, blm]
  | cons x r ih =>
    intro i l hr hg
    obtain ⟨e1, e2, hi, e3⟩ := drop_cons hr
    have h := ih (i + 1) (adds l (plg B H x)) e2 (adds_good hg (plg_in hB.1))
    have hw : IntKind.i64.wrap ((i : Int) + 1) = ((i + 1 : Nat) : Int) := by rw [wrap64] <;> omega
    have ha := fun hp => run_add B H l 3 x hB hH hg hp
    rw [B29_3_eq]
    simp at h hw
    simp [hi, e3, getSc, getN, putN, blm, ha, hw, h]
theorem run_bloom (b h : Int) (k : Nat) (hs : List Int) (hb : 0 ≤ b ∧ b < 65536) (hh : 0 ≤ h ∧ h < 256) (hl : hs.length ≤ 1000000) (hp : Hp) :
    run cxX 29 [.sc (.int .u16 b), .sc (.int .u8 h), S k 1 (LI .u64 hs)] hp = some (Bv (.int .i64 (1 + b % 300)) (.int .i64 (1 + h % 8)) (S 2 1 (LI .u32 (blm (1 + b % 300) (1 + h % 8) [] hs))), hp) := by
  rw [E29]
  have h1 : ∀ x y, binV Go.Proofs.Tryz.prog .rem 34 x y (.int .u16 b) (.int .u16 300) = some (.int .u16 (b % 300)) := by
    intro x y; rw [binV_rem _ _ _ _ _ _ _ (by omega), tmod_pos hb.1]
  have h2 : ∀ x y, binV Go.Proofs.Tryz.prog .rem 5 x y (.int .u8 h) (.int .u8 8) = some (.int .u8 (h % 8)) := by
    intro x y; rw [binV_rem _ _ _ _ _ _ _ (by omega), tmod_pos hh.1]
  have w1 : IntKind.i64.wrap (b % 300) = b % 300 := wrap64 (by omega) (by omega)
  have w2 : IntKind.i64.wrap (h % 8) = h % 8 := wrap64 (by omega) (by omega)
  have w3 : IntKind.i64.wrap (1 + b % 300) = 1 + b % 300 := wrap64 (by omega) (by omega)
  have w4 : IntKind.i64.wrap (1 + h % 8) = 1 + h % 8 := wrap64 (by omega) (by omega)
  have hq := bloom_loop (1 + b % 300) (1 + h % 8) (.sc (.int .i64 0)) (.sc (.int .i64 0)) (S 2 1 []) (rk k) hs (by omega) (by omega) hl hp hs 0 [] rfl (Good.nil _)
  simp at hq
  simp [h1, h2, cv_34_3, cv_5_3, w1, w2, w3, w4, hq]
theorem plg_ne {B H h : Int} (hH : 1 ≤ H) : plg B H h ≠ [] := by
  intro e
  have := plg_len B H h
  rw [e] at this
  simp at this
  omega
end Go.Proofs.YtchmioacjkbfcaaGreat.AI
