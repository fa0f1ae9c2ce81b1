/- Filters: the places of a hash; what may have been seen; a hash more; a filter of hashes. -/
import Derived.Test.YtmnefpfbgadnkaaBloomB
namespace Go.Proofs.Ytmnefpfbgadnkaa.AI
open Go
set_option linter.unusedVariables false
set_option linter.unusedSimpArgs false

/-! ### Places -/
/-- Where the walk over the bits begins, and how far each step goes. -/
def at0 (h : Int) : Int := IntKind.u32.wrap h
def stp (h : Int) : Int := IntKind.u32.wrap (BitVec.ofInt 32 (IntKind.u32.wrap (h.fdiv (2 ^ 32))) ||| BitVec.ofInt 32 1).toNat
def plc (B st : Int) : Nat → Int → List Int
  | 0, _ => []
  | n + 1, a => a % B :: plc B st n (IntKind.u32.wrap (a + st))
theorem plc_len (B st : Int) : ∀ (n : Nat) (a : Int), (plc B st n a).length = n
  | 0, _ => rfl
  | n + 1, a => by simp [plc, plc_len B st n]
theorem plc_in (B st : Int) (hB : 0 < B) : ∀ (n : Nat) (a x : Int), x ∈ plc B st n a → 0 ≤ x ∧ x < B
  | 0, _, x, h => by simp [plc] at h
  | n + 1, a, x, h => by
    rcases List.mem_cons.mp h with rfl | h
    · exact ⟨Int.emod_nonneg _ (by omega), Int.emod_lt_of_pos _ hB⟩
    · exact plc_in B st hB n _ x h
theorem wrap32_in (z : Int) : 0 ≤ IntKind.u32.wrap z ∧ IntKind.u32.wrap z < 4294967296 := by
  rw [IntKind.wrap_u32]; omega
theorem places_loop (B H st : Int) (H' : AV) (q : AV) (hB : 1 ≤ B ∧ B ≤ 4096) (hH : H ≤ 8) (hp : Hp) : ∀ (n i : Nat) (a : Int) (acc : List Int), H = (i + n : Nat) → 0 ≤ a → acc.length ≤ i →
    B16_6 (S 2 1 (LI .u32 acc)) (.int .u32 a) (.int .u32 st) (.int .i64 H) (.int .i64 i) [.sc (.int .i64 B), H', q] hp = some (S 2 1 (LI .u32 (acc ++ plc B st n a)), hp) := by
  intro n
  induction n with
  | zero =>
    intro i a acc hi ha hc
    rw [B16_6_eq]
    have hlt : ¬((i : Int) < H) := by omega
    simp [hlt, plc]
  | succ n ih =>
    intro i a acc hi ha hc
    rw [B16_6_eq]
    have hlt : (i : Int) < H := by omega
    have hw : IntKind.i64.wrap ((i : Int) + 1) = ((i + 1 : Nat) : Int) := by rw [wrap64] <;> omega
    have hwB : IntKind.u32.wrap B = B := wrapu32 (by omega) (by omega)
    have h := ih (i + 1) (IntKind.u32.wrap (a + st)) (acc ++ [a % B]) (by omega) (wrap32_in _).1 (by simp; omega)
    have ap := appI .u32 acc 2 (.inr rfl) 4 (by decide) (a % B) (by omega)
    have hr : ∀ x y, binV Go.Proofs.Try.prog .rem 29 x y (.int .u32 a) (.int .u32 B) = some (.int .u32 (a % B)) := by
      intro x y
      rw [binV_rem _ _ _ _ _ _ _ (by omega), tmod_pos ha]
    simp at h hw
    simp [hlt, getSc, cv_3_29, hwB, hr, ap, hw, h, plc]
/-- The places of a hash: none of a filter that may not be. -/
def pls (B H : Int) (l : List Int) (h : Int) : List Int := if chk B H l = 0 then plc B (stp h) H.toNat (at0 h) else []
theorem run_places (B H : Int) (l : List Int) (k : Nat) (h : Int) (hl : l.length ≤ 1000000) (h32 : In32 l) (hp : Hp) :
    run cxX 16 [Bl (.int .i64 B) (.int .i64 H) (S k 1 (LI .u32 l)), .sc (.int .u64 h)] hp = some (S 2 1 (LI .u32 (pls B H l h)), hp) := by
  rw [E16]
  have hc := run_check B H l (rk k) hl h32 hp.emp
  unfold pls
  by_cases h0 : chk B H l = 0
  · have hr : ¬(B < 1 ∨ B > 4096 ∨ H < 1 ∨ H > 8) := by
      intro h'
      rw [chk, if_pos h'] at h0
      cases h0
    have hh := places_loop B H (stp h) (.sc (.int .i64 H)) (S (rk k) 1 (LI .u32 l)) (by omega) (by omega) hp H.toNat 0 (at0 h) [] (by omega) (wrap32_in _).1 (by simp)
    simp at hh
    have hs : ∀ x y, binV Go.Proofs.Try.prog .shr 27 x y (.int .u64 h) (.int .u64 32) = some (.int .u64 (h.fdiv (2 ^ 32))) := by
      intro x y
      rw [binV_shr _ _ _ _ _ _ _ _ (by omega)]
      rfl
    simp [getN, hc, h0, cv_27_29, hs, getSc]
    exact hh
  · simp [getN, hc, h0]
/-! ### has, Has -/
theorem has_loop (n : Int) (l : List Int) (k : Nat) (hl : l.length ≤ 1000000) (hp : Hp) : ∀ (r : List Int) (i : Nat), l.drop i = r →
    B32_2 (.int .u32 n) (S k 1 (LI .u32 l)) (.int .i64 l.length) (.int .i64 i) hp = some (.sc (.bool (decide (n ∈ r))), hp) := by
  intro r
  induction r with
  | nil =>
    intro i hr
    have := drop_nil hr
    have hlt : ¬((i : Int) < (l.length : Int)) := by omega
    rw [B32_2_eq]
    simp [hlt]
  | cons x r ih =>
    intro i hr
    obtain ⟨e1, e2, hi, e3⟩ := drop_cons hr
    have h := ih (i + 1) e2
    have hw : IntKind.i64.wrap ((i : Int) + 1) = ((i + 1 : Nat) : Int) := by rw [wrap64] <;> omega
    rw [B32_2_eq]
    simp at h hw
    by_cases hx : x = n
    · simp [hi, e3, getSc, hx]
    · have hx' : ¬(n = x) := fun e => hx e.symm
      simp [hi, e3, getSc, hx, hx', hw, h]
theorem run_has1 (n : Int) (l : List Int) (k : Nat) (hl : l.length ≤ 1000000) (hp : Hp) : run cxX 32 [S k 1 (LI .u32 l), .sc (.int .u32 n)] hp = some (.sc (.bool (decide (n ∈ l))), hp) := by
  rw [E32]
  have h := has_loop n l (rk k) hl hp l 0 rfl
  simp at h
  simp [h]
theorem hasP_loop (q q' : AV) (ps l : List Int) (k k' k'' : Nat) (hl : l.length ≤ 1000000) (hps : ps.length ≤ 1000000) (hp : Hp) : ∀ (r : List Int) (i : Nat), ps.drop i = r →
    B17_3 (S k 1 (LI .u32 ps)) (S k' 1 (LI .u32 ps)) (.int .i64 ps.length) (.int .i64 i) [q, q', S k'' 1 (LI .u32 l)] hp = some (.sc (.bool (decide ((∀ n ∈ r, n ∈ l) ∧ ps ≠ []))), hp) := by
  intro r
  induction r with
  | nil =>
    intro i hr
    have := drop_nil hr
    have hlt : ¬((i : Int) < (ps.length : Int)) := by omega
    rw [B17_3_eq]
    cases ps with
    | nil =>
      have hlt : ¬((i : Int) < 0) := by omega
      simp [hlt]
    | cons p ps =>
      have h0 : (0 : Int) < (ps.length : Int) + 1 := by omega
      have hlt : ¬((i : Int) < (ps.length : Int) + 1) := by simp at hlt; omega
      simp [hlt, h0]
  | cons x r ih =>
    intro i hr
    obtain ⟨e1, e2, hi, e3⟩ := drop_cons hr
    have h := ih (i + 1) e2
    have hw : IntKind.i64.wrap ((i : Int) + 1) = ((i + 1 : Nat) : Int) := by rw [wrap64] <;> omega
    rw [B17_3_eq]
    simp at h hw
    by_cases hx : x ∈ l
    · simp [hi, e3, getSc, getC, run_has1 x l _ hl, hx, hw, h]
    · simp [hi, e3, getSc, getC, run_has1 x l _ hl, hx]
theorem pls_len (B H : Int) (l : List Int) (h : Int) : (pls B H l h).length ≤ 8 := by
  unfold pls
  split
  · rename_i h0
    rw [plc_len]
    have hr : ¬(B < 1 ∨ B > 4096 ∨ H < 1 ∨ H > 8) := by
      intro h'
      rw [chk, if_pos h'] at h0
      cases h0
    omega
  · simp
theorem run_has (B H : Int) (l : List Int) (k : Nat) (h : Int) (hl : l.length ≤ 1000000) (h32 : In32 l) (hp : Hp) :
    run cxX 17 [Bl (.int .i64 B) (.int .i64 H) (S k 1 (LI .u32 l)), .sc (.int .u64 h)] hp = some (.sc (.bool (decide ((∀ n ∈ pls B H l h, n ∈ l) ∧ pls B H l h ≠ []))), hp) := by
  rw [E17]
  have hps := pls_len B H l h
  have hh := hasP_loop (.sc (.int .i64 B)) (.sc (.int .i64 H)) (pls B H l h) l 2 3 (rk k) hl (by omega) hp _ 0 rfl
  simp at hh
  simp [getN, run_places B H l (rk k) h hl h32, hh]
/-! ### Add -/
/-- A rising row within the bits. -/
def Good (B : Int) (l : List Int) : Prop := Rise l ∧ ∀ n ∈ l, 0 ≤ n ∧ n < B
theorem Good.in32 {B : Int} {l : List Int} (h : Good B l) (hB : B ≤ 4096) : In32 l := fun n hn => by have := h.2 n hn; omega
theorem Good.nil (B : Int) : Good B [] := ⟨List.Pairwise.nil, by simp⟩
theorem Good.mrg {B : Int} {a b : List Int} (ha : Good B a) (hb : Good B b) : Good B (mrg a b) :=
  ⟨rise_mrg a b ha.1 hb.1, fun n hn => ((mem_mrg n a b).mp hn).elim (ha.2 n) (hb.2 n)⟩
theorem Good.one {B n : Int} (h : 0 ≤ n ∧ n < B) : Good B [n] := ⟨by simp, by simpa using h⟩
/-- Of a rising row within B numbers there are no more than B. -/
theorem rise_len {B : Int} : ∀ {l : List Int} {a : Int}, Rise l → (∀ n ∈ l, a ≤ n ∧ n < B) → (l.length : Int) ≤ B - a ∨ l = []
  | [], _, _, _ => .inr rfl
  | x :: l, a, h, hb => by
    have h' := List.pairwise_cons.mp h
    have hx := hb x (by simp)
    rcases rise_len (a := x + 1) h'.2 (fun n hn => ⟨by have := h'.1 n hn; omega, (hb n (by simp [hn])).2⟩) with h2 | h2
    · left; simp; omega
    · left; subst h2; simp; omega
theorem Good.len {B : Int} {l : List Int} (h : Good B l) (hB : B ≤ 4096) : l.length ≤ 4096 := by
  rcases rise_len (a := 0) h.1 h.2 with h' | h'
  · omega
  · simp [h']
theorem chkL_good {B : Int} : ∀ (l : List Int) (p : Option Int), (∀ n ∈ l, 0 ≤ n ∧ n < B) → (match p with | none => Rise l | some q => Rise (q :: l)) → chkL B p l = 0
  | [], _, _, _ => rfl
  | n :: l, p, h, hp => by
    have hn := h n (by simp)
    have h0 : ¬(n ≥ B) := by omega
    simp only [chkL, h0, if_false]
    cases p with
    | none => exact chkL_good l (some n) (fun m hm => h m (by simp [hm])) hp
    | some q =>
      have hp : Rise (q :: n :: l) := hp
      have h1 := (List.pairwise_cons.mp hp).1 n (by simp)
      have h2 : ¬(n ≤ q) := by omega
      simp only [h2, if_false]
      exact chkL_good l (some n) (fun m hm => h m (by simp [hm])) (List.pairwise_cons.mp hp).2
theorem chk_good {B H : Int} {l : List Int} (hB : 1 ≤ B ∧ B ≤ 4096) (hH : 1 ≤ H ∧ H ≤ 8) (h : Good B l) : chk B H l = 0 := by
  unfold chk
  rw [if_neg (by omega)]
  exact chkL_good l none h.2 h.1
/-- The places of a hash, of a filter that may be. -/
def plg (B H h : Int) : List Int := plc B (stp h) H.toNat (at0 h)
theorem pls_good {B H : Int} {l : List Int} (hB : 1 ≤ B ∧ B ≤ 4096) (hH : 1 ≤ H ∧ H ≤ 8) (h : Good B l) (x : Int) : pls B H l x = plg B H x := by
  unfold pls
  rw [if_pos (chk_good hB hH h)]; rfl
theorem plg_in {B H h : Int} (hB : 1 ≤ B) : ∀ n ∈ plg B H h, 0 ≤ n ∧ n < B := fun n hn => plc_in B _ (by omega) _ _ n hn
theorem plg_len (B H h : Int) : (plg B H h).length = H.toNat := plc_len _ _ _ _
/-- Numbers laid into a row, one by one. -/
def adds (l : List Int) : List Int → List Int
  | [] => l
  | n :: r => adds (mrg l [n]) r
theorem adds_good {B : Int} : ∀ {r l : List Int}, Good B l → (∀ n ∈ r, 0 ≤ n ∧ n < B) → Good B (adds l r)
  | [], _, h, _ => h
  | n :: r, l, h, hr => adds_good (r := r) (h.mrg (Good.one (hr n (by simp)))) fun m hm => hr m (by simp [hm])
theorem mem_adds (x : Int) : ∀ (r l : List Int), x ∈ adds l r ↔ x ∈ l ∨ x ∈ r
  | [], l => by simp [adds]
  | n :: r, l => by
    rw [adds, mem_adds x r, mem_mrg]
    simp [or_assoc]
theorem add_loop (B H : Int) (q0 q1 q2 q : AV) (k' : Nat) (ps : List Int) (hB : 1 ≤ B ∧ B ≤ 4096) (hps : ps.length ≤ 8) (hin : ∀ n ∈ ps, 0 ≤ n ∧ n < B) (hp : Hp) : ∀ (r : List Int) (i : Nat) (l : List Int) (k : Nat), ps.drop i = r → Good B l →
    B22_3 (S k' 1 (LI .u32 ps)) (.int .i64 ps.length) (.int .i64 i) [.sc (.int .i64 B), .sc (.int .i64 H), q] [q0, q1, q2] [.sc (.int .i64 B), .sc (.int .i64 H), S k 1 (LI .u32 l)] hp = some (Bl (.int .i64 B) (.int .i64 H) (S (if r = [] then k else 2) 1 (LI .u32 (adds l r))), hp) := by
  intro r
  induction r with
  | nil =>
    intro i l k hr hg
    have := drop_nil hr
    have hlt : ¬((i : Int) < (ps.length : Int)) := by omega
    rw [B22_3_eq]
    simp [hlt, getN, putN, adds]
  | cons x r ih =>
    intro i l k hr hg
    obtain ⟨e1, e2, hi, e3⟩ := drop_cons hr
    have hx := hin x (List.mem_of_getElem? e1)
    have h := ih (i + 1) (mrg l [x]) 2 e2 (hg.mrg (Good.one hx))
    have hw : IntKind.i64.wrap ((i : Int) + 1) = ((i + 1 : Nat) : Int) := by rw [wrap64] <;> omega
    have hlen := hg.len hB.2
    have hm := fun hp => run_merge (.int .i64 B) (.int .i64 H) (.int .i64 B) (.int .i64 H) l [x] (rk k) 0 hp (by simp; omega)
    rw [B22_3_eq]
    simp [LI] at h hw hm
    simp [hi, e3, getSc, getC, getN, putN, adds, LI, hm, hw, h]
end Go.Proofs.Ytmnefpfbgadnkaa.AI
