/- Filters: are two the same; may it be one; the places of a hash; what may have been seen; a hash more. -/
import Derived.Test.YtmnefpfbgadnkaaBloomA
namespace Go.Proofs.Ytmnefpfbgadnkaa.AI
open Go
set_option linter.unusedVariables false
set_option linter.unusedSimpArgs false

theorem cv_27_29 (n : Int) : cvV Go.Proofs.Try.prog 27 29 (.int .u64 n) = some (.int .u32 (IntKind.u32.wrap n)) := by kernel_rfl
theorem cv_3_29 (n : Int) : cvV Go.Proofs.Try.prog 3 29 (.int .i64 n) = some (.int .u32 (IntKind.u32.wrap n)) := by kernel_rfl
theorem cv_29_3 (n : Int) : cvV Go.Proofs.Try.prog 29 3 (.int .u32 n) = some (.int .i64 (IntKind.i64.wrap n)) := by kernel_rfl
theorem cv_25_3 (n : Int) : cvV Go.Proofs.Try.prog 25 3 (.int .u16 n) = some (.int .i64 (IntKind.i64.wrap n)) := by kernel_rfl
theorem cv_5_3 (n : Int) : cvV Go.Proofs.Try.prog 5 3 (.int .u8 n) = some (.int .i64 (IntKind.i64.wrap n)) := by kernel_rfl
theorem cv_25_29 (n : Int) : cvV Go.Proofs.Try.prog 25 29 (.int .u16 n) = some (.int .u32 (IntKind.u32.wrap n)) := by kernel_rfl

/-! ### Same -/
theorem same_loop (B H B' H' : AV) (a b : List Int) (k k' : Nat) (hab : a.length = b.length) (hl : a.length ≤ 1000000) (hp : Hp) : ∀ (r s : List Int) (i : Nat), a.drop i = r → b.drop i = s →
    B18_4 (.int .i64 a.length) (.int .i64 i) [B, H, S k 1 (LI .u32 a)] [B', H', S k' 1 (LI .u32 b)] hp = some (.sc (.bool (decide (r = s))), hp) := by
  intro r
  induction r with
  | nil =>
    intro s i hr hs
    have h1 := drop_nil hr
    have h2 : s = [] := by rw [← hs]; exact List.drop_eq_nil_of_le (by omega)
    have hlt : ¬((i : Int) < (a.length : Int)) := by omega
    rw [B18_4_eq]
    simp [hlt, h2]
  | cons x r ih =>
    intro s i hr hs
    obtain ⟨e1, e2, hi, e3⟩ := drop_cons hr
    rw [B18_4_eq]
    have hw : IntKind.i64.wrap ((i : Int) + 1) = ((i + 1 : Nat) : Int) := by rw [wrap64] <;> omega
    cases s with
    | nil => have := drop_nil hs; omega
    | cons y s =>
      obtain ⟨f1, f2, hj, f3⟩ := drop_cons hs
      have h := ih s (i + 1) e2 f2
      simp at h hw
      by_cases e : x = y
      · simp [hi, hj, getC, getSc, e3, f3, e, hw, h]
      · simp [hi, hj, getC, getSc, e3, f3, e]
/-- Two filters of the same bits and hashes. -/
theorem run_same (B H : Int) (B' H' : Int) (a b : List Int) (k k' : Nat) (hp : Hp) (ha : a.length ≤ 1000000) (hb : b.length ≤ 1000000) :
    run cxX 18 [Bl (.int .i64 B) (.int .i64 H) (S k 1 (LI .u32 a)), Bl (.int .i64 B') (.int .i64 H') (S k' 1 (LI .u32 b))] hp = some (.sc (.bool (decide (B = B' ∧ H = H' ∧ a = b))), hp) := by
  rw [E18]
  by_cases h1 : B = B'
  · by_cases h2 : H = H'
    · by_cases h3 : a.length = b.length
      · have h := same_loop (.sc (.int .i64 B)) (.sc (.int .i64 H)) (.sc (.int .i64 B')) (.sc (.int .i64 H')) a b (rk k) (rk k') h3 ha hp a b 0 rfl rfl
        simp at h
        subst h1 h2
        rw [h3] at h
        simp [getSc, getC, h3, B18_3_eq, h]
      · have h4 : ¬(a = b) := fun e => h3 (by rw [e])
        have h5 : ¬((a.length : Int) = (b.length : Int)) := by omega
        simp [getSc, getC, h1, h2, h4, h5, B18_2_eq]
    · simp [getSc, getC, h1, h2, B18_2_eq]
  · simp [getSc, getC, h1, B18_2_eq]
/-! ### Check -/
def chkL (B : Int) : Option Int → List Int → Int
  | _, [] => 0
  | p, n :: r => if n ≥ B then 2 else match p with
    | none => chkL B (some n) r
    | some q => if n ≤ q then 8 else chkL B (some n) r
def chk (B H : Int) (l : List Int) : Int := if B < 1 ∨ B > 4096 ∨ H < 1 ∨ H > 8 then 2 else chkL B none l
/-- Numbers of 32 bits. -/
def In32 (l : List Int) : Prop := ∀ n ∈ l, 0 ≤ n ∧ n < 4294967296
theorem check_loop (B : Int) (H : AV) (l : List Int) (k k' : Nat) (hl : l.length ≤ 1000000) (h32 : In32 l) (hp : Hp) : ∀ (r : List Int) (i : Nat) (p : Option Int), l.drop i = r →
    (match p with | none => i = 0 | some q => ∃ j, i = j + 1 ∧ l[j]? = some q) →
    B15_4 (S k 1 (LI .u32 l)) (.int .i64 l.length) (.int .i64 i) [.sc (.int .i64 B), H, S k' 1 (LI .u32 l)] hp = some (.sc (.int .i64 (chkL B p r)), hp) := by
  intro r
  induction r with
  | nil =>
    intro i p hr hp'
    have := drop_nil hr
    have hlt : ¬((i : Int) < (l.length : Int)) := by omega
    rw [B15_4_eq]
    simp [hlt, chkL]
  | cons n r ih =>
    intro i p hr hp'
    obtain ⟨e1, e2, hi, e3⟩ := drop_cons hr
    have h := ih (i + 1) (some n) e2 ⟨i, rfl, e1⟩
    have hw : IntKind.i64.wrap ((i : Int) + 1) = ((i + 1 : Nat) : Int) := by rw [wrap64] <;> omega
    have hn := h32 n (List.mem_of_getElem? e1)
    have hwn : IntKind.i64.wrap n = n := wrap64 (by omega) (by omega)
    rw [B15_4_eq]
    by_cases hB : B ≤ n
    · simp [hi, e1, e3, getSc, cv_29_3, hwn, hB, chkL]
    · cases p with
      | none =>
        obtain rfl : i = 0 := hp'
        simp at h e1 hw
        simp [hi, e1, e3, getSc, cv_29_3, hwn, hB, chkL, B15_10_eq, hw, h]
      | some q =>
        obtain ⟨j, rfl, ej⟩ := hp'
        have hw2 : IntKind.i64.wrap (((j + 1 : Nat) : Int) - 1) = (j : Int) := by rw [wrap64] <;> omega
        have hpos : (0 : Int) < (j : Int) + 1 := by omega
        have hi2 : (j : Int) + 1 < (l.length : Int) := by omega
        have hge : (0 : Int) ≤ (j : Int) + 1 := by omega
        have htn : ((j : Int) + 1).toNat = j + 1 := by omega
        simp at h hw hw2
        by_cases hq : n ≤ q
        · simp [hi2, hge, htn, e1, e3, ej, getSc, getC, cv_29_3, hwn, hB, chkL, hpos, hw2, hq, B15_9_eq]
        · simp [hi2, hge, htn, e1, e3, ej, getSc, getC, cv_29_3, hwn, hB, chkL, hpos, hw2, hq, B15_10_eq, hw, h]
theorem run_check (B H : Int) (l : List Int) (k : Nat) (hl : l.length ≤ 1000000) (h32 : In32 l) (hp : Hp) :
    run cxX 15 [Bl (.int .i64 B) (.int .i64 H) (S k 1 (LI .u32 l))] hp = some (.sc (.int .i64 (chk B H l)), hp) := by
  rw [E15]
  have h := check_loop B (.sc (.int .i64 H)) l (rk k) (rk k) hl h32 hp l 0 none rfl rfl
  simp at h
  unfold chk
  by_cases h1 : B < 1
  · simp [getSc, h1, B15_2_eq]
  · by_cases h2 : 4096 < B
    · simp [getSc, h1, h2, B15_2_eq]
    · by_cases h3 : H < 1
      · simp [getSc, h1, h2, h3, B15_2_eq]
      · by_cases h4 : 8 < H
        · simp [getSc, h1, h2, h3, h4, B15_2_eq]
        · simp [getSc, getC, h1, h2, h3, h4, B15_3_eq, h]
end Go.Proofs.Ytmnefpfbgadnkaa.AI
