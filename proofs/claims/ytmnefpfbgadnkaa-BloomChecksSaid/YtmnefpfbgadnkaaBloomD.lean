/- Filters: a hash more; a filter of hashes; a fixed fact. -/
import Derived.Test.YtmnefpfbgadnkaaBloomC
namespace Go.Proofs.Ytmnefpfbgadnkaa.AI
open Go
set_option linter.unusedVariables false
set_option linter.unusedSimpArgs false

@[simp] theorem S3_nil1 : S 3 1 [] = S 2 1 [] := rfl
theorem run_add (B H : Int) (l : List Int) (k : Nat) (h : Int) (hB : 1 ≤ B ∧ B ≤ 4096) (hH : 1 ≤ H ∧ H ≤ 8) (hg : Good B l) (hp : Hp) :
    run cxX 22 [Bl (.int .i64 B) (.int .i64 H) (S k 1 (LI .u32 l)), .sc (.int .u64 h)] hp = some (Bl (.int .i64 B) (.int .i64 H) (S 2 1 (LI .u32 (adds l (plg B H h)))), hp) := by
  rw [E22]
  have hlen := hg.len hB.2
  have h1 := fun hp => run_places B H l (rk k) h (by omega) (hg.in32 hB.2) hp
  have hl := plg_len B H h
  have hne : plg B H h ≠ [] := by
    intro e
    rw [e] at hl
    simp at hl
    omega
  have h2 := add_loop B H (.sc (.int .i64 0)) (.sc (.int .i64 0)) (S 2 1 []) (S (rk k) 1 (LI .u32 l)) 2 (plg B H h) hB (by omega) (plg_in hB.1) hp _ 0 l (rk k) rfl hg
  rw [pls_good hB hH hg h] at h1
  simp [hne] at h2
  simp [getN, putN, h1, h2]
/-- A filter of hashes. -/
def blm (B H : Int) : List Int → List Int → List Int
  | acc, [] => acc
  | acc, h :: r => blm B H (adds acc (plg B H h)) r
theorem blm_good {B H : Int} (hB : 1 ≤ B) : ∀ {r acc : List Int}, Good B acc → Good B (blm B H acc r)
  | [], _, h => h
  | x :: r, acc, h => blm_good hB (r := r) (adds_good h (plg_in hB))
theorem mem_blm (B H n : Int) : ∀ (r acc : List Int), n ∈ blm B H acc r ↔ n ∈ acc ∨ ∃ h ∈ r, n ∈ plg B H h
  | [], acc => by simp [blm]
  | x :: r, acc => by
    rw [blm, mem_blm B H n r, mem_adds]
    simp [or_assoc]
theorem bloom_loop (B H : Int) (q0 q1 q2 : AV) (k : Nat) (hs : List Int) (hB : 1 ≤ B ∧ B ≤ 4096) (hH : 1 ≤ H ∧ H ≤ 8) (hl : hs.length ≤ 1000000) (hp : Hp) : ∀ (r : List Int) (i : Nat) (l : List Int), hs.drop i = r → Good B l →
    B19_3 (S k 1 (LI .u64 hs)) (.int .i64 hs.length) (.int .i64 i) [q0, q1, q2] [.sc (.int .i64 B), .sc (.int .i64 H), S 2 1 (LI .u32 l)] hp = some (Bl (.int .i64 B) (.int .i64 H) (S 2 1 (LI .u32 (blm B H l r))), hp) := by
  intro r
  induction r with
  | nil =>
    intro i l hr hg
    have := drop_nil hr
    have hlt : ¬((i : Int) < (hs.length : Int)) := by omega
    rw [B19_3_eq]
    simp [hlt, getN, putN, blm]
  | cons x r ih =>
    intro i l hr hg
    obtain ⟨e1, e2, hi, e3⟩ := drop_cons hr
    have h := ih (i + 1) (adds l (plg B H x)) e2 (adds_good hg (plg_in hB.1))
    have hw : IntKind.i64.wrap ((i : Int) + 1) = ((i + 1 : Nat) : Int) := by rw [wrap64] <;> omega
    have ha := fun hp => run_add B H l 3 x hB hH hg hp
    rw [B19_3_eq]
    simp at h hw
    simp [hi, e3, getSc, getN, putN, blm, ha, hw, h]
theorem run_bloom (b h : Int) (k : Nat) (hs : List Int) (hb : 0 ≤ b ∧ b < 65536) (hh : 0 ≤ h ∧ h < 256) (hl : hs.length ≤ 1000000) (hp : Hp) :
    run cxX 19 [.sc (.int .u16 b), .sc (.int .u8 h), S k 1 (LI .u64 hs)] hp = some (Bl (.int .i64 (1 + b % 300)) (.int .i64 (1 + h % 8)) (S 2 1 (LI .u32 (blm (1 + b % 300) (1 + h % 8) [] hs))), hp) := by
  rw [E19]
  have h1 : ∀ x y, binV Go.Proofs.Try.prog .rem 25 x y (.int .u16 b) (.int .u16 300) = some (.int .u16 (b % 300)) := by
    intro x y; rw [binV_rem _ _ _ _ _ _ _ (by omega), tmod_pos hb.1]
  have h2 : ∀ x y, binV Go.Proofs.Try.prog .rem 5 x y (.int .u8 h) (.int .u8 8) = some (.int .u8 (h % 8)) := by
    intro x y; rw [binV_rem _ _ _ _ _ _ _ (by omega), tmod_pos hh.1]
  have w1 : IntKind.i64.wrap (b % 300) = b % 300 := wrap64 (by omega) (by omega)
  have w2 : IntKind.i64.wrap (h % 8) = h % 8 := wrap64 (by omega) (by omega)
  have w3 : IntKind.i64.wrap (1 + b % 300) = 1 + b % 300 := wrap64 (by omega) (by omega)
  have w4 : IntKind.i64.wrap (1 + h % 8) = 1 + h % 8 := wrap64 (by omega) (by omega)
  have hq := bloom_loop (1 + b % 300) (1 + h % 8) (.sc (.int .i64 0)) (.sc (.int .i64 0)) (S 2 1 []) (rk k) hs (by omega) (by omega) hl hp hs 0 [] rfl (Good.nil _)
  simp at hq
  simp [h1, h2, cv_25_3, cv_5_3, w1, w2, w3, w4, hq]
theorem run_awake (hp : Hp) : run cxX 14 [] hp = some (.sc (.bool true), hp) := by
  rw [E14]
  have h := fun hp => run_places 8 2 [] 2 0 (by simp) (by simp [In32]) hp
  have e : pls 8 2 [] 0 = [0, 1] := by decide
  rw [e] at h
  simp [LI] at h
  simp [h, LI, getSc]
end Go.Proofs.Ytmnefpfbgadnkaa.AI
