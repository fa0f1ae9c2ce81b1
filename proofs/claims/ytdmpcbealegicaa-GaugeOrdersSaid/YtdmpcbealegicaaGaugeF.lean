/- Gauges: the laws of the order and of a lesser K, and of the bounds. -/
import Derived.Test.YtdmpcbealegicaaGaugeE
namespace Go.Proofs.Ytdmpcbealegicaa.AI
open Go
set_option linter.unusedVariables false
set_option linter.unusedSimpArgs false

@[simp] theorem bltV_max (P : Program) (ts : Array TypeId) (t : TypeId) (k k' : IntKind) (a b : Int) : bltV P .max ts t [.int k a, .int k' b] = some (.int k (if b > a then b else a)) := rfl
@[simp] theorem bltV_min (P : Program) (ts : Array TypeId) (t : TypeId) (k k' : IntKind) (a b : Int) : bltV P .min ts t [.int k a, .int k' b] = some (.int k (if b < a then b else a)) := rfl
/-! ### GaugeOrders -/
theorem orders_tail (A B : Gs) (KA KB : Int) (F : List Nat) (hA : GR KA F A) (hB : GR KB F B) (hK : KB.toNat ≤ KA.toNat) (hF : F.length ≤ 100) (hp : Hp) : ∀ (m i : Nat), i + m = B.L.length →
    B10_14 (.int .i64 B.L.length) (.int .i64 i) [.sc (.int .i64 KA), .sc (.int .u32 A.M), .sc (.int .u32 A.e0), .sc (.int .u32 A.e1), .sc (.int .u32 A.e2), .sc (.int .u32 A.e3), .sc (.int .u32 A.e4), .sc (.int .u32 A.e5), fl A.lo, fl A.hi, S 2 1 (LF A.L)]
      [.sc (.int .i64 KB), .sc (.int .u32 B.M), .sc (.int .u32 B.e0), .sc (.int .u32 B.e1), .sc (.int .u32 B.e2), .sc (.int .u32 B.e3), .sc (.int .u32 B.e4), .sc (.int .u32 B.e5), fl B.lo, fl B.hi, S 2 1 (LF B.L)] hp = some (.sc (.bool true), hp) := by
  have lA := hA.len
  have lB := hB.len
  intro m
  induction m with
  | zero =>
    intro i hi
    have hlt : ¬((i : Int) < (B.L.length : Int)) := by omega
    have hM : A.M = B.M := by rw [hA.M, hB.M]
    have h0 : A.e0 = B.e0 := by rw [hA.e0, hB.e0]
    have h1 : A.e1 = B.e1 := by rw [hA.e1, hB.e1]
    have h2 : A.e2 = B.e2 := by rw [hA.e2, hB.e2]
    have h3 : A.e3 = B.e3 := by rw [hA.e3, hB.e3]
    have h4 : A.e4 = B.e4 := by rw [hA.e4, hB.e4]
    have h5 : A.e5 = B.e5 := by rw [hA.e5, hB.e5]
    have s1 := fun hp => run_fsame A.lo B.lo hA.lo hB.lo hp
    have s2 := fun hp => run_fsame A.hi B.hi hA.hi hB.hi hp
    have k1 : (kw A.lo = kw B.lo) = True := eq_true (by rw [hA.klo, hB.klo])
    have k2 : (kw A.hi = kw B.hi) = True := eq_true (by rw [hA.khi, hB.khi])
    simp only [k1, k2, decide_true] at s1 s2
    have a := eql44 (.tmp 93) (.tmp 95) B.e0 B.e1 B.e2 B.e3 B.e4 B.e5 B.e0 B.e1 B.e2 B.e3 B.e4 B.e5
    simp only [and_self, decide_true] at a
    rw [B10_14_eq]
    simp [hlt, getSc, getC, getN, concA, allSc, hM, h0, h1, h2, h3, h4, h5, a, s1, s2]
  | succ m ih =>
    intro i hi
    have hlt : (i : Int) < (B.L.length : Int) := by omega
    have iA : i < A.L.length := by omega
    have iB : i < B.L.length := by omega
    have eA : A.L[i]? = some A.L[i] := List.getElem?_eq_getElem iA
    have eB : B.L[i]? = some B.L[i] := List.getElem?_eq_getElem iB
    have hk : kw A.L[i] = kw B.L[i] := by
      have qA := congrArg (fun l => l[i]?) hA.keys
      have qB := congrArg (fun l => l[i]?) hB.keys
      simp only [List.getElem?_map, eA, eB, Option.map_some] at qA qB
      rw [List.getElem?_take_of_lt (by omega)] at qA qB
      rw [← qB] at qA
      simpa using qA
    have s := fun hp => run_fsame A.L[i] B.L[i] (hA.ws _ (List.getElem_mem iA)) (hB.ws _ (List.getElem_mem iB)) hp
    simp only [eq_true hk, decide_true] at s
    generalize A.L[i] = x at eA s
    generalize B.L[i] = z at eB s
    have hw : IntKind.i64.wrap ((i : Int) + 1) = ((i + 1 : Nat) : Int) := by rw [wrap64] <;> omega
    have g := ih (i + 1) (by omega)
    rw [B10_14_eq]
    simp at g hw
    simp [hlt, getC, getSc, eA, eB, s, hw, g]
theorem orders_loop (c j : Int) (k : Nat) (l : List (Int × Int)) (hc : 0 ≤ c ∧ c < 256) (hj : 0 ≤ j ∧ j < 256) (hl : l.length ≤ 50) (hI : ∀ p ∈ l, InI p) (hp : Hp) : ∀ (n : Nat) (back : List (Int × Int)), n ≤ l.length → back.Perm (l.drop n) →
    B10_7 (.int .u8 c) (.int .u8 j) (S k 2 (LP l)) (S 2 2 (LP back)) (.int .i64 ((n : Int) - 1)) hp = some (.sc (.bool true), hp) := by
  intro n
  induction n with
  | zero =>
    intro back hn hperm
    rw [List.drop_zero] at hperm
    have m1 : ∀ x y, binV Go.Proofs.Try.prog .rem 5 x y (.int .u8 c) (.int .u8 16) = some (.int .u8 (c % 16)) := by
      intro x y; rw [binV_rem _ _ _ _ _ _ _ (by omega), tmod_pos hc.1]
    have m2 : ∀ x y, binV Go.Proofs.Try.prog .rem 5 x y (.int .u8 j) (.int .u8 16) = some (.int .u8 (j % 16)) := by
      intro x y; rw [binV_rem _ _ _ _ _ _ _ (by omega), tmod_pos hj.1]
    have a1 : 0 ≤ c % 16 ∧ c % 16 < 16 := by omega
    have a2 : 0 ≤ j % 16 ∧ j % 16 < 16 := by omega
    generalize c % 16 = x at m1 a1
    generalize j % 16 = y at m2 a2
    have hM : ∃ M : Int, (if x < y then y else x) = M ∧ 0 ≤ M ∧ M < 16 := ⟨_, rfl, by split <;> omega, by split <;> omega⟩
    have hm : ∃ M : Int, (if y < x then y else x) = M ∧ 0 ≤ M ∧ M < 16 := ⟨_, rfl, by split <;> omega, by split <;> omega⟩
    obtain ⟨M, eM, hM⟩ := hM
    obtain ⟨m, em, hm⟩ := hm
    have hmM : m ≤ M := by rw [← eM, ← em]; split <;> split <;> omega
    have hbl := hperm.length_eq
    have hbI : ∀ p ∈ back, InI p := fun p hp => hI p (hperm.mem_iff.mp hp)
    have r1 := fun k hp => run_gauge M k l (by omega) (by omega) hI hp
    have r2 := fun k hp => run_gauge m k l (by omega) (by omega) hI hp
    have r3 := fun k hp => run_gauge M k back (by omega) (by omega) hbI hp
    have q1 : 1 + M % 16 = 1 + M := by omega
    have q2 : 1 + m % 16 = 1 + m := by omega
    rw [q1] at r1 r3
    rw [q2] at r2
    have g1 := gfold_ok (K := 1 + M) (by omega) (gnew_ok (1 + M)) (ws_wd hI) (by simp; omega)
    have g2 := gfold_ok (K := 1 + m) (by omega) (gnew_ok (1 + m)) (ws_wd hI) (by simp; omega)
    have g3 := gfold_ok (K := 1 + M) (by omega) (gnew_ok (1 + M)) (ws_wd hbI) (by simp; omega)
    generalize gfold (1 + M) gnew (l.map wd) = A at r1 g1
    generalize gfold (1 + m) gnew (l.map wd) = B at r2 g2
    generalize gfold (1 + M) gnew (back.map wd) = C at r3 g3
    rw [List.nil_append] at g1 g2 g3
    have s := fun k k' hp => run_gsame_perm k k' g1 g3 (hperm.symm.map wd) (by simp; omega) hp
    have lA := g1.len
    have lB := g2.len
    have t := fun hp => orders_tail A B (1 + M) (1 + m) (l.map wd) g1 g2 (by omega) (by simp; omega) hp B.L.length 0 (by omega)
    have c2 : ((B.L.length : Nat) : Int) = if 1 + m < (A.L.length : Int) then 1 + m else (A.L.length : Int) := by
      rw [List.length_map] at lA lB
      split <;> omega
    simp at t
    rw [B10_7_eq]
    simp [m1, m2, eM, em, r1, r2, r3, putN, getN, getC, getSc, s, ← c2, B10_13_eq, t]
  | succ n ih =>
    intro back hn hperm
    have hlt : n < l.length := by omega
    have e1 : l[n]? = some l[n] := List.getElem?_eq_getElem hlt
    have ix := idxA_P (rk k) e1
    have hbl := hperm.length_eq
    rw [List.length_drop] at hbl
    have ap : appA 16 2 (S 2 2 (LP back)) (S 1 2 [.sc (.int .u64 l[n].1), .sc (.int .u8 l[n].2)]) = some (S 2 2 (LP (back ++ [l[n]]))) := by
      have h := appA_S 16 2 2 (LP back) (LP [l[n]]) 1 (.inr rfl) (flatP _) (.inr (fits_ok (by omega) (by rw [lenP, lenP]; simp; omega)))
      rw [← appP] at h
      exact h
    have hw : IntKind.i64.wrap ((n : Int) - 1) = (n : Int) - 1 := wrap64 (by omega) (by omega)
    have g := ih (back ++ [l[n]]) (by omega) (by
      rw [List.drop_eq_getElem_cons hlt]
      exact List.perm_append_comm.trans (List.Perm.cons _ hperm))
    generalize l[n] = p at ix ap g
    rw [B10_7_eq]
    simp [ix, getN, putN, ap, hw, g]
theorem law_GaugeOrders (c : Int) (wc : InK .u8 c) (j : Int) (wj : InK .u8 j) (k : Nat) (l : List (Int × Int)) (wl : ∀ p ∈ l, InI p) (hp : Hp) :
    ∃ hp', run cxX 10 [.sc (.int .u8 c), .sc (.int .u8 j), S k 2 (LP l)] hp = some (.sc (.bool true), hp') := by
  refine ⟨hp, ?_⟩
  rw [E10]
  by_cases h1 : (50 : Int) < (l.length : Int)
  · simp [run_gawake, lenA_P, h1]
  · have t := fun hp => orders_loop c j k l wc.u8 wj.u8 (by omega) wl hp l.length [] (by omega) (by simp)
    have hw : IntKind.i64.wrap ((l.length : Int) - 1) = (l.length : Int) - 1 := wrap64 (by omega) (by omega)
    have z : S 2 2 (LP []) = S 2 1 [] := rfl
    rw [z] at t
    simp [run_gawake, lenA_P, h1, hw, t]
end Go.Proofs.Ytdmpcbealegicaa.AI
