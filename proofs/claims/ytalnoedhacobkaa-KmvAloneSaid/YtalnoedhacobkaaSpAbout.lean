/- The least hashes: about how many; a fixed fact. -/
import Derived.Test.YtalnoedhacobkaaSpKmv
namespace Go.Proofs.Ytalnoedhacobkaa.AI
open Go
set_option linter.unusedVariables false
set_option linter.unusedSimpArgs false
set_option maxRecDepth 100000

theorem run_kawake (hp : Hp) : run cxX 21 [] hp = some (.sc (.bool true), hp) := by
  have w1 : IntKind.i64.wrap (2 - 1) = 1 := rfl
  have w2 : IntKind.u64.wrap 1 = 1 := rfl
  have w3 : IntKind.u64.wrap 9223372036854775808 = 9223372036854775808 := rfl
  have h4 : ∀ hp, B23_4 (.int .i64 2) [.sc (.int .i64 2), S 0 1 (LI .u64 [1, 9223372036854775807])] hp = some (.sc (.int .u64 2), hp) := by
    intro hp
    rw [B23_4_eq]
    simp [getC, getSc, w1, w2, w3, cv_3_24, run_div_two, chkTup, nthA]
  have h : ∀ hp, run cxX 23 [Kv 2 (S 0 1 (LI .u64 [1, 9223372036854775807]))] hp = some (.sc (.int .u64 2), hp) := by
    intro hp
    rw [E23]
    simp [getC, getSc, h4]
  rw [E21]
  simp [LI] at h
  simp [h]

@[simp] theorem bltV_max (P : Program) (ts : Array TypeId) (t : TypeId) (k k' : IntKind) (a b : Int) : bltV P .max ts t [.int k a, .int k' b] = some (.int k (if b > a then b else a)) := rfl
/-- About how many, of K ones of which the greatest is 'top'. -/
def abt (k top : Nat) : Nat := if top = 18446744073709551615 then k else if top < k then 18446744073709551615 else k * 18446744073709551616 / (top + 1)
theorem run_about_few (K : Int) (l : List Int) (k : Nat) (hl : l.length ≤ 1000) (h : (l.length : Int) < K) (hp : Hp) : run cxX 23 [Kv K (S k 1 (LI .u64 l))] hp = some (.sc (.int .u64 l.length), hp) := by
  have w : IntKind.u64.wrap ((l.length : Nat) : Int) = (l.length : Int) := wnat _ (by omega)
  rw [E23]
  simp [getC, getSc, h, B23_3_eq, cv_3_24, w]
theorem run_about_nil (hp : Hp) : run cxX 23 [Kv 0 (S 2 1 [])] hp = some (.sc (.int .u64 0), hp) := by
  have w : IntKind.u64.wrap 0 = 0 := rfl
  rw [E23]
  simp [getC, getSc, B23_3_eq, cv_3_24, w]
theorem run_about_full (l : List Int) (k top : Nat) (hl : l.length ≤ 1000) (h0 : 0 < l.length) (ht : l[l.length - 1]? = some (top : Int)) (htop : top < 18446744073709551616) (hp : Hp) :
    run cxX 23 [Kv l.length (S k 1 (LI .u64 l))] hp = some (.sc (.int .u64 (abt (l.length - 1) top : Int)), hp) := by
  have hw : IntKind.i64.wrap ((l.length : Int) - 1) = ((l.length - 1 : Nat) : Int) := by rw [wrap64] <;> omega
  have w : IntKind.u64.wrap ((l.length - 1 : Nat) : Int) = ((l.length - 1 : Nat) : Int) := wnat _ (by omega)
  have hne : ¬((l.length : Int) = 0) := by omega
  have hne' : ¬(l = []) := by intro e; subst e; simp at h0
  rw [E23]
  simp only [cellsN_agg, List.length_cons, List.length_nil, Nat.reduceAdd, if_true, Option.bind_some, List.map_cons, List.map_nil, ro1_sc, ro1_S, getC, getSc, List.getElem?_cons_succ, List.getElem?_cons_zero, lenA_S, lenI, binV_lss, Int.ofNat_eq_natCast, asSc_sc, asB_bool, Int.lt_irrefl, decide_false, cond_false, binV_eql]
  have hz : ((l.length : Int) = ((0 : Nat) : Int)) = False := eq_false (by omega)
  simp only [hz, decide_false, cond_false]
  rw [B23_4_eq]
  have ix : idxA 1 (S (rk k) 1 (LI .u64 l)) (.int .i64 ((l.length - 1 : Nat) : Int)) = some [.sc (.int .u64 (top : Int))] := by
    rw [idxA_S, if_pos (by omega), Int.toNat_natCast, getI?, ht]; rfl
  have hw' : IntKind.i64.wrap ((l.length : Int) - ((1 : Nat) : Int)) = ((l.length - 1 : Nat) : Int) := hw
  unfold abt
  by_cases e1 : top = 18446744073709551615
  · have c : ((top : Int) = ((18446744073709551615 : Nat) : Int)) = True := eq_true (by omega)
    simp only [getC, getSc, List.getElem?_cons_succ, List.getElem?_cons_zero, Option.bind_some, Int.ofNat_eq_natCast, binV_sub, hw', ro1_S, rk_rk, ix, asSc_sc, cv_3_24, w, binV_eql, c, decide_true, asB_bool, cond_true]
    rw [if_pos e1]
  · have c : ((top : Int) = ((18446744073709551615 : Nat) : Int)) = False := eq_false (by omega)
    rw [if_neg e1]
    by_cases e2 : top < l.length - 1
    · have c2 : (((l.length - 1 : Nat) : Int) > (top : Int)) = True := eq_true (by omega)
      simp only [getC, getSc, List.getElem?_cons_succ, List.getElem?_cons_zero, Option.bind_some, Int.ofNat_eq_natCast, binV_sub, hw', ro1_S, rk_rk, ix, asSc_sc, cv_3_24, w, binV_eql, c, decide_false, asB_bool, cond_false, binV_gtr, c2, decide_true, cond_true]
      rw [if_pos e2]
    · have c2 : (((l.length - 1 : Nat) : Int) > (top : Int)) = False := eq_false (by omega)
      obtain ⟨r, d⟩ := run_div (l.length - 1) (top + 1) (by omega) (by omega)
      have wt : IntKind.u64.wrap ((top : Int) + ((1 : Nat) : Int)) = ((top + 1 : Nat) : Int) := by rw [wrapu64] <;> omega
      have z : ((0 : Nat) : Int) = 0 := rfl
      simp only [getC, getSc, List.getElem?_cons_succ, List.getElem?_cons_zero, Option.bind_some, Int.ofNat_eq_natCast, binV_sub, hw', ro1_S, rk_rk, ix, asSc_sc, cv_3_24, w, binV_eql, c, decide_false, asB_bool, cond_false, binV_gtr, c2, binV_add, wt, ro_sc, z, d]
      rw [if_neg e2]
      simp [chkTup, nthA]
end Go.Proofs.Ytalnoedhacobkaa.AI
