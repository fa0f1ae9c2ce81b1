/- Gauges: what a gauge is of the floats that were measured; one more; many. -/
import Derived.Test.YtdmpcbealegicaaGaugeA
namespace Go.Proofs.Ytdmpcbealegicaa.AI
open Go
set_option linter.unusedVariables false
set_option linter.unusedSimpArgs false

structure Gs where
  M : Int
  e0 : Int
  e1 : Int
  e2 : Int
  e3 : Int
  e4 : Int
  e5 : Int
  lo : Nat
  hi : Nat
  L : List Nat
abbrev Gs.av (g : Gs) (K : Int) (k : Nat) : AV := Ga K g.M g.e0 g.e1 g.e2 g.e3 g.e4 g.e5 g.lo g.hi (S k 1 (LF g.L))
def gmg (K : Int) (g o : Gs) : Gs := ⟨plus g.M o.M, plus g.e0 o.e0, plus g.e1 o.e1, plus g.e2 o.e2, plus g.e3 o.e3, plus g.e4 o.e4, plus g.e5 o.e5, fmin g.lo o.lo, fmax g.hi o.hi, (gm g.L o.L).take K.toNat⟩
def gone (w : Nat) : Gs := ⟨1, if edge w = 0 then 1 else 0, if edge w = 1 then 1 else 0, if edge w = 2 then 1 else 0, if edge w = 3 then 1 else 0, if edge w = 4 then 1 else 0, if edge w = 5 then 1 else 0,
  if isN w then 9218868437227405312 else w, if isN w then 18442240474082181120 else w, [wk (kw w)]⟩
def gnew : Gs := ⟨0, 0, 0, 0, 0, 0, 0, 9218868437227405312, 18442240474082181120, []⟩
def cnt (i : Int) : List Nat → Nat
  | [] => 0
  | f :: F => (if edge f = i then 1 else 0) + cnt i F
theorem cnt_append (i : Int) : ∀ a b, cnt i (a ++ b) = cnt i a + cnt i b
  | [], b => by simp [cnt]
  | f :: a, b => by simp only [List.cons_append, cnt, cnt_append i a b]; omega
theorem cnt_le (i : Int) : ∀ a, cnt i a ≤ a.length
  | [] => Nat.le_refl _
  | f :: a => by have := cnt_le i a; simp only [cnt, List.length_cons]; split <;> omega
theorem cnt_perm (i : Int) {a b : List Nat} (h : a.Perm b) : cnt i a = cnt i b := by
  induction h with
  | nil => rfl
  | cons x _ ih => simp only [cnt, ih]
  | swap x y l => simp only [cnt]; omega
  | trans _ _ h1 h2 => rw [h1, h2]
theorem edge_in (w : Nat) : 0 ≤ edge w ∧ edge w ≤ 5 := by
  unfold edge
  repeat' split
  all_goals omega
theorem cnt_sum : ∀ F, cnt 0 F + cnt 1 F + cnt 2 F + cnt 3 F + cnt 4 F + cnt 5 F = F.length
  | [] => rfl
  | f :: F => by
    have h := cnt_sum F
    have he := edge_in f
    simp only [cnt, List.length_cons]
    have : edge f = 0 ∨ edge f = 1 ∨ edge f = 2 ∨ edge f = 3 ∨ edge f = 4 ∨ edge f = 5 := by omega
    rcases this with e | e | e | e | e | e <;> rw [e] <;> simp <;> omega
/-- A gauge of the floats F. -/
structure GR (K : Int) (F : List Nat) (g : Gs) : Prop where
  M : g.M = F.length
  e0 : g.e0 = cnt 0 F
  e1 : g.e1 = cnt 1 F
  e2 : g.e2 = cnt 2 F
  e3 : g.e3 = cnt 3 F
  e4 : g.e4 = cnt 4 F
  e5 : g.e5 = cnt 5 F
  lo : g.lo < 18446744073709551616
  hi : g.hi < 18446744073709551616
  klo : kw g.lo = lowK F
  khi : kw g.hi = highK F
  ws : Ws g.L
  keys : g.L.map kw = (sk (F.map kw)).take K.toNat
theorem GR.len {K : Int} {F : List Nat} {g : Gs} (h : GR K F g) : g.L.length = min K.toNat F.length := by
  have := congrArg List.length h.keys
  rw [List.length_map, List.length_take, sk_len, List.length_map] at this
  exact this
theorem plus_nat {a b : Nat} (h : a + b < 4294967296) : plus (a : Int) (b : Int) = ((a + b : Nat) : Int) := by
  unfold plus
  rw [if_pos (by omega)]
  omega
theorem GR.merge {K : Int} {F H : List Nat} {g o : Gs} (hg : GR K F g) (ho : GR K H o) (hl : F.length + H.length ≤ 1000) : GR K (F ++ H) (gmg K g o) where
  M := by simp only [gmg]; rw [hg.M, ho.M, plus_nat (by omega), List.length_append]
  e0 := by have := cnt_le 0 F; have := cnt_le 0 H; simp only [gmg]; rw [hg.e0, ho.e0, plus_nat (by omega), cnt_append]
  e1 := by have := cnt_le 1 F; have := cnt_le 1 H; simp only [gmg]; rw [hg.e1, ho.e1, plus_nat (by omega), cnt_append]
  e2 := by have := cnt_le 2 F; have := cnt_le 2 H; simp only [gmg]; rw [hg.e2, ho.e2, plus_nat (by omega), cnt_append]
  e3 := by have := cnt_le 3 F; have := cnt_le 3 H; simp only [gmg]; rw [hg.e3, ho.e3, plus_nat (by omega), cnt_append]
  e4 := by have := cnt_le 4 F; have := cnt_le 4 H; simp only [gmg]; rw [hg.e4, ho.e4, plus_nat (by omega), cnt_append]
  e5 := by have := cnt_le 5 F; have := cnt_le 5 H; simp only [gmg]; rw [hg.e5, ho.e5, plus_nat (by omega), cnt_append]
  lo := fmin_lt hg.lo ho.lo
  hi := fmax_lt hg.hi ho.hi
  klo := by simp only [gmg]; rw [kw_fmin, hg.klo, ho.klo, lowK_append]
  khi := by simp only [gmg]; rw [kw_fmax, hg.khi, ho.khi, highK_append]
  ws := fun w hw => (mem_gm w _ _ _ rfl (List.mem_of_mem_take hw)).elim (hg.ws w) (ho.ws w)
  keys := by
    simp only [gmg]
    rw [List.map_take, gm_keys _ _ _ rfl, hg.keys, ho.keys, take_mk _ _ _ _ _ (Nat.le_refl _) (Nat.le_refl _), List.map_append, sk_append]
theorem gnew_ok (K : Int) : GR K [] gnew := ⟨rfl, rfl, rfl, rfl, rfl, rfl, rfl, by decide, by decide, by decide, by decide, by simp [gnew, Ws], by simp [gnew, sk]⟩
theorem gone_ok {K : Int} (hK : 1 ≤ K) {w : Nat} (hw : w < 18446744073709551616) : GR K [w] (gone w) where
  M := rfl
  e0 := by simp only [gone, cnt]; split <;> rfl
  e1 := by simp only [gone, cnt]; split <;> rfl
  e2 := by simp only [gone, cnt]; split <;> rfl
  e3 := by simp only [gone, cnt]; split <;> rfl
  e4 := by simp only [gone, cnt]; split <;> rfl
  e5 := by simp only [gone, cnt]; split <;> rfl
  lo := by simp only [gone]; split <;> omega
  hi := by simp only [gone]; split <;> omega
  klo := by
    simp only [gone, lowK]
    have h0 : kw 9218868437227405312 = 18442240474082181120 := by decide
    by_cases hn : isN w
    · rw [if_pos hn, if_pos hn, h0]
    · rw [if_neg hn, if_neg hn]
      have hn2 := hn
      unfold isN at hn2
      unfold kw
      rw [if_neg hn]
      split <;> omega
  khi := by
    simp only [gone, highK]
    have h0 : kw 18442240474082181120 = 4503599627370495 := by decide
    by_cases hn : isN w
    · rw [if_pos hn, if_pos hn, h0]
    · rw [if_neg hn, if_neg hn]
      have hn2 := hn
      unfold isN at hn2
      unfold kw
      rw [if_neg hn]
      split <;> omega
  ws := by simp only [gone, Ws, List.mem_singleton]; rintro x rfl; exact wk_lt _ (kw_lt w hw)
  keys := by
    have hk : K.toNat = (K.toNat - 1) + 1 := by omega
    simp only [gone, List.map_cons, List.map_nil, sk, mk_nil_r]
    rw [kw_wk_kw w hw, hk, List.take_succ_cons, List.take_nil]
theorem GR.in32 {K : Int} {F : List Nat} {g : Gs} (h : GR K F g) (hl : F.length ≤ 1000) : In32' g.M ∧ In32' g.e0 ∧ In32' g.e1 ∧ In32' g.e2 ∧ In32' g.e3 ∧ In32' g.e4 ∧ In32' g.e5 := by
  have a0 := cnt_le 0 F
  have a1 := cnt_le 1 F
  have a2 := cnt_le 2 F
  have a3 := cnt_le 3 F
  have a4 := cnt_le 4 F
  have a5 := cnt_le 5 F
  rw [h.M, h.e0, h.e1, h.e2, h.e3, h.e4, h.e5]
  unfold In32'
  refine ⟨?_, ?_, ?_, ?_, ?_, ?_, ?_⟩ <;> omega
theorem run_gm (K K' : Int) {F H : List Nat} {g o : Gs} (k k' : Nat) (hg : GR K F g) (ho : GR K' H o) (hl : F.length + H.length ≤ 1000) (hp : Hp) :
    run cxX 32 [g.av K k, o.av K' k'] hp = some ((gmg K g o).av K 2, hp) := by
  obtain ⟨m, x0, x1, x2, x3, x4, x5⟩ := hg.in32 (by omega)
  obtain ⟨m', y0, y1, y2, y3, y4, y5⟩ := ho.in32 (by omega)
  have l1 := hg.len
  have l2 := ho.len
  exact run_gmerge K K' g.M o.M g.e0 g.e1 g.e2 g.e3 g.e4 g.e5 o.e0 o.e1 o.e2 o.e3 o.e4 o.e5 g.lo g.hi o.lo o.hi g.L o.L k k' ⟨m, m'⟩ ⟨x0, y0⟩ ⟨x1, y1⟩ ⟨x2, y2⟩ ⟨x3, y3⟩ ⟨x4, y4⟩ ⟨x5, y5⟩ ⟨hg.lo, ho.lo⟩ ⟨hg.hi, ho.hi⟩ hg.ws ho.ws (by omega) hp
/-! ### one, New, Add -/
theorem run_one (K : Int) (w : Nat) (hw : w < 18446744073709551616) (hp : Hp) : run cxX 46 [.sc (.int .i64 K), fl w] hp = some ((gone w).av K 1, hp) := by
  have i1 := fun hp => run_inf 1 hp
  have i2 := fun hp => run_inf (-1) hp
  have ed := fun hp => run_edge w hw hp
  have k := fun hp => run_key w hw hp
  have o := fun hp => run_of (kw w) (kw_lt w hw) hp
  simp at i1 i2
  have b5 : ∀ (x0 x1 x2 x3 x4 x5 x6 x7 x8 x9 x10 : AV) (q0 q1 q2 q3 q4 q5 q6 q7 q8 q9 q10 : AV) (hp : Hp), B46_5 (.float .f64 w) [q0, q1, q2, q3, q4, q5, q6, q7, q8, q9, q10] [x0, x1, x2, x3, x4, x5, x6, x7, x8, x9, x10] hp = some (.agg [x0, x1, x2, x3, x4, x5, x6, x7, x8, x9, S 1 1 [fl (wk (kw w))]], hp) := by
    intros
    rw [B46_5_eq]
    simp [k, o, putN, getN]
  rw [E46]
  have he := edge_in w
  have hc : edge w = 0 ∨ edge w = 1 ∨ edge w = 2 ∨ edge w = 3 ∨ edge w = 4 ∨ edge w = 5 := by omega
  have u0 : idx 6 (.int .u8 0) = some 0 := by kernel_rfl
  have u1 : idx 6 (.int .u8 1) = some 1 := by kernel_rfl
  have u2 : idx 6 (.int .u8 2) = some 2 := by kernel_rfl
  have u3 : idx 6 (.int .u8 3) = some 3 := by kernel_rfl
  have u4 : idx 6 (.int .u8 4) = some 4 := by kernel_rfl
  have u5 : idx 6 (.int .u8 5) = some 5 := by kernel_rfl
  unfold gone
  by_cases hn : isN w
  · rcases hc with e | e | e | e | e | e <;> rw [e] at ed <;> simp [i1, i2, ed, u0, u1, u2, u3, u4, u5, putN, fEq_self, hn, b5, e, LF]
  · rcases hc with e | e | e | e | e | e <;> rw [e] at ed <;> simp [i1, i2, ed, u0, u1, u2, u3, u4, u5, putN, fEq_self, hn, b5, e, LF]
theorem run_gnew (K : Int) (hK : 1 ≤ K ∧ K ≤ 16) (hp : Hp) : run cxX 38 [.sc (.int .i64 K)] hp = some (.tup [gnew.av K 2, .sc (.bool true)], hp) := by
  have i1 := fun hp => run_inf 1 hp
  have i2 := fun hp => run_inf (-1) hp
  simp at i1 i2
  have h1 : ¬(K < 1) := by omega
  have h2 : ¬(16 < K) := by omega
  rw [E38]
  simp [h1, h2]
  rw [B38_3_eq]
  simp [i1, i2, putN, getN, gnew]
  rfl
theorem run_gadd (K : Int) {F : List Nat} {g : Gs} (k w : Nat) (hK : 1 ≤ K) (hg : GR K F g) (hl : F.length + 1 ≤ 1000) (hw : w < 18446744073709551616) (hp : Hp) :
    run cxX 30 [g.av K k, fl w] hp = some ((gmg K g (gone w)).av K 2, hp) := by
  have o := fun hp => run_one K w hw hp
  have m := fun k k' hp => run_gm K K k k' hg (gone_ok hK hw) (by simpa using hl) hp
  rw [E30]
  simp [getN, getSc, o, m, putN]
end Go.Proofs.Ytdmpcbealegicaa.AI
