/- Gauges by their keys: the same, may it be one, both measured; what holds of these. -/
import Derived.Test.YtchmioacjkbfcaaGreatSpGauge
namespace Go.Proofs.YtchmioacjkbfcaaGreat.AI
open Go
set_option linter.unusedVariables false
set_option linter.unusedSimpArgs false
set_option maxRecDepth 100000

/-- A gauge whose floats are keys. -/
structure GN where
  M : Int
  e0 : Int
  e1 : Int
  e2 : Int
  e3 : Int
  e4 : Int
  e5 : Int
  lo : Nat
  hi : Nat
  L : List Nat
deriving DecidableEq
def Gs.nf (g : Gs) : GN := ⟨g.M, g.e0, g.e1, g.e2, g.e3, g.e4, g.e5, kw g.lo, kw g.hi, g.L.map kw⟩
/-- Within bounds. -/
structure Gs.W (g : Gs) : Prop where
  M : In32' g.M
  e0 : In32' g.e0
  e1 : In32' g.e1
  e2 : In32' g.e2
  e3 : In32' g.e3
  e4 : In32' g.e4
  e5 : In32' g.e5
  lo : g.lo < 18446744073709551616
  hi : g.hi < 18446744073709551616
  L : Ws g.L
  len : g.L.length ≤ 100000
theorem gsame_nf (K K' : Int) (g o : Gs) : GSame K K' g o ↔ K = K' ∧ g.nf = o.nf := by
  unfold GSame Gs.nf
  simp only [GN.mk.injEq]
  constructor
  · rintro ⟨h1, h2, ⟨h3, h4, h5, h6, h7, h8⟩, h9, h10, h11⟩
    exact ⟨h1, h2, h3, h4, h5, h6, h7, h8, h9, h10, h11⟩
  · rintro ⟨h1, h2, h3, h4, h5, h6, h7, h8, h9, h10, h11⟩
    exact ⟨h1, h2, ⟨h3, h4, h5, h6, h7, h8⟩, h9, h10, h11⟩
theorem run_gsameD (K K' : Int) (g o : Gs) (k k' : Nat) (hg : g.W) (ho : o.W) (hp : Hp) : run cxX 121 [g.av K k, o.av K' k'] hp = some (.sc (.bool (decide (K = K' ∧ g.nf = o.nf))), hp) := by
  by_cases h : GSame K K' g o
  · rw [run_gsame K K' g o k k' h ⟨hg.lo, ho.lo⟩ ⟨hg.hi, ho.hi⟩ ⟨hg.L, ho.L⟩ (by have := hg.len; omega) hp, decide_eq_true ((gsame_nf K K' g o).mp h)]
  · have hd : decide (K = K' ∧ g.nf = o.nf) = false := decide_eq_false (fun h' => h ((gsame_nf K K' g o).mpr h'))
    rw [hd, E121]
    have b2 : B121_2 hp = some (.sc (.bool false), hp) := B121_2_eq hp
    have r1 := fun hp => run_fsame g.lo o.lo hg.lo ho.lo hp
    have r2 := fun hp => run_fsame g.hi o.hi hg.hi ho.hi hp
    have a := fun x y => neq44 x y g.e0 g.e1 g.e2 g.e3 g.e4 g.e5 o.e0 o.e1 o.e2 o.e3 o.e4 o.e5
    by_cases q1 : K = K'
    · by_cases q2 : g.M = o.M
      · by_cases q3 : (g.e0 = o.e0 ∧ g.e1 = o.e1 ∧ g.e2 = o.e2 ∧ g.e3 = o.e3 ∧ g.e4 = o.e4 ∧ g.e5 = o.e5)
        · simp only [eq_true q3, decide_true, Bool.not_true] at a
          by_cases q4 : kw g.lo = kw o.lo
          · by_cases q5 : kw g.hi = kw o.hi
            · by_cases q6 : g.L.length = o.L.length
              · have l := gsame_loop (.sc (.int .i64 K)) (.sc (.int .u32 g.M)) (.sc (.int .u32 g.e0)) (.sc (.int .u32 g.e1)) (.sc (.int .u32 g.e2)) (.sc (.int .u32 g.e3)) (.sc (.int .u32 g.e4)) (.sc (.int .u32 g.e5)) (fl g.lo) (fl g.hi)
                  (.sc (.int .i64 K')) (.sc (.int .u32 o.M)) (.sc (.int .u32 o.e0)) (.sc (.int .u32 o.e1)) (.sc (.int .u32 o.e2)) (.sc (.int .u32 o.e3)) (.sc (.int .u32 o.e4)) (.sc (.int .u32 o.e5)) (fl o.lo) (fl o.hi) g.L o.L (rk k) (rk k') q6 (by have := hg.len; omega) hg.L ho.L hp g.L o.L 0 rfl rfl
                have q7 : ¬(g.L.map kw = o.L.map kw) := fun e => h ⟨q1, q2, q3, q4, q5, e⟩
                simp only [eq_false q7, decide_false] at l
                subst q1
                simp at l
                rw [q6, q2] at l
                simp [getSc, getC, getN, concA, allSc, q2, a, r1, r2, q4, q5, q6, B121_3_eq]
                exact l
              · have q6' : ¬((g.L.length : Int) = (o.L.length : Int)) := by omega
                simp [getSc, getC, getN, concA, allSc, q1, q2, a, r1, r2, q4, q5, q6', b2]
            · simp [getSc, getC, getN, concA, allSc, q1, q2, a, r1, r2, q4, q5, b2]
          · simp [getSc, getC, getN, concA, allSc, q1, q2, a, r1, q4, b2]
        · simp only [eq_false q3, decide_false, Bool.not_false] at a
          simp [getSc, getC, getN, concA, allSc, q1, q2, a, b2]
      · simp [getSc, q1, q2, b2]
    · simp [getSc, q1, b2]
/-! ### may it be one -/
def ordG : List Nat → Int
  | [] => 0
  | [_] => 0
  | x :: y :: r => if y < x then 8 else ordG (y :: r)
/-- The key of what is no number. -/
def nanK : Nat := 18444492273895866369
def gchkE (g : GN) : Int := if g.lo = nanK ∨ g.hi = nanK then 4 else 0
def gchk (K : Int) (g : GN) : Int := if K < 1 ∨ 16 < K ∨ K < (g.L.length : Int) then 2 else if ordG g.L = 0 then gchkE g else 8
theorem ordG_val : ∀ l, ordG l = 0 ∨ ordG l = 8
  | [] => .inl rfl
  | [_] => .inl rfl
  | x :: y :: r => by
    show (if y < x then (8 : Int) else ordG (y :: r)) = 0 ∨ (if y < x then (8 : Int) else ordG (y :: r)) = 8
    split
    · exact .inr rfl
    · exact ordG_val (y :: r)
theorem up_ordG : ∀ {l : List Nat}, Up l → ordG l = 0
  | [], _ => rfl
  | [_], _ => rfl
  | x :: y :: r, h => by
    have h' := List.pairwise_cons.mp h
    have hxy := h'.1 y (by simp)
    show (if y < x then (8 : Int) else ordG (y :: r)) = 0
    rw [if_neg (by omega)]
    exact up_ordG h'.2
theorem ordG_up : ∀ {l : List Nat}, ordG l = 0 → Up l
  | [], _ => List.Pairwise.nil
  | [_], _ => by simp
  | x :: y :: r, h => by
    have h : (if y < x then (8 : Int) else ordG (y :: r)) = 0 := h
    split at h
    · cases h
    · rename_i hxy
      have ih := ordG_up h
      have ih' := List.pairwise_cons.mp ih
      refine List.pairwise_cons.mpr ⟨fun n hn => ?_, ih⟩
      rcases List.mem_cons.mp hn with rfl | hn
      · omega
      · have := ih'.1 n hn; omega
theorem kw_isN {w : Nat} (h : w < 18446744073709551616) : isN w ↔ kw w = nanK := by
  constructor
  · intro hn; exact kw_nan hn
  · intro he
    by_cases hn : isN w
    · exact hn
    · have := kw_num_lt h hn
      rw [he] at this
      exact absurd this (by decide)
theorem gcheck_loop (K : Int) (g : Gs) (k : Nat) (hg : g.W) (hp : Hp) : ∀ (r : List Nat) (p : Option Nat) (i : Nat), g.L.drop i = r → (p = none ↔ i = 0) → (∀ q, p = some q → g.L[i - 1]? = some q) →
    B67_4 (S k 1 (LF g.L)) (.int .i64 g.L.length) (.int .i64 i) [.sc (.int .i64 K), .sc (.int .u32 g.M), .sc (.int .u32 g.e0), .sc (.int .u32 g.e1), .sc (.int .u32 g.e2), .sc (.int .u32 g.e3), .sc (.int .u32 g.e4), .sc (.int .u32 g.e5), fl g.lo, fl g.hi, S k 1 (LF g.L)] hp =
      some (.sc (.int .i64 (if ordG (p.toList.map kw ++ r.map kw) = 0 then gchkE g.nf else 8)), hp) := by
  intro r
  induction r with
  | nil =>
    intro p i hr hp0 hps
    have := drop_nil hr
    have hlt : ¬((i : Int) < (g.L.length : Int)) := by omega
    have ho : ordG (p.toList.map kw ++ ([] : List Nat).map kw) = 0 := by cases p <;> rfl
    have n1 := kw_isN hg.lo
    have n2 := kw_isN hg.hi
    rw [if_pos ho, B67_4_eq]
    unfold gchkE Gs.nf
    by_cases h1 : isN g.lo
    · have h1' := n1.mp h1
      simp [hlt, getSc, fEq_self, h1, h1', B67_10_eq]
    · have h1' : ¬(kw g.lo = nanK) := fun e => h1 (n1.mpr e)
      by_cases h2 : isN g.hi
      · have h2' := n2.mp h2
        simp [hlt, getSc, fEq_self, h1, h2, h2', B67_10_eq]
      · have h2' : ¬(kw g.hi = nanK) := fun e => h2 (n2.mpr e)
        simp [hlt, getSc, fEq_self, h1, h2, h1', h2', B67_11_eq]
  | cons x r ih =>
    intro p i hr hp0 hps
    obtain ⟨e1, e2, hi, e3⟩ := drop_cons hr
    have hx := hg.L x (List.mem_of_getElem? e1)
    have hln := hg.len
    have hw : IntKind.i64.wrap ((i : Int) + 1) = ((i + 1 : Nat) : Int) := by rw [wrap64] <;> omega
    have h := ih (some x) (i + 1) e2 (by simp) (fun q hq => by simp at hq; subst hq; simpa using e1)
    have g1 : (LF g.L)[i]? = some (fl x) := by simp [LF, e1]
    rw [B67_4_eq]
    cases p with
    | none =>
      obtain rfl : i = 0 := hp0.mp rfl
      simp at g1 h hw
      simp [hi, getSc, g1, hw, h, B67_8_eq]
    | some q =>
      have hi0 : i ≠ 0 := fun e => by have := hp0.mpr e; cases this
      have hq := hps q rfl
      have hq64 := hg.L q (List.mem_of_getElem? hq)
      have hpos : 0 < i := by omega
      simp at h hw
      have w1 : IntKind.i64.wrap ((i : Int) - 1) = ((i - 1 : Nat) : Int) := by rw [wrap64] <;> omega
      have g2 : (LF g.L)[i - 1]? = some (fl q) := by simp [LF, hq]
      have ls := fun hp => run_less x q hx hq64 hp
      by_cases hl : kw x < kw q
      · simp [hi, e3, getSc, getC, g1, hpos, w1, g2, ls, hl, B67_7_eq, ordG]
      · simp [hi, e3, getSc, getC, g1, hpos, w1, g2, ls, hl, hw, h, B67_8_eq, ordG]
theorem run_gcheck (K : Int) (g : Gs) (k : Nat) (hg : g.W) (hp : Hp) : run cxX 67 [g.av K k] hp = some (.sc (.int .i64 (gchk K g.nf)), hp) := by
  rw [E67]
  have b2 : B67_2 hp = some (.sc (.int .i64 2), hp) := by rw [B67_2_eq]; simp
  have hl : g.nf.L.length = g.L.length := by simp [Gs.nf]
  unfold gchk
  rw [hl]
  by_cases h1 : K < 1
  · simp [getSc, h1, b2]
  · by_cases h2 : 16 < K
    · simp [getSc, h1, h2, b2]
    · by_cases h3 : K < (g.L.length : Int)
      · simp [getSc, getC, h1, h2, h3, b2]
      · have l := gcheck_loop K g (rk k) hg hp g.L none 0 rfl (by simp) (by simp)
        have e : g.nf.L = g.L.map kw := rfl
        simp at l
        simp [getSc, getC, h1, h2, h3, B67_3_eq, l, e]
/-! ### what both measured, by keys -/
def gmgN (K : Int) (g o : GN) : GN := ⟨plus g.M o.M, plus g.e0 o.e0, plus g.e1 o.e1, plus g.e2 o.e2, plus g.e3 o.e3, plus g.e4 o.e4, plus g.e5 o.e5, min g.lo o.lo, max g.hi o.hi, (mk g.L o.L).take K.toNat⟩
theorem plus_in {a b : Int} (ha : In32' a) (hb : In32' b) : In32' (plus a b) := by
  unfold In32' at *; unfold plus; split <;> omega
theorem gmg_nf (K : Int) (g o : Gs) : (gmg K g o).nf = gmgN K g.nf o.nf := by
  simp only [Gs.nf, gmg, gmgN, kw_fmin, kw_fmax, ← gm_keys _ _ _ rfl, List.map_take]
theorem gmg_W {K : Int} {g o : Gs} (hK : K ≤ 100000) (hg : g.W) (ho : o.W) : (gmg K g o).W where
  M := plus_in hg.M ho.M
  e0 := plus_in hg.e0 ho.e0
  e1 := plus_in hg.e1 ho.e1
  e2 := plus_in hg.e2 ho.e2
  e3 := plus_in hg.e3 ho.e3
  e4 := plus_in hg.e4 ho.e4
  e5 := plus_in hg.e5 ho.e5
  lo := fmin_lt hg.lo ho.lo
  hi := fmax_lt hg.hi ho.hi
  L := fun w hw => by
    rcases mem_gm w _ _ _ rfl (List.mem_of_mem_take hw) with h | h
    · exact hg.L w h
    · exact ho.L w h
  len := by
    show ((gm g.L o.L).take K.toNat).length ≤ 100000
    rw [List.length_take]; omega
theorem run_gmW (K K' : Int) {g o : Gs} (k k' : Nat) (hg : g.W) (ho : o.W) (hp : Hp) :
    run cxX 131 [g.av K k, o.av K' k'] hp = some ((gmg K g o).av K 2, hp) := by
  have l1 := hg.len
  have l2 := ho.len
  exact run_gmerge K K' g.M o.M g.e0 g.e1 g.e2 g.e3 g.e4 g.e5 o.e0 o.e1 o.e2 o.e3 o.e4 o.e5 g.lo g.hi o.lo o.hi g.L o.L k k' ⟨hg.M, ho.M⟩ ⟨hg.e0, ho.e0⟩ ⟨hg.e1, ho.e1⟩ ⟨hg.e2, ho.e2⟩ ⟨hg.e3, ho.e3⟩ ⟨hg.e4, ho.e4⟩ ⟨hg.e5, ho.e5⟩ ⟨hg.lo, ho.lo⟩ ⟨hg.hi, ho.hi⟩ hg.L ho.L (by omega) hp
/-! ### what holds of it -/
theorem gchk_ok {K : Int} {g : GN} : gchk K g = 0 ↔ (1 ≤ K ∧ K ≤ 16) ∧ (g.L.length : Int) ≤ K ∧ Up g.L ∧ g.lo ≠ nanK ∧ g.hi ≠ nanK := by
  unfold gchk gchkE
  constructor
  · intro h
    split at h
    · cases h
    · split at h
      · split at h
        · cases h
        · rename_i h1 h2 h3
          exact ⟨by omega, by omega, ordG_up h2, fun e => h3 (.inl e), fun e => h3 (.inr e)⟩
      · cases h
  · rintro ⟨h1, h2, h3, h4, h5⟩
    rw [if_neg (by omega), if_pos (up_ordG h3), if_neg (fun e => e.elim h4 h5)]
theorem gchk_merge {K : Int} {g o : GN} (hg : gchk K g = 0) (ho : gchk K o = 0) : gchk K (gmgN K g o) = 0 := by
  rw [gchk_ok] at *
  obtain ⟨h1, h2, h3, h4, h5⟩ := hg
  obtain ⟨f1, f2, f3, f4, f5⟩ := ho
  refine ⟨h1, ?_, ?_, ?_, ?_⟩
  · simp only [gmgN, List.length_take]; omega
  · exact List.Pairwise.sublist (List.take_sublist _ _) (mk_up _ _ h3 f3)
  · show min g.lo o.lo ≠ nanK; omega
  · show max g.hi o.hi ≠ nanK; omega
theorem plus_comm' (a b : Int) : plus a b = plus b a := by unfold plus; rw [Int.add_comm]
theorem plus_assoc' {a b c : Int} (ha : 0 ≤ a) (hb : 0 ≤ b) (hc : 0 ≤ c) : plus (plus a b) c = plus a (plus b c) := by
  unfold plus
  repeat' split
  all_goals omega
theorem plus_zero {a : Int} (ha : 0 ≤ a ∧ a < 4294967296) : plus a 0 = a := by unfold plus; rw [if_pos (by omega)]; omega
/-- Numbers of a gauge that are at least 0. -/
def GN.Pos (g : GN) : Prop := In32' g.M ∧ In32' g.e0 ∧ In32' g.e1 ∧ In32' g.e2 ∧ In32' g.e3 ∧ In32' g.e4 ∧ In32' g.e5
theorem Gs.W.pos {g : Gs} (h : g.W) : g.nf.Pos := ⟨h.M, h.e0, h.e1, h.e2, h.e3, h.e4, h.e5⟩
theorem gmgN_pos {K : Int} {g o : GN} (hg : g.Pos) (ho : o.Pos) : (gmgN K g o).Pos := by
  obtain ⟨h1, h2, h3, h4, h5, h6, h7⟩ := hg
  obtain ⟨f1, f2, f3, f4, f5, f6, f7⟩ := ho
  exact ⟨plus_in h1 f1, plus_in h2 f2, plus_in h3 f3, plus_in h4 f4, plus_in h5 f5, plus_in h6 f6, plus_in h7 f7⟩
theorem mk_comm {a b : List Nat} (ha : Up a) (hb : Up b) : mk a b = mk b a :=
  up_ext (mk_up _ _ ha hb) (mk_up _ _ hb ha) ((mk_perm a b).trans (List.perm_append_comm.trans (mk_perm b a).symm))
theorem mk_assoc {a b c : List Nat} (ha : Up a) (hb : Up b) (hc : Up c) : mk (mk a b) c = mk a (mk b c) := by
  have e : (a ++ b ++ c).Perm (a ++ (b ++ c)) := by rw [List.append_assoc]
  exact up_ext (mk_up _ _ (mk_up _ _ ha hb) hc) (mk_up _ _ ha (mk_up _ _ hb hc)) (((mk_perm _ c).trans ((mk_perm a b).append_right c)).trans (e.trans (((mk_perm b c).symm.append_left a).trans (mk_perm a _).symm)))
theorem gmgN_comm {K : Int} {g o : GN} (hg : gchk K g = 0) (ho : gchk K o = 0) : gmgN K g o = gmgN K o g := by
  obtain ⟨_, _, h3, _, _⟩ := gchk_ok.mp hg
  obtain ⟨_, _, f3, _, _⟩ := gchk_ok.mp ho
  simp only [gmgN, plus_comm' g.M, plus_comm' g.e0, plus_comm' g.e1, plus_comm' g.e2, plus_comm' g.e3, plus_comm' g.e4, plus_comm' g.e5, Nat.min_comm g.lo, Nat.max_comm g.hi, mk_comm h3 f3]
theorem take_mk_l (A B : List Nat) (k : Nat) : (mk (A.take k) B).take k = (mk A B).take k := by
  have := take_mk A B k k (max k B.length) (by omega) (by omega)
  rw [List.take_of_length_le (by omega : B.length ≤ max k B.length)] at this
  exact this
theorem take_mk_r (A B : List Nat) (k : Nat) : (mk A (B.take k)).take k = (mk A B).take k := by
  have := take_mk A B k (max k A.length) k (by omega) (by omega)
  rw [List.take_of_length_le (by omega : A.length ≤ max k A.length)] at this
  exact this
theorem gmgN_assoc {K : Int} {a b c : GN} (ha : gchk K a = 0) (hb : gchk K b = 0) (hc : gchk K c = 0) (pa : a.Pos) (pb : b.Pos) (pc : c.Pos) : gmgN K (gmgN K a b) c = gmgN K a (gmgN K b c) := by
  obtain ⟨_, _, h3, _, _⟩ := gchk_ok.mp ha
  obtain ⟨_, _, f3, _, _⟩ := gchk_ok.mp hb
  obtain ⟨_, _, g3, _, _⟩ := gchk_ok.mp hc
  obtain ⟨a1, a2, a3, a4, a5, a6, a7⟩ := pa
  obtain ⟨b1, b2, b3, b4, b5, b6, b7⟩ := pb
  obtain ⟨c1, c2, c3, c4, c5, c6, c7⟩ := pc
  simp only [gmgN, plus_assoc' a1.1 b1.1 c1.1, plus_assoc' a2.1 b2.1 c2.1, plus_assoc' a3.1 b3.1 c3.1, plus_assoc' a4.1 b4.1 c4.1, plus_assoc' a5.1 b5.1 c5.1, plus_assoc' a6.1 b6.1 c6.1, plus_assoc' a7.1 b7.1 c7.1, Nat.min_assoc, Nat.max_assoc, take_mk_l, take_mk_r, mk_assoc h3 f3 g3]
theorem gnew_nf : gnew.nf = ⟨0, 0, 0, 0, 0, 0, 0, 18442240474082181120, 4503599627370495, []⟩ := by decide
theorem in0 : In32' 0 := ⟨by decide, by decide⟩
theorem gnew_W : gnew.W := ⟨in0, in0, in0, in0, in0, in0, in0, by decide, by decide, by simp [gnew, Ws], by decide⟩
theorem kw_bounds {w : Nat} (h : w < 18446744073709551616) (hn : ¬isN w) : 4503599627370495 ≤ kw w ∧ kw w ≤ 18442240474082181120 := by
  have hn' : ¬(9218868437227405312 < w % 9223372036854775808) := hn
  unfold kw
  rw [if_neg hn]
  split <;> omega
theorem gmgN_new {K : Int} {g : Gs} (hg : g.W) (hc : gchk K g.nf = 0) : gmgN K g.nf gnew.nf = g.nf := by
  obtain ⟨k1, l1, u1, n1, n2⟩ := gchk_ok.mp hc
  have b1 := kw_bounds hg.lo (fun h => n1 ((kw_isN hg.lo).mp h))
  have b2 := kw_bounds hg.hi (fun h => n2 ((kw_isN hg.hi).mp h))
  have hl : g.nf.L.take K.toNat = g.nf.L := List.take_of_length_le (by omega)
  have e1 : min (kw g.lo) 18442240474082181120 = kw g.lo := by omega
  have e2 : max (kw g.hi) 4503599627370495 = kw g.hi := by omega
  rw [gnew_nf]
  simp only [gmgN, mk_nil_r, hl]
  simp only [Gs.nf, plus_zero hg.M, plus_zero hg.e0, plus_zero hg.e1, plus_zero hg.e2, plus_zero hg.e3, plus_zero hg.e4, plus_zero hg.e5, e1, e2]
end Go.Proofs.YtchmioacjkbfcaaGreat.AI
