/- Sets of numbers: two as one, the same, may it be one; numbers in any order as a set. -/
import Derived.Test.YtchmioacjkbfcaaGreatEqSet
import Derived.Test.YtchmioacjkbfcaaGreatEqLaw11
import Derived.Test.YtchmioacjkbfcaaGreatMe
import Derived.Test.YtchmioacjkbfcaaGreatMd
import Derived.Test.YtchmioacjkbfcaaGreatMe
namespace Go.Proofs.YtchmioacjkbfcaaGreat.AI
open Go
set_option linter.unusedVariables false
set_option linter.unusedSimpArgs false
set_option maxRecDepth 100000

/-! ### Or -/
/-! ### Same -/
theorem ssame_loop (a b : List Int) (k k' : Nat) (hab : a.length = b.length) (hl : a.length ≤ 1000000) (hp : Hp) : ∀ (r s : List Int) (i : Nat), a.drop i = r → b.drop i = s →
    B116_4 (S k 1 (LI .u32 a)) (S k' 1 (LI .u32 b)) (.int .i64 a.length) (.int .i64 i) hp = some (.sc (.bool (decide (r = s))), hp) := by
  intro r
  induction r with
  | nil =>
    intro s i hr hs
    have h1 := drop_nil hr
    have h2 : s = [] := by rw [← hs]; exact List.drop_eq_nil_of_le (by omega)
    have hlt : ¬((i : Int) < (a.length : Int)) := by omega
    rw [B116_4_eq]
    simp [hlt, h2]
  | cons x r ih =>
    intro s i hr hs
    obtain ⟨e1, e2, hi, e3⟩ := drop_cons hr
    rw [B116_4_eq]
    have hw : IntKind.i64.wrap ((i : Int) + 1) = ((i + 1 : Nat) : Int) := by rw [wrap64] <;> omega
    cases s with
    | nil => have := drop_nil hs; omega
    | cons y s =>
      obtain ⟨f1, f2, hj, f3⟩ := drop_cons hs
      have h := ih s (i + 1) e2 f2
      simp at h hw
      by_cases e : x = y
      · simp [hi, hj, getSc, e3, f3, e, hw, h]
      · simp [hi, hj, getSc, e3, f3, e]
theorem run_ssame (a b : List Int) (k k' : Nat) (hp : Hp) (ha : a.length ≤ 1000000) :
    run cxX 116 [S k 1 (LI .u32 a), S k' 1 (LI .u32 b)] hp = some (.sc (.bool (decide (a = b))), hp) := by
  rw [E116]
  by_cases h3 : a.length = b.length
  · have h := ssame_loop a b k k' h3 ha hp a b 0 rfl rfl
    simp at h
    rw [h3] at h
    simp [h3, h]
  · have h4 : ¬(a = b) := fun e => h3 (by rw [e])
    have h5 : ¬((a.length : Int) = (b.length : Int)) := by omega
    simp [h4, h5]
/-! ### Check -/
/-- Do they rise? -/
def ordS : List Int → Int
  | [] => 0
  | [_] => 0
  | x :: y :: r => if y ≤ x then 8 else ordS (y :: r)
def schk (l : List Int) : Int := if 4096 < l.length then 7 else ordS l
theorem ordS_rise : ∀ {l : List Int}, Rise l → ordS l = 0
  | [], _ => rfl
  | [_], _ => rfl
  | x :: y :: r, h => by
    have h' := List.pairwise_cons.mp h
    have hxy := h'.1 y (by simp)
    show (if y ≤ x then 8 else ordS (y :: r)) = 0
    rw [if_neg (by omega)]
    exact ordS_rise h'.2
theorem rise_ordS : ∀ {l : List Int}, ordS l = 0 → Rise l
  | [], _ => List.Pairwise.nil
  | [_], _ => by simp
  | x :: y :: r, h => by
    have h : (if y ≤ x then 8 else ordS (y :: r)) = 0 := h
    split at h
    · cases h
    · rename_i hxy
      have ih := rise_ordS h
      have ih' := List.pairwise_cons.mp ih
      refine List.pairwise_cons.mpr ⟨fun n hn => ?_, ih⟩
      rcases List.mem_cons.mp hn with rfl | hn
      · omega
      · have := ih'.1 n hn; omega
theorem scheck_loop (l : List Int) (k : Nat) (hl : l.length ≤ 4096) (hp : Hp) : ∀ (r : List Int) (x : Int) (j : Nat), l.drop j = x :: r →
    B62_4 (S k 1 (LI .u32 l)) (.int .i64 ((j + 1 : Nat) : Int)) hp = some (.sc (.int .i64 (ordS (x :: r))), hp) := by
  intro r
  induction r with
  | nil =>
    intro x j hr
    obtain ⟨e1, e2, hi, e3⟩ := drop_cons hr
    have := drop_nil e2
    have hlt : ¬((j : Int) + 1 < (l.length : Int)) := by omega
    rw [B62_4_eq]
    simp [hlt, ordS]
  | cons y r ih =>
    intro x j hr
    obtain ⟨e1, e2, hi, e3⟩ := drop_cons hr
    obtain ⟨f1, f2, hj, f3⟩ := drop_cons e2
    have hlt : (j : Int) + 1 < (l.length : Int) := by omega
    have hw : IntKind.i64.wrap ((j : Int) + 1 - 1) = (j : Int) := by rw [wrap64] <;> omega
    have hw2 : IntKind.i64.wrap ((j : Int) + 1 + 1) = ((j + 1 + 1 : Nat) : Int) := by rw [wrap64] <;> omega
    have hz : (0 : Int) ≤ (j : Int) + 1 := by omega
    have hn : ((j : Int) + 1).toNat = j + 1 := by omega
    have h := ih y (j + 1) e2
    rw [B62_4_eq]
    simp at h hw hw2
    by_cases hxy : y ≤ x
    · simp [hlt, hw, hz, hn, hi, hj, getSc, e3, f3, hxy, ordS]
    · simp [hlt, hw, hw2, hz, hn, hi, hj, getSc, e3, f3, hxy, ordS, h]
theorem run_scheck (l : List Int) (k : Nat) (hp : Hp) : run cxX 62 [S k 1 (LI .u32 l)] hp = some (.sc (.int .i64 (schk l)), hp) := by
  rw [E62]
  unfold schk
  by_cases hl : 4096 < l.length
  · have : (4096 : Int) < (l.length : Int) := by omega
    simp [hl, this]
  · have : ¬((4096 : Int) < (l.length : Int)) := by omega
    cases l with
    | nil =>
      have h0 : B62_4 (S k 1 []) (.int .i64 1) hp = some (.sc (.int .i64 0), hp) := by
        rw [B62_4_eq]
        simp
      simp [h0, ordS]
    | cons x r =>
      have h := scheck_loop (x :: r) k (by omega) hp r x 0 rfl
      simp at h hl this
      have h1 : ¬(4096 < r.length + 1) := by omega
      have h2 : ¬((4096 : Int) < (r.length : Int) + 1) := by omega
      simp [h, h1, h2]
/-! ### numbers in any order as a set -/
/-- A slice that may be written, or none. -/
def MsR (hp : Hp) (x : AV) (l : List Int) : Prop := (l = [] ∧ x = S 2 1 []) ∨ (l ≠ [] ∧ ∃ b, x = .ms b 0 0 l.length 1 ∧ hp.rd b 0 = some (LI .u32 l))
theorem MsR.len {hp : Hp} {x : AV} {l : List Int} (h : MsR hp x l) : lenA (ro x) = some l.length := by
  rcases h with ⟨rfl, rfl⟩ | ⟨_, b, rfl, _⟩
  · simp
  · simp
theorem mrg_ins {a b : List Int} {n : Int} (h : Rise (a ++ b)) (ha : ∀ x ∈ a, x < n) (hb : ∀ x ∈ b, n < x) : mrg (a ++ b) [n] = a ++ n :: b := by
  have h' := List.pairwise_append.mp h
  refine rise_ext (rise_mrg _ _ h (by simp)) ?_ (fun x => ?_)
  · refine List.pairwise_append.mpr ⟨h'.1, List.pairwise_cons.mpr ⟨fun x hx => hb x hx, h'.2.1⟩, fun x hx y hy => ?_⟩
    rcases List.mem_cons.mp hy with rfl | hy
    · exact ha x hx
    · exact h'.2.2 x hx y hy
  · rw [mem_mrg]; simp
    constructor
    · rintro ((h | h) | h) <;> simp [h]
    · rintro (h | h | h) <;> simp [h]
theorem of_ins (a b : List Int) (n : Int) (x x8 : AV) (v9 v10 : Value) (hp : Hp) (hx : MsR hp x (a ++ b)) (hl : (a ++ b).length < 4096) :
    ∃ x' hp', MsR hp' x' (a ++ n :: b) ∧ B73_9 x (.int .u32 n) (.int .i64 a.length) x8 v9 v10 hp = B73_14 x' x8 v9 v10 hp' := by
  have hne : ¬(((a ++ b).length : Int) = 4096) := by omega
  -- the append
  obtain ⟨c, hp1, hc, ap⟩ : ∃ c hp1, hp1.rd c 0 = some (LI .u32 (a ++ b ++ [0])) ∧ appM 4 1 (ro x) (S 1 1 [.sc (.int .u32 0)]) hp = some (.ms c 0 0 ((a ++ b).length + 1) 1, hp1) := by
    rcases hx with ⟨e, rfl⟩ | ⟨e, c, rfl, hc⟩
    · refine ⟨hp.next, hp.new (LI .u32 [0]), ?_, ?_⟩
      · rw [e]; exact rd_new _ _
      · rw [e]; exact appM_first .u32 0 4 (by decide) hp
    · exact ⟨hp.next, (hp.del c).new (LI .u32 (a ++ b ++ [0])), rd_new (hp.del c) _, appM_one .u32 (a ++ b) 0 4 c (by decide) (by omega) e hp hc⟩
  have e0 : (a ++ b ++ [0]).length = (a ++ b).length + 1 := by simp; omega
  have e1 : (a ++ b).length = a.length + b.length := by simp
  have lx := hx.len
  -- the copy
  have sm := srcM_ms .u32 (a ++ b ++ [0]) hp1 c a.length ((a ++ b).length + 1 - a.length) hc (by omega)
  have sm2 : ((a ++ b ++ [0]).drop a.length).take ((a ++ b).length + 1 - a.length) = b ++ [0] := by
    rw [List.append_assoc, List.drop_left]
    exact List.take_of_length_le (by simp; omega)
  rw [sm2] at sm
  have cp : (copyA 1 ((a ++ b).length + 1 - (a.length + 1)) (LI .u32 (b ++ [0]))).2 = LI .u32 b := by
    unfold copyA
    simp only [many_one, lenI, Nat.mul_one]
    have e : min (b ++ [0]).length ((a ++ b).length + 1 - (a.length + 1)) = b.length := by simp
    rw [e, takeI, List.take_left]
  have p1 := putNs_I .u32 (a ++ b ++ [0]) b (a.length + 1) (by omega)
  have p1' : (a ++ b ++ [0]).take (a.length + 1) ++ b ++ (a ++ b ++ [0]).drop (a.length + 1 + b.length) = a ++ ((b ++ [0]).take 1 ++ b) := by
    have d : (a ++ b ++ [0]).drop (a.length + 1 + b.length) = [] := List.drop_eq_nil_of_le (by omega)
    rw [d, List.append_nil, List.append_assoc a b, List.take_append]
    have e : a.length + 1 - a.length = 1 := by omega
    rw [e, List.take_of_length_le (by omega : a.length ≤ a.length + 1), List.append_assoc]
  rw [p1'] at p1
  obtain ⟨z, hz⟩ : ∃ z, (b ++ [0]).take 1 = [z] := by
    cases b with
    | nil => exact ⟨0, rfl⟩
    | cons y b => exact ⟨y, rfl⟩
  rw [hz] at p1
  have hlen2 : (a ++ ([z] ++ b)).length = (a ++ b).length + 1 := by simp; omega
  have p2 := putN_I .u32 (a ++ ([z] ++ b)) a.length n (by simp)
  have p2' : (a ++ ([z] ++ b)).set a.length n = a ++ n :: b := by simp
  rw [p2'] at p2
  have hlen3 : (a ++ n :: b).length = (a ++ b).length + 1 := by simp; omega
  have w1 : IntKind.i64.wrap ((a.length : Int) + ((1 : Nat) : Int)) = ((a.length + 1 : Nat) : Int) := by rw [wrap64] <;> omega
  have bd1 := bound_nat (hi := (a ++ b).length + 1) (d := 0) (n := a.length + 1) .i64 (by omega)
  have bd2 := bound_nat (hi := (a ++ b).length + 1) (d := 0) (n := a.length) .i64 (by omega)
  have ix := idx_nat (n := (a ++ b).length + 1) (i := a.length) .i64 (by omega)
  refine ⟨.ms c 0 0 (a ++ n :: b).length 1, ((hp1.put c 0 (LI .u32 (a ++ ([z] ++ b)))).put c 0 (LI .u32 (a ++ n :: b))), .inr ⟨by simp, c, rfl, rd_put _ _ _⟩, ?_⟩
  rw [hlen3, B73_9_eq]
  have hz0 : (((a ++ b).length : Nat) : Int) = ((4096 : Nat) : Int) ↔ False := ⟨fun h => hne (by omega), False.elim⟩
  have uS : AV.us 1 [ro1 (AV.sc (.int .u32 (0 : Int)))] = S 1 1 [.sc (.int .u32 0)] := rfl
  have ov : okV [AV.sc (Value.int IntKind.u32 (0 : Int))] = some () := by rw [okV_eq]; exact if_pos (by simp)
  generalize (a ++ b).length = m at *
  have z0 : ((0 : Nat) : Int) = 0 := rfl
  simp only [lx, Option.bind_some, Int.ofNat_eq_natCast, binV_eql, hz0, z0, chk_true, decide_false, asB_bool, cond_false, ov, uS, ap, binV_add, w1, ro_ms, getMs_ms, bound_none, bd1, bd2, chkN_eq, chk_eq, sm, hc, Nat.add_eq, Nat.zero_add, Nat.sub_eq, cp, p1, ix, rd_put, p2]
theorem of_scan (n : Int) (x8 : AV) (v9 v10 : Value) : ∀ (m : Nat) (a b : List Int) (x : AV) (hp : Hp), a.length = m → MsR hp x (a ++ b) → Rise (a ++ b) → (∀ y ∈ b, n < y) → (a ++ b).length < 4096 →
    ∃ x' hp', MsR hp' x' (mrg (a ++ b) [n]) ∧ B73_6 x (.int .u32 n) (.int .i64 a.length) x8 v9 v10 hp = B73_14 x' x8 v9 v10 hp' := by
  intro m
  induction m with
  | zero =>
    intro a b x hp hm hx hr hb hl
    have : a = [] := List.length_eq_zero_iff.mp hm
    subst this
    obtain ⟨x', hp', h1, h2⟩ := of_ins [] b n x x8 v9 v10 hp hx hl
    refine ⟨x', hp', ?_, ?_⟩
    · rw [mrg_ins hr (by simp) hb]; exact h1
    · rw [B73_6_eq]
      simpa using h2
  | succ m ih =>
    intro a b x hp hm hx hr hb hl
    obtain ⟨a', y, rfl⟩ : ∃ a' y, a = a' ++ [y] := ⟨a.dropLast, a.getLast (by intro e; subst e; simp at hm), (List.dropLast_concat_getLast _).symm⟩
    have hm' : a'.length = m := by simpa using hm
    have hne : a' ++ [y] ++ b ≠ [] := by simp
    obtain ⟨c, rfl, hc⟩ : ∃ c, x = .ms c 0 0 (a' ++ [y] ++ b).length 1 ∧ hp.rd c 0 = some (LI .u32 (a' ++ [y] ++ b)) := by
      rcases hx with ⟨e, _⟩ | ⟨_, c, h1, h2⟩
      · exact absurd e hne
      · exact ⟨c, h1, h2⟩
    have hpos : (0 : Int) < ((a' ++ [y]).length : Int) := by omega
    have hm4 : m < 4096 := by simp at hl; omega
    have w1 : IntKind.i64.wrap (((a' ++ [y]).length : Int) - 1) = (a'.length : Int) := by rw [hm, wrap64] <;> omega
    have ix := idx_nat (n := (a' ++ [y] ++ b).length) (i := a'.length) .i64 (by simp)
    have gs : (a' ++ [y] ++ b)[a'.length]? = some y := by simp
    have hr' := List.pairwise_append.mp hr
    have hra := List.pairwise_append.mp hr'.1
    rw [B73_6_eq]
    have hpos' : (((a' ++ [y]).length : Nat) : Int) > ((0 : Nat) : Int) ↔ True := ⟨fun _ => trivial, fun _ => hpos⟩
    have w1' : IntKind.i64.wrap ((((a' ++ [y]).length : Nat) : Int) - ((1 : Nat) : Int)) = (a'.length : Int) := w1
    by_cases hy : n ≤ y
    · have hge : (y ≥ n) ↔ True := ⟨fun _ => trivial, fun _ => hy⟩
      by_cases he : y = n
      · -- it is there
        subst he
        refine ⟨.ms c 0 0 (a' ++ [y] ++ b).length 1, hp, ?_, ?_⟩
        · rw [mrg_sub hr (by simp) (by simp)]
          exact .inr ⟨hne, c, rfl, hc⟩
        · generalize hN : (a' ++ [y] ++ b).length = N at *
          simp only [Int.ofNat_eq_natCast, binV_gtr, hpos', decide_true, asB_bool, Option.bind_some, cond_true, binV_sub, w1', ro_ms, getMs_ms, ix, chkN_eq, chk_eq, chk_true, hc, Nat.add_eq, Nat.zero_add, getSc, getI?, gs, Option.map_some, asSc_sc, binV_geq, hge]
          rw [B73_7_eq]
          simp only [Int.ofNat_eq_natCast, binV_gtr, hpos', decide_true, asB_bool, Option.bind_some, cond_true, binV_sub, w1', ro_ms, getMs_ms, ix, chkN_eq, chk_eq, chk_true, hc, Nat.add_eq, Nat.zero_add, getSc, getI?, gs, Option.map_some, asSc_sc, binV_eql]
      · have e2 : a' ++ [y] ++ b = a' ++ (y :: b) := by simp
        obtain ⟨x', hp', h1, h2⟩ := ih a' (y :: b) (.ms c 0 0 (a' ++ [y] ++ b).length 1) hp hm' (by rw [← e2]; exact .inr ⟨hne, c, rfl, hc⟩) (by rw [← e2]; exact hr) (fun z hz => by
          rcases List.mem_cons.mp hz with rfl | hz
          · omega
          · exact hb z hz) (by rw [← e2]; exact hl)
        refine ⟨x', hp', by rw [e2]; exact h1, ?_⟩
        have hne2 : (y = n) ↔ False := ⟨fun h => he h, False.elim⟩
        generalize hN : (a' ++ [y] ++ b).length = N at *
        simp only [Int.ofNat_eq_natCast, binV_gtr, hpos', decide_true, asB_bool, Option.bind_some, cond_true, binV_sub, w1', ro_ms, getMs_ms, ix, chkN_eq, chk_eq, chk_true, hc, Nat.add_eq, Nat.zero_add, getSc, getI?, gs, Option.map_some, asSc_sc, binV_geq, hge]
        rw [B73_7_eq]
        simp only [Int.ofNat_eq_natCast, binV_gtr, hpos', decide_true, asB_bool, Option.bind_some, cond_true, cond_false, decide_false, binV_sub, w1', ro_ms, getMs_ms, ix, chkN_eq, chk_eq, chk_true, hc, Nat.add_eq, Nat.zero_add, getSc, getI?, gs, Option.map_some, asSc_sc, binV_eql, hne2]
        exact h2
    · have hge : (y ≥ n) ↔ False := ⟨fun h => hy h, False.elim⟩
      obtain ⟨x', hp', h1, h2⟩ := of_ins (a' ++ [y]) b n (.ms c 0 0 (a' ++ [y] ++ b).length 1) x8 v9 v10 hp (.inr ⟨hne, c, rfl, hc⟩) hl
      refine ⟨x', hp', ?_, ?_⟩
      · rw [mrg_ins hr (fun z hz => ?_) hb]
        · exact h1
        · rcases List.mem_append.mp hz with hz | hz
          · have := hra.2.2 z hz y (by simp); omega
          · simp at hz; omega
      · generalize hN : (a' ++ [y] ++ b).length = N at *
        simp only [Int.ofNat_eq_natCast, binV_gtr, hpos', decide_true, decide_false, asB_bool, Option.bind_some, cond_true, cond_false, binV_sub, w1', ro_ms, getMs_ms, ix, chkN_eq, chk_eq, chk_true, hc, Nat.add_eq, Nat.zero_add, getSc, getI?, gs, Option.map_some, asSc_sc, binV_geq, hge]
        exact h2
theorem of_loop (l : List Int) (k : Nat) (hl : l.length ≤ 4096) : ∀ (r : List Int) (i : Nat) (s : List Int) (x : AV) (hp : Hp), l.drop i = r → Rise s → s.length ≤ i → i ≤ l.length → MsR hp x s →
    ∃ t hp', B73_3 x (S k 1 (LI .u32 l)) (.int .i64 l.length) (.int .i64 i) hp = some (.tup [S t 1 (LI .u32 (srt s r)), .sc (.int .i64 0)], hp') := by
  intro r
  induction r with
  | nil =>
    intro i s x hp hr hs hsl hil hx
    have := drop_nil hr
    have hlt : ¬((i : Int) < (l.length : Int)) := by omega
    rcases hx with ⟨rfl, rfl⟩ | ⟨_, b, rfl, hb⟩
    · refine ⟨2, hp, ?_⟩
      rw [B73_3_eq]
      simp [hlt, srt]
    · have f := frz1_I .u32 s hp b hb
      refine ⟨0, hp.del b, ?_⟩
      rw [B73_3_eq]
      simp [hlt, srt, f]
  | cons y r ih =>
    intro i s x hp hr hs hsl hil hx
    obtain ⟨e1, e2, hi, e3⟩ := drop_cons hr
    have hw : IntKind.i64.wrap ((i : Int) + 1) = ((i + 1 : Nat) : Int) := by rw [wrap64] <;> omega
    obtain ⟨x', hp1, h1, h2⟩ := of_scan y (S k 1 (LI .u32 l)) (.int .i64 l.length) (.int .i64 i) s.length s [] x hp rfl (by simpa using hx) (by simpa using hs) (by simp) (by simp; omega)
    rw [List.append_nil] at h1
    have hl1 : (mrg s [y]).length ≤ s.length + 1 := by simpa using len_mrg s [y]
    obtain ⟨t, hp', h⟩ := ih (i + 1) (mrg s [y]) x' hp1 e2 (rise_mrg _ _ hs (by simp)) (by omega) (by omega) h1
    refine ⟨t, hp', ?_⟩
    have lx := hx.len
    rw [B73_3_eq]
    have h14 : B73_14 x' (S k 1 (LI .u32 l)) (.int .i64 l.length) (.int .i64 i) hp1 = B73_3 x' (S k 1 (LI .u32 l)) (.int .i64 l.length) (.int .i64 ((i + 1 : Nat) : Int)) hp1 := by
      rw [B73_14_eq]
      simp at hw
      simp [hw]
    rw [h14] at h2
    simp at h2 h
    simp [hi, e3, getSc, lx, h2, h, srt]
theorem run_of_set (l : List Int) (k : Nat) (hl : l.length ≤ 4096) (hp : Hp) : ∃ t hp', run cxX 73 [S k 1 (LI .u32 l)] hp = some (.tup [S t 1 (LI .u32 (srt [] l)), .sc (.int .i64 0)], hp') := by
  obtain ⟨t, hp', h⟩ := of_loop l (rk k) hl l 0 [] (S 2 1 []) hp rfl List.Pairwise.nil (by simp) (by simp) (.inl ⟨rfl, rfl⟩)
  refine ⟨t, hp', ?_⟩
  rw [E73]
  simpa using h
theorem law11_loop (l : List Int) (k : Nat) (hl : l.length ≤ 4096) (hp : Hp) : ∀ (r : List Int) (i : Nat) (a : List Int), l.drop i = r → a.length ≤ i → i ≤ l.length →
    ∃ t, B26_3 (.bool false) (S 2 1 (LI .u32 a)) (S k 1 (LI .u32 l)) (.int .i64 l.length) (.int .i64 i) hp = some (.tup [S t 1 (LI .u32 (srt [] (a ++ r))), .sc (.int .i64 0)], hp) := by
  intro r
  induction r with
  | nil =>
    intro i a hr ha hil
    have := drop_nil hr
    have hlt : ¬((i : Int) < (l.length : Int)) := by omega
    obtain ⟨t, hp', h⟩ := run_of_set a 3 (by omega) hp0
    refine ⟨t, ?_⟩
    rw [B26_3_eq]
    simp [hlt, h]
  | cons y r ih =>
    intro i a hr ha hil
    obtain ⟨e1, e2, hi, e3⟩ := drop_cons hr
    have hw : IntKind.i64.wrap ((i : Int) + 1) = ((i + 1 : Nat) : Int) := by rw [wrap64] <;> omega
    have ap := appI .u32 a 2 (.inr rfl) 4 (by decide) y (by omega)
    obtain ⟨t, h⟩ := ih (i + 1) (a ++ [y]) e2 (by simp; omega) (by omega)
    refine ⟨t, ?_⟩
    rw [B26_3_eq]
    simp at h hw ap
    simp [hi, e3, getSc, B26_7_eq, ap, hw, h]
theorem run_of11 (l : List Int) (k : Nat) (hl : l.length ≤ 4096) (hp : Hp) : ∃ t, run cxX 26 [S k 1 (LI .u32 l), .sc (.bool false)] hp = some (.tup [S t 1 (LI .u32 (srt [] l)), .sc (.int .i64 0)], hp) := by
  obtain ⟨t, h⟩ := law11_loop l (rk k) hl hp l 0 [] rfl (by simp) (by simp)
  refine ⟨t, ?_⟩
  rw [E26]
  simp at h
  simp [h]
end Go.Proofs.YtchmioacjkbfcaaGreat.AI
