/- Rows of counts: may it be one, the same, two as one, a hash more, of many hashes. -/
import Derived.Test.YtchmioacjkbfcaaGreatEqLaw15
import Derived.Test.YtchmioacjkbfcaaGreatSpGauge
import Derived.Test.YtchmioacjkbfcaaGreatPairs
namespace Go.Proofs.YtchmioacjkbfcaaGreat.AI
open Go
set_option linter.unusedVariables false
set_option linter.unusedSimpArgs false
set_option maxRecDepth 100000

abbrev Cv (R C : Int) (x : AV) : AV := .agg [.sc (.int .i64 R), .sc (.int .i64 C), x]
def cchk (R C : Int) (l : List Int) : Int := if R < 1 ∨ 8 < R ∨ C < 1 ∨ 256 < C then 2 else if (l.length : Int) ≠ R * C then 6 else 0
theorem cmul {R C : Int} (hR : 1 ≤ R ∧ R ≤ 8) (hC : 1 ≤ C ∧ C ≤ 256) : 0 ≤ R * C ∧ R * C ≤ 2048 := by
  obtain ⟨r, rfl⟩ : ∃ r : Nat, R = r := ⟨R.toNat, by omega⟩
  obtain ⟨c, rfl⟩ : ∃ c : Nat, C = c := ⟨C.toNat, by omega⟩
  have h : r * c ≤ 8 * 256 := Nat.mul_le_mul (by omega) (by omega)
  have e : (r : Int) * (c : Int) = ((r * c : Nat) : Int) := by simp
  rw [e]; omega
theorem run_ccheck (R C : Int) (l : List Int) (k : Nat) (hl : l.length ≤ 1000000) (hp : Hp) : run cxX 66 [Cv R C (S k 1 (LI .u32 l))] hp = some (.sc (.int .i64 (cchk R C l)), hp) := by
  rw [E66]
  unfold cchk
  have b2 : B66_2 hp = some (.sc (.int .i64 2), hp) := by rw [B66_2_eq]; simp
  by_cases h1 : R < 1
  · simp [getSc, h1, b2]
  · by_cases h2 : 8 < R
    · simp [getSc, h1, h2, b2]
    · by_cases h3 : C < 1
      · simp [getSc, h1, h2, h3, b2]
      · by_cases h4 : 256 < C
        · simp [getSc, h1, h2, h3, h4, b2]
        · have m := cmul (R := R) (C := C) (by omega) (by omega)
          have w : IntKind.i64.wrap (R * C) = R * C := wrap64 (by omega) (by omega)
          by_cases h5 : (l.length : Int) = R * C
          · simp [getSc, getC, h1, h2, h3, h4, w, h5, B66_3_eq]
          · simp [getSc, getC, h1, h2, h3, h4, w, h5, B66_3_eq]
theorem run_ccheck_ms (R C : Int) (l : List Int) (b : Nat) (hl : l.length ≤ 1000000) (hp : Hp) : run cxX 66 [Cv R C (.ms b 0 0 l.length 1)] hp = some (.sc (.int .i64 (cchk R C l)), hp) := by
  rw [E66]
  unfold cchk
  have b2 : B66_2 hp = some (.sc (.int .i64 2), hp) := by rw [B66_2_eq]; simp
  by_cases h1 : R < 1
  · simp [getSc, h1, b2]
  · by_cases h2 : 8 < R
    · simp [getSc, h1, h2, b2]
    · by_cases h3 : C < 1
      · simp [getSc, h1, h2, h3, b2]
      · by_cases h4 : 256 < C
        · simp [getSc, h1, h2, h3, h4, b2]
        · have m := cmul (R := R) (C := C) (by omega) (by omega)
          have w : IntKind.i64.wrap (R * C) = R * C := wrap64 (by omega) (by omega)
          by_cases h5 : (l.length : Int) = R * C
          · simp [getSc, getC, h1, h2, h3, h4, w, h5, B66_3_eq]
          · simp [getSc, getC, h1, h2, h3, h4, w, h5, B66_3_eq]
theorem csame_loop (B B1 B' B1' : AV) (a b : List Int) (k k' : Nat) (hab : a.length = b.length) (hl : a.length ≤ 1000000) (hp : Hp) : ∀ (r s : List Int) (i : Nat), a.drop i = r → b.drop i = s →
    B120_4 (.int .i64 a.length) (.int .i64 i) [B, B1, S k 1 (LI .u32 a)] [B', B1', S k' 1 (LI .u32 b)] hp = some (.sc (.bool (decide (r = s))), hp) := by
  intro r
  induction r with
  | nil =>
    intro s i hr hs
    have h1 := drop_nil hr
    have h2 : s = [] := by rw [← hs]; exact List.drop_eq_nil_of_le (by omega)
    have hlt : ¬((i : Int) < (a.length : Int)) := by omega
    rw [B120_4_eq]
    simp [hlt, h2]
  | cons x r ih =>
    intro s i hr hs
    obtain ⟨e1, e2, hi, e3⟩ := drop_cons hr
    rw [B120_4_eq]
    have hw : IntKind.i64.wrap ((i : Int) + 1) = ((i + 1 : Nat) : Int) := by rw [wrap64] <;> omega
    cases s with
    | nil => have := drop_nil hs; omega
    | cons y s =>
      obtain ⟨f1, f2, hj, f3⟩ := drop_cons hs
      have h := ih s (i + 1) e2 f2
      simp at h hw
      by_cases e : x = y
      · simp [hi, hj, getC, getSc, e3, f3, e, hw, h]
      · simp [hi, hj, getC, getSc, e3, f3, e]
theorem run_csame (R C R' C' : Int) (a b : List Int) (k k' : Nat) (hp : Hp) (ha : a.length ≤ 1000000) :
    run cxX 120 [Cv R C (S k 1 (LI .u32 a)), Cv R' C' (S k' 1 (LI .u32 b))] hp = some (.sc (.bool (decide (R = R' ∧ C = C' ∧ a = b))), hp) := by
  rw [E120]
  have b2 : B120_2 hp = some (.sc (.bool false), hp) := by rw [B120_2_eq]
  by_cases h1 : R = R'
  · by_cases h2 : C = C'
    · by_cases h3 : a.length = b.length
      · have h := csame_loop (.sc (.int .i64 R)) (.sc (.int .i64 C)) (.sc (.int .i64 R')) (.sc (.int .i64 C')) a b (rk k) (rk k') h3 ha hp a b 0 rfl rfl
        simp at h
        subst h1 h2
        rw [h3] at h
        simp [getSc, getC, h3, B120_3_eq, h]
      · have h4 : ¬(a = b) := fun e => h3 (by rw [e])
        have h5 : ¬((a.length : Int) = (b.length : Int)) := by omega
        simp [getSc, getC, h1, h2, h4, h5, b2]
    · simp [getSc, h1, h2, b2]
  · simp [getSc, h1, b2]
theorem run_cnew (R C : Int) (hR : 1 ≤ R ∧ R ≤ 8) (hC : 1 ≤ C ∧ C ≤ 256) (hp : Hp) : run cxX 76 [.sc (.int .i64 R), .sc (.int .i64 C)] hp =
    some (.tup [Cv R C (.ms hp.next 0 0 (R * C).toNat 1), .sc (.bool true)], hp.new (LI .u32 (List.replicate (R * C).toNat 0))) := by
  rw [E76]
  have h1 : ¬(R < 1) := by omega
  have h2 : ¬(8 < R) := by omega
  have h3 : ¬(C < 1) := by omega
  have h4 : ¬(256 < C) := by omega
  have m := cmul hR hC
  have w : IntKind.i64.wrap (R * C) = R * C := wrap64 (by omega) (by omega)
  have mk : okMake 4 1 (R * C) (R * C) = some () := okMake_ok (by omega) (by omega) (by decide) (by decide)
  have z := zeros_I .u32 (R * C).toNat
  rw [Int.toNat_of_nonneg m.1] at z
  simp [h1, h2, h3, h4, B76_3_eq, w, mk, z, getN, putN]
theorem run_cnew_bad (R C : Int) (h : R < 1 ∨ 8 < R ∨ C < 1 ∨ 256 < C) (hp : Hp) : run cxX 76 [.sc (.int .i64 R), .sc (.int .i64 C)] hp = some (.tup [Cv 0 0 (S 2 1 []), .sc (.bool false)], hp) := by
  rw [E76]
  have b2 : B76_2 [.sc (.int .i64 0), .sc (.int .i64 0), S 2 1 []] hp = some (.tup [Cv 0 0 (S 2 1 []), .sc (.bool false)], hp) := by rw [B76_2_eq]; simp [getN, putN]
  by_cases h1 : R < 1
  · simp [h1, b2]
  · by_cases h2 : 8 < R
    · simp [h1, h2, b2]
    · by_cases h3 : C < 1
      · simp [h1, h2, h3, b2]
      · have h4 : 256 < C := by omega
        simp [h1, h2, h3, h4, b2]
/-! ### the column of a hash -/
theorem run_cplace0 (C h r : Int) (hC : 1 ≤ C ∧ C ≤ 256) (hr : 0 ≤ r ∧ r ≤ 8) : ∃ v : Nat, (v : Int) < C ∧ ∀ (R x : AV) hp, run cxX 128 [.agg [R, .sc (.int .i64 C), x], .sc (.int .u64 h), .sc (.int .i64 r)] hp = some (.sc (.int .i64 (v : Int)), hp) := by
  obtain ⟨z1, s1⟩ : ∃ z : Int, ∀ t x y, binV Go.Proofs.Tryz.prog .shr t x y (.int .u64 h) (.int .u64 32) = some (.int .u64 z) := ⟨_, fun t x y => binV_shr _ _ _ _ _ _ _ _ (by omega)⟩
  have w1 : IntKind.i64.wrap (2 * r) = 2 * r := wrap64 (by omega) (by omega)
  have w2 : IntKind.i64.wrap (2 * r + 1) = 2 * r + 1 := wrap64 (by omega) (by omega)
  have w3 : IntKind.u64.wrap (2 * r + 1) = 2 * r + 1 := wrapu64 (by omega) (by omega)
  obtain ⟨z2, s2⟩ : ∃ z : Int, ∀ t x y, binV Go.Proofs.Tryz.prog .mul t x y (.int .u64 z1) (.int .u64 (2 * r + 1)) = some (.int .u64 z) := ⟨_, fun t x y => binV_mul _ _ _ _ _ _ _⟩
  obtain ⟨z3, s3⟩ : ∃ z : Int, ∀ t x y, binV Go.Proofs.Tryz.prog .and t x y (.int .u64 h) (.int .u64 4294967295) = some (.int .u64 z) := ⟨_, fun t x y => binV_and _ _ _ _ _ _ _⟩
  obtain ⟨z4, s4⟩ : ∃ z : Int, ∀ t x y, binV Go.Proofs.Tryz.prog .add t x y (.int .u64 z2) (.int .u64 z3) = some (.int .u64 z) := ⟨_, fun t x y => binV_add _ _ _ _ _ _ _⟩
  obtain ⟨z5, s5⟩ : ∃ z : Int, ∀ t x y, binV Go.Proofs.Tryz.prog .shr t x y (.int .u64 z4) (.int .u64 17) = some (.int .u64 z) := ⟨_, fun t x y => binV_shr _ _ _ _ _ _ _ _ (by omega)⟩
  obtain ⟨z6, b6, s6⟩ : ∃ z : Int, (0 ≤ z ∧ z < 18446744073709551616) ∧ ∀ t x y, binV Go.Proofs.Tryz.prog .xor t x y (.int .u64 z4) (.int .u64 z5) = some (.int .u64 z) := ⟨_, by rw [IntKind.wrap_u64]; omega, fun t x y => binV_xor _ _ _ _ _ _ _⟩
  have m1 : max C 1 = C := by omega
  have w4 : IntKind.u64.wrap C = C := wrapu64 (by omega) (by omega)
  have hm : 0 ≤ z6 % C ∧ z6 % C < C := ⟨Int.emod_nonneg _ (by omega), Int.emod_lt_of_pos _ (by omega)⟩
  have s7 : ∀ t x y, binV Go.Proofs.Tryz.prog .rem t x y (.int .u64 z6) (.int .u64 C) = some (.int .u64 (z6 % C)) := by
    intro t x y; rw [binV_rem _ _ _ _ _ _ _ (by omega), tmod_pos b6.1]
  have w5 : IntKind.i64.wrap (z6 % C) = z6 % C := wrap64 (by omega) (by omega)
  refine ⟨(z6 % C).toNat, by omega, fun R x hp => ?_⟩
  rw [Int.toNat_of_nonneg hm.1, E128]
  generalize z6 % C = z7 at *
  simp [getSc, s1, w1, w2, w3, s2, s3, s4, s5, s6, m1, w4, s7, w5, -binV_mul, -binV_and, -binV_add, -binV_xor]
  simp [w1, w2, w3, s2, s3, s4, s5, s6, w4, s7, w5, -binV_and, -binV_xor]
noncomputable def cplc (C h r : Int) : Nat := if hh : (1 ≤ C ∧ C ≤ 256) ∧ 0 ≤ r ∧ r ≤ 8 then (run_cplace0 C h r hh.1 hh.2).choose else 0
theorem cplc_ok {C h r : Int} (hC : 1 ≤ C ∧ C ≤ 256) (hr : 0 ≤ r ∧ r ≤ 8) : (cplc C h r : Int) < C ∧ ∀ (R x : AV) hp, run cxX 128 [.agg [R, .sc (.int .i64 C), x], .sc (.int .u64 h), .sc (.int .i64 r)] hp = some (.sc (.int .i64 (cplc C h r : Int)), hp) := by
  unfold cplc
  rw [dif_pos ⟨hC, hr⟩]
  exact (run_cplace0 C h r hC hr).choose_spec
/-! ### two as one -/
def cmrg : List Int → List Int → List Int
  | [], _ => []
  | x :: a, [] => x :: a
  | x :: a, y :: b => plus x y :: cmrg a b
theorem cmrg_len : ∀ a b, (cmrg a b).length = a.length
  | [], _ => by simp [cmrg]
  | x :: a, [] => by simp [cmrg]
  | x :: a, y :: b => by simp [cmrg, cmrg_len a b]
@[simp] theorem cmrg_nil_r : ∀ a, cmrg a [] = a
  | [] => rfl
  | _ :: _ => rfl
abbrev U32 (l : List Int) : Prop := ∀ n ∈ l, 0 ≤ n ∧ n < 4294967296
theorem plus_u32 {a b : Int} (ha : 0 ≤ a ∧ a < 4294967296) (hb : 0 ≤ b ∧ b < 4294967296) : 0 ≤ plus a b ∧ plus a b < 4294967296 := by
  unfold plus; split <;> omega
theorem cmrg_u32 : ∀ {a b : List Int}, U32 a → U32 b → U32 (cmrg a b)
  | [], _, _, _ => by simp [cmrg, U32]
  | x :: a, [], ha, _ => by simpa [cmrg] using ha
  | x :: a, y :: b, ha, hb => by
    have ih := cmrg_u32 (a := a) (b := b) (fun n hn => ha n (by simp [hn])) (fun n hn => hb n (by simp [hn]))
    intro n hn
    rcases List.mem_cons.mp hn with rfl | hn
    · exact plus_u32 (ha x (by simp)) (hb y (by simp))
    · exact ih n hn
/-! ### a hash more -/
/-- One row more. -/
noncomputable def cadd1 (C h n : Int) (l : List Int) (r : Nat) : List Int := l.set (r * C.toNat + cplc C h r) (plus (l.getD (r * C.toNat + cplc C h r) 0) n)
noncomputable def caddF (C h n : Int) (l : List Int) (rs : List Nat) : List Int := rs.foldl (cadd1 C h n) l
noncomputable def cadd (R C h n : Int) (l : List Int) : List Int := if cchk R C l = 0 then caddF C h n l (List.range' 0 R.toNat) else l
theorem cadd1_len (C h n : Int) (l : List Int) (r : Nat) : (cadd1 C h n l r).length = l.length := by simp [cadd1]
theorem caddF_len (C h n : Int) : ∀ (rs : List Nat) (l : List Int), (caddF C h n l rs).length = l.length
  | [], _ => rfl
  | r :: rs, l => by
    show (caddF C h n (cadd1 C h n l r) rs).length = _
    rw [caddF_len C h n rs, cadd1_len]
theorem cadd_len (R C h n : Int) (l : List Int) : (cadd R C h n l).length = l.length := by
  unfold cadd; split
  · exact caddF_len _ _ _ _ _
  · rfl
theorem getD_u32 {l : List Int} (h : U32 l) (i : Nat) : 0 ≤ l.getD i 0 ∧ l.getD i 0 < 4294967296 := by
  by_cases hi : i < l.length
  · have := h l[i] (List.getElem_mem hi)
    simpa [hi] using this
  · simp [hi]
theorem cadd1_u32 {C h n : Int} {l : List Int} {r : Nat} (hl : U32 l) (hn : 0 ≤ n ∧ n < 4294967296) : U32 (cadd1 C h n l r) := by
  intro x hx
  rcases List.mem_or_eq_of_mem_set hx with hx | rfl
  · exact hl x hx
  · exact plus_u32 (getD_u32 hl _) hn
theorem caddF_u32 {C h n : Int} (hn : 0 ≤ n ∧ n < 4294967296) : ∀ (rs : List Nat) {l : List Int}, U32 l → U32 (caddF C h n l rs)
  | [], _, hl => hl
  | r :: rs, l, hl => caddF_u32 hn rs (cadd1_u32 hl hn)
theorem cadd_u32 {R C h n : Int} {l : List Int} (hn : 0 ≤ n ∧ n < 4294967296) (hl : U32 l) : U32 (cadd R C h n l) := by
  unfold cadd; split
  · exact caddF_u32 hn _ hl
  · exact hl
theorem cadd_fin (R C : Int) (q0 q1 q2 : AV) (b : Nat) (d : List Int) (hp : Hp) (hb : hp.rd b 0 = some (LI .u32 d)) :
    B72_9 [q0, q1, q2] [.sc (.int .i64 R), .sc (.int .i64 C), .ms b 0 0 d.length 1] hp = some (Cv R C (S 0 1 (LI .u32 d)), hp.del b) := by
  have f := frz1_I .u32 d hp b hb
  rw [B72_9_eq]
  simp [getN, putN, f]
theorem cadd_loop (R C h n : Int) (q0 q1 q2 : AV) (x : AV) (b : Nat) (hR : 1 ≤ R ∧ R ≤ 8) (hC : 1 ≤ C ∧ C ≤ 256) (hn : 0 ≤ n ∧ n < 4294967296) : ∀ (m i : Nat) (l : List Int) (hp : Hp), R = (i + m : Nat) → (l.length : Int) = R * C → U32 l → hp.rd b 0 = some (LI .u32 l) →
    ∃ hp', B72_4 (.int .u64 h) (.int .u32 n) (.int .i64 R) (.int .i64 i) [.sc (.int .i64 R), .sc (.int .i64 C), x] [q0, q1, q2] [.sc (.int .i64 R), .sc (.int .i64 C), .ms b 0 0 l.length 1] hp = some (Cv R C (S 0 1 (LI .u32 (caddF C h n l (List.range' i m)))), hp') := by
  intro m
  induction m with
  | zero =>
    intro i l hp hi hlen hl hb
    have hlt : ¬((i : Int) < R) := by omega
    refine ⟨hp.del b, ?_⟩
    rw [B72_4_eq]
    simp only [binV_lss, hlt, decide_false, asB_bool, Option.bind_some, cond_false]
    exact cadd_fin R C q0 q1 q2 b l hp hb
  | succ m ih =>
    intro i l hp hi hlen hl hb
    have hlt : (i : Int) < R := by omega
    obtain ⟨c, rfl⟩ : ∃ c : Nat, C = c := ⟨C.toNat, by omega⟩
    obtain ⟨pb, pc⟩ := cplc_ok (h := h) (r := (i : Int)) hC (by omega)
    have hRc : (R * (c : Int)) = (((i + (m + 1)) * c : Nat) : Int) := by rw [hi]; simp
    have hj : i * c + cplc c h i < l.length := by
      have e1 : (i + (m + 1)) * c = i * c + c + m * c := by rw [Nat.add_mul, Nat.add_mul]; omega
      have e2 : l.length = (i + (m + 1)) * c := by omega
      have e3 : cplc c h i < c := by omega
      omega
    have hl2 : l.length ≤ 2048 := by have := cmul hR hC; omega
    have w1 : IntKind.i64.wrap ((i : Int) * (c : Int)) = ((i * c : Nat) : Int) := by
      have e : (i : Int) * (c : Int) = ((i * c : Nat) : Int) := by simp
      rw [e, wrap64 (by omega) (by omega)]
    have w2 : IntKind.i64.wrap (((i * c : Nat) : Int) + (cplc c h i : Int)) = ((i * c + cplc c h i : Nat) : Int) := by rw [wrap64 (by omega) (by omega)]; omega
    have w3 : IntKind.i64.wrap ((i : Int) + ((1 : Nat) : Int)) = ((i + 1 : Nat) : Int) := by rw [wrap64] <;> omega
    have ed : cadd1 c h n l i = l.set (i * c + cplc c h i) (plus (l.getD (i * c + cplc c h i) 0) n) := by unfold cadd1; rw [Int.toNat_natCast]
    have ef : caddF c h n l (List.range' i (m + 1)) = caddF c h n (cadd1 c h n l i) (List.range' (i + 1) m) := by rw [List.range'_succ]; rfl
    have gs' : l[i * c + cplc c h i]? = some (l.getD (i * c + cplc c h i) 0) := by simp [hj]
    have hgd := getD_u32 hl (i * c + cplc c h i)
    have hu := cadd1_u32 (C := c) (h := h) (n := n) (r := i) hl hn
    have hcl := cadd1_len c h n l i
    rw [ed] at hu hcl ef
    rw [ef]
    generalize i * c + cplc c h i = j at *
    generalize l.getD j 0 = g at *
    have pl := fun hp => run_plus g n hgd hn hp
    have ix := idx_nat .i64 hj
    have pt := putN_I .u32 l j (plus g n) hj
    obtain ⟨hp', hh⟩ := ih (i + 1) (l.set j (plus g n)) (hp.put b 0 (LI .u32 (l.set j (plus g n)))) (by omega) (by rw [hcl]; exact hlen) hu (rd_put _ _ _)
    refine ⟨hp', ?_⟩
    rw [hcl] at hh
    have oa : ∀ v w, okArgs [AV.sc v, AV.sc w] [] = some () := fun v w => by rw [okArgs_eq]; exact if_pos ⟨by simp, by simp⟩
    have gn : getN [AV.sc (.int .i64 R), AV.sc (.int .i64 (c : Int)), x] 0 3 = some [AV.sc (.int .i64 R), AV.sc (.int .i64 (c : Int)), x] := rfl
    rw [B72_4_eq]
    simp only [binV_lss, hlt, decide_true, asB_bool, Option.bind_some, cond_true, getSc, List.getElem?_cons_succ, List.getElem?_cons_zero, asSc_sc, binV_mul, w1, gn, List.map_cons, List.map_nil, ro1_sc, ro_agg, ro_sc, pc, okRes_sc, binV_add, w2, getC, ro1_ms, getMs_ms, ix, chkN_eq, chk_eq, chk_true, hb, Nat.add_eq, Nat.zero_add, getI?, gs', Option.map_some, oa, pl, pt, Int.ofNat_eq_natCast, w3]
    exact hh
theorem run_cadd (R C h n : Int) (l : List Int) (k : Nat) (hn : 0 ≤ n ∧ n < 4294967296) (hl : l.length ≤ 1000000) (h32 : U32 l) (hp : Hp) :
    ∃ t hp', run cxX 72 [Cv R C (S k 1 (LI .u32 l)), .sc (.int .u64 h), .sc (.int .u32 n)] hp = some (Cv R C (S t 1 (LI .u32 (cadd R C h n l))), hp') := by
  rw [E72]
  have ck := fun hp => run_ccheck R C l (rk k) hl hp
  by_cases hc : cchk R C l = 0
  · have hc' := hc
    unfold cchk at hc'
    split at hc'
    · cases hc'
    · split at hc'
      · cases hc'
      · rename_i h1 h2
        have hlen : (l.length : Int) = R * C := by omega
        have hne : l ≠ [] := by
          intro e
          subst e
          obtain ⟨r, rfl⟩ : ∃ r : Nat, R = r := ⟨R.toNat, by omega⟩
          obtain ⟨c, rfl⟩ : ∃ c : Nat, C = c := ⟨C.toNat, by omega⟩
          have e : (r : Int) * (c : Int) = ((r * c : Nat) : Int) := by simp
          rw [e] at hlen
          have : 0 < r * c := Nat.mul_pos (by omega) (by omega)
          simp at hlen
          omega
        have n1 := fun k hp => appM_fresh .u32 l k 4 (by decide) hl hne hp
        obtain ⟨hp', hh⟩ := cadd_loop R C h n (.sc (.int .i64 0)) (.sc (.int .i64 0)) (S 2 1 []) (S (rk k) 1 (LI .u32 l)) hp.next (by omega) (by omega) hn R.toNat 0 l (hp.new (LI .u32 l)) (by omega) hlen h32 (rd_new _ _)
        refine ⟨0, hp', ?_⟩
        have e : cadd R C h n l = caddF C h n l (List.range' 0 R.toNat) := by unfold cadd; rw [if_pos hc]
        simp at hh
        simp [getSc, getC, getN, n1, putN, ck, hc, e, hh]
  · have e : cadd R C h n l = l := by unfold cadd; rw [if_neg hc]
    by_cases hne : l = []
    · subst hne
      have n1 := fun k hp => appM_nil 4 k hp
      refine ⟨0, hp, ?_⟩
      have e9 : ∀ (q0 q1 q2 : AV), B72_9 [q0, q1, q2] [.sc (.int .i64 R), .sc (.int .i64 C), S 0 1 []] hp = some (Cv R C (S 0 1 []), hp) := by
        intro q0 q1 q2
        rw [B72_9_eq]
        simp [getN, putN]
      simp at ck
      simp [getSc, getC, getN, n1, putN, ck, hc, e, e9]
    · have n1 := fun k hp => appM_fresh .u32 l k 4 (by decide) hl hne hp
      have f := cadd_fin R C (.sc (.int .i64 0)) (.sc (.int .i64 0)) (S 2 1 []) hp.next l (hp.new (LI .u32 l)) (rd_new _ _)
      refine ⟨0, (hp.new (LI .u32 l)).del hp.next, ?_⟩
      simp [getSc, getC, getN, n1, putN, ck, hc, e, f]
theorem run_cadd_ms (R C h n : Int) (l : List Int) (b : Nat) (hn : 0 ≤ n ∧ n < 4294967296) (hl : l.length ≤ 1000000) (h32 : U32 l) (hc : cchk R C l = 0) (hp : Hp) (hb : hp.rd b 0 = some (LI .u32 l)) :
    ∃ t hp', run cxX 72 [Cv R C (.ms b 0 0 l.length 1), .sc (.int .u64 h), .sc (.int .u32 n)] hp = some (Cv R C (S t 1 (LI .u32 (cadd R C h n l))), hp') := by
  rw [E72]
  have ck := fun hp => run_ccheck_ms R C l b hl hp
  have hc' := hc
  unfold cchk at hc'
  split at hc'
  · cases hc'
  · split at hc'
    · cases hc'
    · rename_i h1 h2
      have hlen : (l.length : Int) = R * C := by omega
      have hne : l ≠ [] := by
        intro e
        subst e
        obtain ⟨r, rfl⟩ : ∃ r : Nat, R = r := ⟨R.toNat, by omega⟩
        obtain ⟨c, rfl⟩ : ∃ c : Nat, C = c := ⟨C.toNat, by omega⟩
        have e : (r : Int) * (c : Int) = ((r * c : Nat) : Int) := by simp
        rw [e] at hlen
        have : 0 < r * c := Nat.mul_pos (by omega) (by omega)
        simp at hlen
        omega
      have n1 := appM_freshM .u32 l (.ms b 0 0 l.length 1) 4 (by decide) hl hne hp (srcM_all .u32 l hp b hb)
      obtain ⟨hp', hh⟩ := cadd_loop R C h n (.sc (.int .i64 0)) (.sc (.int .i64 0)) (S 2 1 []) (.ms b 0 0 l.length 1) hp.next (by omega) (by omega) hn R.toNat 0 l (hp.new (LI .u32 l)) (by omega) hlen h32 (rd_new _ _)
      refine ⟨0, hp', ?_⟩
      have e : cadd R C h n l = caddF C h n l (List.range' 0 R.toNat) := by unfold cadd; rw [if_pos hc]
      simp at hh
      simp [getSc, getC, getN, n1, putN, ck, hc, e, hh]
/-! ### of many hashes -/
noncomputable def cfold (R C : Int) (a : List Int) (l : List (Int × Int)) : List Int := l.foldl (fun a p => cadd R C p.1 p.2 a) a
theorem cfold_len (R C : Int) : ∀ (l : List (Int × Int)) (a : List Int), (cfold R C a l).length = a.length
  | [], _ => rfl
  | p :: l, a => by
    show (cfold R C (cadd R C p.1 p.2 a) l).length = _
    rw [cfold_len R C l, cadd_len]
theorem cfold_u32 (R C : Int) : ∀ {l : List (Int × Int)} {a : List Int}, U32 a → (∀ p ∈ l, 0 ≤ p.2 ∧ p.2 < 4294967296) → U32 (cfold R C a l)
  | [], _, h, _ => h
  | p :: l, a, h, hl => cfold_u32 R C (l := l) (cadd_u32 (hl p (by simp)) h) (fun q hq => hl q (by simp [hq]))
theorem cms_loop (R C : Int) (q0 q1 q2 : AV) (l : List (Int × Int)) (k : Nat) (hl : l.length ≤ 1000000) (h32 : ∀ p ∈ l, 0 ≤ p.2 ∧ p.2 < 4294967296) : ∀ (r : List (Int × Int)) (i t : Nat) (a : List Int) (hp : Hp), l.drop i = r → a.length ≤ 1000000 → U32 a →
    ∃ t' hp', B30_3 (S k 2 (LQ .u64 .u32 l)) (.int .i64 l.length) (.int .i64 i) [q0, q1, q2] [.sc (.int .i64 R), .sc (.int .i64 C), S t 1 (LI .u32 a)] hp = some (Cv R C (S t' 1 (LI .u32 (cfold R C a r))), hp') := by
  intro r
  induction r with
  | nil =>
    intro i t a hp hr ha hu
    have := drop_nil hr
    have hlt : ¬((i : Int) < (l.length : Int)) := by omega
    refine ⟨rk t, hp, ?_⟩
    rw [B30_3_eq]
    simp [hlt, getN, putN, cfold]
  | cons x r ih =>
    intro i t a hp hr ha hu
    obtain ⟨e1, e2, hi, e3⟩ := drop_cons hr
    have hx := h32 x (List.mem_of_getElem? e1)
    have hw : IntKind.i64.wrap ((i : Int) + 1) = ((i + 1 : Nat) : Int) := by rw [wrap64] <;> omega
    obtain ⟨t1, hp1, ha1⟩ := run_cadd R C x.1 x.2 a (rk t) hx ha hu hp
    obtain ⟨t', hp', h⟩ := ih (i + 1) t1 (cadd R C x.1 x.2 a) hp1 e2 (by rw [cadd_len]; exact ha) (cadd_u32 hx hu)
    refine ⟨t', hp', ?_⟩
    have ix := idxA_Q .u64 .u32 k e1
    rw [B30_3_eq]
    simp at h hw
    have ef : cfold R C a (x :: r) = cfold R C (cadd R C x.1 x.2 a) r := rfl
    simp [hi, ix, getSc, getN, putN, ha1, hw, h, ef]
theorem run_cms (a b : Int) (l : List (Int × Int)) (k : Nat) (ha : 0 ≤ a ∧ a < 256) (hb : 0 ≤ b ∧ b < 256) (hl : l.length ≤ 1000000) (h32 : ∀ p ∈ l, 0 ≤ p.2 ∧ p.2 < 4294967296) (hp : Hp) :
    ∃ t hp', run cxX 30 [.sc (.int .u8 a), .sc (.int .u8 b), S k 2 (LQ .u64 .u32 l)] hp = some (Cv (1 + a % 8) (1 + b % 40) (S t 1 (LI .u32 (cfold (1 + a % 8) (1 + b % 40) (List.replicate ((1 + a % 8) * (1 + b % 40)).toNat 0) l))), hp') := by
  have h1 : ∀ t x y, binV Go.Proofs.Tryz.prog .rem t x y (.int .u8 a) (.int .u8 8) = some (.int .u8 (a % 8)) := by
    intro t x y; rw [binV_rem _ _ _ _ _ _ _ (by omega), tmod_pos ha.1]
  have h2 : ∀ t x y, binV Go.Proofs.Tryz.prog .rem t x y (.int .u8 b) (.int .u8 40) = some (.int .u8 (b % 40)) := by
    intro t x y; rw [binV_rem _ _ _ _ _ _ _ (by omega), tmod_pos hb.1]
  have w1 : IntKind.i64.wrap (a % 8) = a % 8 := wrap64 (by omega) (by omega)
  have w2 : IntKind.i64.wrap (1 + a % 8) = 1 + a % 8 := wrap64 (by omega) (by omega)
  have w3 : IntKind.i64.wrap (b % 40) = b % 40 := wrap64 (by omega) (by omega)
  have w4 : IntKind.i64.wrap (1 + b % 40) = 1 + b % 40 := wrap64 (by omega) (by omega)
  have nw := fun hp => run_cnew (1 + a % 8) (1 + b % 40) (by omega) (by omega) hp
  have m := cmul (R := 1 + a % 8) (C := 1 + b % 40) (by omega) (by omega)
  obtain ⟨R, hR⟩ : ∃ R, R = 1 + a % 8 := ⟨_, rfl⟩
  obtain ⟨C, hC⟩ : ∃ C, C = 1 + b % 40 := ⟨_, rfl⟩
  rw [← hR] at nw m w2 ⊢
  rw [← hC] at nw m w4 ⊢
  obtain ⟨z, hz⟩ : ∃ z, z = List.replicate (R * C).toNat (0 : Int) := ⟨_, rfl⟩
  have zl : z.length = (R * C).toNat := by rw [hz]; simp
  have zu : U32 z := fun n hn => by rw [hz] at hn; have := List.eq_of_mem_replicate hn; omega
  have zc : cchk R C z = 0 := by unfold cchk; rw [if_neg (by omega), if_neg (by rw [zl]; omega)]
  rw [← hz] at nw ⊢
  rw [← zl] at nw
  have ln := lenA_Q .u64 .u32
  have key : ∃ t hp', B30_3 (S (rk k) 2 (LQ .u64 .u32 l)) (.int .i64 l.length) (.int .i64 (0 : Nat)) [.sc (.int .i64 0), .sc (.int .i64 0), S 2 1 []] [.sc (.int .i64 R), .sc (.int .i64 C), .ms hp.next 0 0 z.length 1] (hp.new (LI .u32 z)) = some (Cv R C (S t 1 (LI .u32 (cfold R C z l))), hp') := by
    cases l with
    | nil =>
      have f := frz1_I .u32 z (hp.new (LI .u32 z)) hp.next (rd_new _ _)
      refine ⟨0, (hp.new (LI .u32 z)).del hp.next, ?_⟩
      rw [B30_3_eq]
      simp [putN, getN, f, cfold]
    | cons x r =>
      have hx := h32 x (by simp)
      have ix := idxA_Q (l := x :: r) (i := 0) (p := x) .u64 .u32 (rk k) rfl
      obtain ⟨t1, hp1, ha1⟩ := run_cadd_ms R C x.1 x.2 z hp.next hx (by rw [zl]; omega) zu zc (hp.new (LI .u32 z)) (rd_new _ _)
      obtain ⟨t, hp2, h⟩ := cms_loop R C (.sc (.int .i64 0)) (.sc (.int .i64 0)) (S 2 1 []) (x :: r) (rk k) hl h32 r 1 t1 (cadd R C x.1 x.2 z) hp1 rfl (by rw [cadd_len, zl]; omega) (cadd_u32 hx zu)
      refine ⟨t, hp2, ?_⟩
      have hw : IntKind.i64.wrap (((0 : Nat) : Int) + 1) = ((1 : Nat) : Int) := rfl
      have hlt : ((0 : Nat) : Int) < ((x :: r).length : Int) := by simp
      have ef : cfold R C z (x :: r) = cfold R C (cadd R C x.1 x.2 z) r := rfl
      have gn : getN [AV.sc (.int .i64 R), AV.sc (.int .i64 C), .ms hp.next 0 0 z.length 1] 0 3 = some [AV.sc (.int .i64 R), AV.sc (.int .i64 C), .ms hp.next 0 0 z.length 1] := rfl
      generalize (x :: r).length = n at *
      generalize LQ .u64 .u32 (x :: r) = q at *
      have hn : 0 < n := by simpa using hlt
      rw [B30_3_eq]
      simp at ix h
      simp [hn, ix, getSc, getN, putN, ha1, ef, h]
  obtain ⟨t, hp', h⟩ := key
  refine ⟨t, hp', ?_⟩
  rw [E30]
  simp at h
  simp [h1, h2, w1, w2, w3, w4, ← hR, ← hC, nw, putN, ln, h]
end Go.Proofs.YtchmioacjkbfcaaGreat.AI
