/- The laws' sketches, by small numbers: what they are; each may be one. -/
import Derived.Test.YtalnoedhacobkaaEqLaw17
import Derived.Test.YtalnoedhacobkaaSpSketchB
import Derived.Test.YtalnoedhacobkaaPairs
namespace Go.Proofs.Ytalnoedhacobkaa.AI
open Go
set_option linter.unusedVariables false
set_option linter.unusedSimpArgs false
set_option maxRecDepth 100000

structure Sm where
  kind : Int
  A : Int
  B : Int
  wide : Int
  few : Bool
  hs : List Int
  fl : List (Int × Int)
structure Sm.Ok (s : Sm) : Prop where
  kind : 0 ≤ s.kind ∧ s.kind < 256
  A : 0 ≤ s.A ∧ s.A < 256
  B : 0 ≤ s.B ∧ s.B < 256
  wide : 0 ≤ s.wide ∧ s.wide < 65536
  hs : ∀ n ∈ s.hs, 0 ≤ n ∧ n < 18446744073709551616
  fl : ∀ p ∈ s.fl, InI p
abbrev smA (s : Sm) (k k' : Nat) : AV := .agg [.sc (.int .u8 s.kind), .sc (.int .u8 s.A), .sc (.int .u8 s.B), .sc (.int .u16 s.wide), .sc (.bool s.few), S k 1 (LI .u64 s.hs), S k' 2 (LP s.fl)]
/-- Numbers of a hash. -/
def row (n : Int) (m : Nat) : List Int := (List.range m).map fun (k : Nat) => n + (k : Int)
theorem row_succ (n : Int) (m : Nat) : row n (m + 1) = row n m ++ [n + m] := by simp [row, List.range_succ]
def smset1 (few : Bool) (h : Int) : List Int := h % 4294967296 :: (if few then row (h % 9000) (h % 40).toNat else [])
def smset (few : Bool) (hs : List Int) : List Int := hs.flatMap (smset1 few)
def smc : Nat → List Int → List (Int × Int)
  | _, [] => []
  | i, h :: r => (h, if i % 5 = 4 then h / 4294967296 else h % 9) :: smc (i + 1) r
noncomputable def sketchN (s : Sm) : SkN :=
  if s.kind % 6 = 0 then { skZ with kind := 0, set := srt [] (smset s.few s.hs) }
  else if s.kind % 6 = 1 then { skZ with kind := 1, K := 1 + s.A % 20, hs := kmvs (1 + s.A % 20).toNat [] (s.hs.map (cut s.few)) }
  else if s.kind % 6 = 2 then { skZ with kind := 2, P := 4 + s.A % 5, rg := hfold (4 + s.A % 5) (List.replicate (hpow (4 + s.A % 5)) 0) s.hs }
  else if s.kind % 6 = 3 then { skZ with kind := 3, B := 1 + s.wide % 300, H := 1 + s.A % 8, bs := blm (1 + s.wide % 300) (1 + s.A % 8) [] s.hs }
  else if s.kind % 6 = 4 then { skZ with kind := 4, R := 1 + s.A % 8, C := 1 + s.B % 40, cs := cfold (1 + s.A % 8) (1 + s.B % 40) (List.replicate ((1 + s.A % 8) * (1 + s.B % 40)).toNat 0) (smc 0 s.hs) }
  else { skZ with kind := 5, gK := 1 + s.A % 16, g := (gfold (1 + s.A % 16) gnew (s.fl.map wd)).nf }
/-! ### Light -/
theorem run_light (s : Sm) (k k' : Nat) (hp : Hp) : run cxX 46 [smA s k k'] hp = some (.sc (.bool (decide (s.hs.length ≤ 40 ∧ s.fl.length ≤ 40))), hp) := by
  rw [E46]
  by_cases h : s.hs.length ≤ 40
  · have h' : (s.hs.length : Int) ≤ 40 := by omega
    have e : decide ((s.fl.length : Int) ≤ 40) = decide (s.fl.length ≤ 40) := decide_eq_decide.mpr (by omega)
    simp [getC, h, h', lenA_P, e]
  · have h' : ¬((s.hs.length : Int) ≤ 40) := by omega
    simp [getC, h, h']
/-! ### the parts -/
theorem row_in {n : Int} {m : Nat} (hn : 0 ≤ n ∧ n < 9000) (hm : m ≤ 40) : U32 (row n m) := by
  intro x hx
  simp only [row, List.mem_map, List.mem_range] at hx
  obtain ⟨k, hk, rfl⟩ := hx
  omega
theorem smset1_in {few : Bool} {h : Int} (hh : 0 ≤ h) : U32 (smset1 few h) := by
  intro x hx
  rcases List.mem_cons.mp hx with rfl | hx
  · omega
  · cases few with
    | false => simp at hx
    | true => exact row_in (by omega) (by omega) x hx
theorem smset_in {few : Bool} {hs : List Int} (h : ∀ n ∈ hs, 0 ≤ n ∧ n < 18446744073709551616) : U32 (smset few hs) := by
  intro x hx
  obtain ⟨y, hy, hx⟩ := List.mem_flatMap.mp hx
  exact smset1_in (h y hy).1 x hx
theorem smset1_len (few : Bool) {h : Int} (hh : 0 ≤ h) : (smset1 few h).length ≤ 40 := by
  unfold smset1
  cases few with
  | false => simp
  | true =>
    simp only [if_true, List.length_cons, row, List.length_map, List.length_range]
    omega
theorem smset_len (few : Bool) : ∀ {hs : List Int}, (∀ n ∈ hs, 0 ≤ n ∧ n < 18446744073709551616) → (smset few hs).length ≤ 40 * hs.length
  | [], _ => by simp [smset]
  | x :: hs, h => by
    have ih := smset_len few (hs := hs) (fun n hn => h n (by simp [hn]))
    have l1 := smset1_len few (h x (by simp)).1
    show ((x :: hs).flatMap (smset1 few)).length ≤ _
    rw [List.flatMap_cons, List.length_append]
    simp only [List.length_cons]
    have : (List.flatMap (smset1 few) hs).length ≤ 40 * hs.length := ih
    omega
section
variable (b1 b2 b3 : List AV) (s : Sm) (k k' : Nat) (hp : Hp)
theorem sk_row (h : Int) (x27 : AV) (v28 v29 : Value) (hh : 0 ≤ h ∧ h < 18446744073709551616) (m : Nat) (hm : m ≤ 40) : ∀ (j : Nat) (l : List Int) (i : Nat), i + j = m → l.length + j ≤ 1000000 →
    B47_12 (S 2 1 (LI .u32 l)) (.int .u64 h) x27 v28 v29 (.int .u32 m) (.int .u32 i) b1 b2 b3 hp = B47_16 (S 2 1 (LI .u32 (l ++ (List.range' i j).map fun (k : Nat) => h % 9000 + (k : Int)))) x27 v28 v29 b1 b2 b3 hp := by
  intro j
  induction j with
  | zero =>
    intro l i hi hl
    have hlt : ¬((i : Int) < (m : Int)) := by omega
    rw [B47_12_eq]
    simp [hlt]
  | succ j ih =>
    intro l i hi hl
    have hlt : i < m := by omega
    have r : ∀ t x y, binV Go.Proofs.Try.prog .rem t x y (.int .u64 h) (.int .u64 9000) = some (.int .u64 (h % 9000)) := by
      intro t x y; rw [binV_rem _ _ _ _ _ _ _ (by omega), tmod_pos hh.1]
    have w1 : IntKind.u32.wrap (h % 9000) = h % 9000 := wrapu32 (by omega) (by omega)
    have w2 : IntKind.u32.wrap (h % 9000 + (i : Int)) = h % 9000 + (i : Int) := wrapu32 (by omega) (by omega)
    have w3 : IntKind.u32.wrap ((i : Int) + 1) = ((i + 1 : Nat) : Int) := by rw [wrapu32] <;> omega
    have ap := appI .u32 l 2 (.inr rfl) 4 (by decide) (h % 9000 + (i : Int)) (by omega)
    have g := ih (l ++ [h % 9000 + (i : Int)]) (i + 1) (by omega) (by simp; omega)
    rw [B47_12_eq, List.range'_succ]
    simp at g w3
    simp [hlt, r, w1, w2, ap, w3, g]
theorem sk_set (hs : ∀ n ∈ s.hs, 0 ≤ n ∧ n < 18446744073709551616) (hl : s.hs.length ≤ 40) : ∀ (r : List Int) (i : Nat) (l : List Int), s.hs.drop i = r → l.length ≤ 40 * i → i ≤ s.hs.length →
    ∃ t, ∀ b3', putN b3 1 [S t 1 (LI .u32 (srt [] (l ++ smset s.few r)))] = some b3' → B47_7 (S 2 1 (LI .u32 l)) (S k 1 (LI .u64 s.hs)) (.int .i64 s.hs.length) (.int .i64 i) [.sc (.int .u8 s.kind), .sc (.int .u8 s.A), .sc (.int .u8 s.B), .sc (.int .u16 s.wide), .sc (.bool s.few), S k 1 (LI .u64 s.hs), S k' 2 (LP s.fl)] b2 b3 hp =
      B47_35 b2 b3' hp := by
  intro r
  induction r with
  | nil =>
    intro i l hr hll hil
    have := drop_nil hr
    have hlt : ¬((i : Int) < (s.hs.length : Int)) := by omega
    obtain ⟨t, o⟩ := run_of11 l 3 (by omega) hp0
    refine ⟨rk t, fun b3' hb => ?_⟩
    rw [B47_7_eq]
    simp [smset] at hb
    simp [hlt, o, hb]
  | cons x r ih =>
    intro i l hr hll hil
    obtain ⟨e1, e2, hi, e3⟩ := drop_cons hr
    have hx := hs x (List.mem_of_getElem? e1)
    have hw : IntKind.i64.wrap ((i : Int) + 1) = ((i + 1 : Nat) : Int) := by rw [wrap64] <;> omega
    have w1 : IntKind.u32.wrap x = x % 4294967296 := by rw [IntKind.wrap_u32]
    have ap := appI .u32 l 2 (.inr rfl) 4 (by decide) (x % 4294967296) (by omega)
    have l1 := smset1_len s.few hx.1
    obtain ⟨t, g⟩ := ih (i + 1) (l ++ smset1 s.few x) e2 (by rw [List.length_append]; omega) (by omega)
    refine ⟨t, fun b3' hb => ?_⟩
    have es : smset s.few (x :: r) = smset1 s.few x ++ smset s.few r := rfl
    rw [es, ← List.append_assoc] at hb
    have g := g b3' hb
    have g16 : B47_16 (S 2 1 (LI .u32 (l ++ smset1 s.few x))) (S k 1 (LI .u64 s.hs)) (.int .i64 s.hs.length) (.int .i64 i) [.sc (.int .u8 s.kind), .sc (.int .u8 s.A), .sc (.int .u8 s.B), .sc (.int .u16 s.wide), .sc (.bool s.few), S k 1 (LI .u64 s.hs), S k' 2 (LP s.fl)] b2 b3 hp = B47_35 b2 b3' hp := by
      rw [B47_16_eq]
      simp at hw g
      simp [hw, g]
    rw [B47_7_eq]
    cases hf : s.few with
    | false =>
      rw [hf] at g16
      simp [smset1] at g16
      simp [hi, e3, getSc, w1, ap, g16]
    | true =>
      rw [hf] at g16
      have r40 : ∀ t a b, binV Go.Proofs.Try.prog .rem t a b (.int .u64 x) (.int .u64 40) = some (.int .u64 (x % 40)) := by
        intro t a b; rw [binV_rem _ _ _ _ _ _ _ (by omega), tmod_pos hx.1]
      have w2 : IntKind.u32.wrap (x % 40) = x % 40 := wrapu32 (by omega) (by omega)
      have rw1 := sk_row [.sc (.int .u8 s.kind), .sc (.int .u8 s.A), .sc (.int .u8 s.B), .sc (.int .u16 s.wide), .sc (.bool true), S k 1 (LI .u64 s.hs), S k' 2 (LP s.fl)] b2 b3 hp x (S k 1 (LI .u64 s.hs)) (.int .i64 s.hs.length) (.int .i64 i) hx (x % 40).toNat (by omega) (x % 40).toNat (l ++ [x % 4294967296]) 0 (by omega) (by simp; omega)
      have e40 : (((x % 40).toNat : Nat) : Int) = x % 40 := by omega
      rw [e40] at rw1
      have er : (l ++ [x % 4294967296]) ++ (List.range' 0 (x % 40).toNat).map (fun (k : Nat) => x % 9000 + (k : Int)) = l ++ smset1 true x := by
        simp [smset1, row, List.range_eq_range']
      rw [er, g16] at rw1
      simp at rw1
      simp [hi, e3, getSc, w1, ap, r40, w2, rw1]
theorem sk_cms (hs : ∀ n ∈ s.hs, 0 ≤ n ∧ n < 18446744073709551616) (hA : 0 ≤ s.A ∧ s.A < 256) (hB : 0 ≤ s.B ∧ s.B < 256) (hl : s.hs.length ≤ 40) : ∀ (r : List Int) (i : Nat) (l : List (Int × Int)), s.hs.drop i = r → l.length ≤ i → i ≤ s.hs.length → (∀ p ∈ l, 0 ≤ p.2 ∧ p.2 < 4294967296) →
    ∃ t, ∀ b3', putN b3 9 [.sc (.int .i64 (1 + s.A % 8)), .sc (.int .i64 (1 + s.B % 40)), S t 1 (LI .u32 (cfold (1 + s.A % 8) (1 + s.B % 40) (List.replicate ((1 + s.A % 8) * (1 + s.B % 40)).toNat 0) (l ++ smc i r)))] = some b3' →
      B47_27 (S 2 2 (LQ .u64 .u32 l)) (S k 1 (LI .u64 s.hs)) (.int .i64 s.hs.length) (.int .i64 i) [.sc (.int .u8 s.kind), .sc (.int .u8 s.A), .sc (.int .u8 s.B), .sc (.int .u16 s.wide), .sc (.bool s.few), S k 1 (LI .u64 s.hs), S k' 2 (LP s.fl)] b2 b3 hp = B47_35 b2 b3' hp := by
  intro r
  induction r with
  | nil =>
    intro i l hr hll hil hp2
    have := drop_nil hr
    have hlt : ¬((i : Int) < (s.hs.length : Int)) := by omega
    obtain ⟨t, o⟩ := run_cms s.A s.B l 3 hA hB (by omega) hp2 hp0
    refine ⟨t, fun b3' hb => ?_⟩
    rw [B47_27_eq]
    simp [smc] at hb
    simp [hlt, getSc, o, hb]
  | cons x r ih =>
    intro i l hr hll hil hp2
    obtain ⟨e1, e2, hi, e3⟩ := drop_cons hr
    have hx := hs x (List.mem_of_getElem? e1)
    have hw : IntKind.i64.wrap ((i : Int) + 1) = ((i + 1 : Nat) : Int) := by rw [wrap64] <;> omega
    have r9 : ∀ t a b, binV Go.Proofs.Try.prog .rem t a b (.int .u64 x) (.int .u64 9) = some (.int .u64 (x % 9)) := by
      intro t a b; rw [binV_rem _ _ _ _ _ _ _ (by omega), tmod_pos hx.1]
    have r5 : ∀ t a b, binV Go.Proofs.Try.prog .rem t a b (.int .i64 (i : Int)) (.int .i64 5) = some (.int .i64 ((i : Int) % 5)) := by
      intro t a b; rw [binV_rem _ _ _ _ _ _ _ (by omega), tmod_pos (by omega)]
    have w9 : IntKind.u32.wrap (x % 9) = x % 9 := wrapu32 (by omega) (by omega)
    have s32 : ∀ t a b, binV Go.Proofs.Try.prog .shr t a b (.int .u64 x) (.int .u64 32) = some (.int .u64 (x / 4294967296)) := by
      intro t a b
      rw [binV_shr _ _ _ _ _ _ _ _ (by omega)]
      have e : (2 : Int) ^ (min (32 : Int).toNat IntKind.u64.bits) = 4294967296 := by decide
      rw [e, Int.fdiv_eq_ediv_of_nonneg _ (by decide)]
    have w32 : IntKind.u32.wrap (x / 4294967296) = x / 4294967296 := wrapu32 (by omega) (by omega)
    have ex : smc i (x :: r) = (x, if i % 5 = 4 then x / 4294967296 else x % 9) :: smc (i + 1) r := rfl
    have ap := fun n => appA_Q .u64 .u32 2 (.inr rfl) l x n (by omega)
    by_cases h4 : i % 5 = 4
    · have h4' : (i : Int) % 5 = 4 := by omega
      rw [if_pos h4] at ex
      obtain ⟨t, g⟩ := ih (i + 1) (l ++ [(x, x / 4294967296)]) e2 (by simp; omega) (by omega) (fun p hp => by
        rcases List.mem_append.mp hp with hp | hp
        · exact hp2 p hp
        · simp at hp; subst hp; dsimp; omega)
      refine ⟨t, fun b3' hb => ?_⟩
      rw [ex] at hb
      have g := g b3' (by simpa using hb)
      rw [B47_27_eq]
      simp at g hw
      simp [hi, e3, getSc, r9, w9, r5, h4', s32, w32, B47_32_eq, ap, hw, g]
    · have h4' : ¬((i : Int) % 5 = 4) := by omega
      rw [if_neg h4] at ex
      obtain ⟨t, g⟩ := ih (i + 1) (l ++ [(x, x % 9)]) e2 (by simp; omega) (by omega) (fun p hp => by
        rcases List.mem_append.mp hp with hp | hp
        · exact hp2 p hp
        · simp at hp; subst hp; dsimp; omega)
      refine ⟨t, fun b3' hb => ?_⟩
      rw [ex] at hb
      have g := g b3' (by simpa using hb)
      rw [B47_27_eq]
      simp at g hw
      simp [hi, e3, getSc, r9, w9, r5, h4', B47_32_eq, ap, hw, g]
end
/-! ### gauges -/
theorem gone_W {w : Nat} (hw : w < 18446744073709551616) : (gone w).W := by
  have i01 : ∀ (p : Prop) [Decidable p], In32' (if p then 1 else 0) := by intro p _; split <;> exact ⟨by decide, by decide⟩
  refine ⟨⟨show (0 : Int) ≤ 1 by decide, show (1 : Int) < 4294967296 by decide⟩, i01 _, i01 _, i01 _, i01 _, i01 _, i01 _, ?_, ?_, ?_, ?_⟩
  · show (if isN w then 9218868437227405312 else w) < 18446744073709551616
    split <;> omega
  · show (if isN w then 18442240474082181120 else w) < 18446744073709551616
    split <;> omega
  · intro x hx
    have : x = wk (kw w) := by simpa [gone] using hx
    subst this
    exact wk_lt _ (kw_lt w hw)
  · simp [gone]
theorem gone_chk {w : Nat} {K : Int} (hw : w < 18446744073709551616) (hK : 1 ≤ K ∧ K ≤ 16) : gchk K (gone w).nf = 0 := by
  rw [gchk_ok]
  refine ⟨hK, ?_, ?_, ?_, ?_⟩
  · simp [Gs.nf, gone]; omega
  · simp [Gs.nf, gone]
  · show kw (if isN w then 9218868437227405312 else w) ≠ nanK
    split
    · decide
    · rename_i h; exact fun e => h ((kw_isN hw).mpr e)
  · show kw (if isN w then 18442240474082181120 else w) ≠ nanK
    split
    · decide
    · rename_i h; exact fun e => h ((kw_isN hw).mpr e)
theorem gnew_chk {K : Int} (hK : 1 ≤ K ∧ K ≤ 16) : gchk K gnew.nf = 0 := by
  rw [gchk_ok]
  exact ⟨hK, by simp [Gs.nf, gnew]; omega, by simp [Gs.nf, gnew], by decide, by decide⟩
theorem gfold_fine {K : Int} (hK : 1 ≤ K ∧ K ≤ 16) : ∀ {r : List Nat} {g : Gs}, Ws r → g.W → gchk K g.nf = 0 → (gfold K g r).W ∧ gchk K (gfold K g r).nf = 0
  | [], g, _, hg, hc => ⟨hg, hc⟩
  | w :: r, g, hr, hg, hc => by
    have hw := hr w (by simp)
    have h1 := gmg_W (K := K) (by omega) hg (gone_W hw)
    have h2 : gchk K (gmg K g (gone w)).nf = 0 := by rw [gmg_nf]; exact gchk_merge hc (gone_chk hw hK)
    exact gfold_fine hK (r := r) (fun x hx => hr x (by simp [hx])) h1 h2
/-! ### the sketch -/
theorem run_sketch (s : Sm) (k k' : Nat) (ok : s.Ok) (hl : s.hs.length ≤ 40) (hf : s.fl.length ≤ 40) (hp : Hp) : ∃ r, IsSk (sketchN s) r ∧ run cxX 47 [smA s k k'] hp = some (r, hp) := by
  have hk := ok.kind
  have hA := ok.A
  have hB := ok.B
  have r6 : ∀ t a b, binV Go.Proofs.Try.prog .rem t a b (.int .u8 s.kind) (.int .u8 6) = some (.int .u8 (s.kind % 6)) := by
    intro t a b; rw [binV_rem _ _ _ _ _ _ _ (by omega), tmod_pos hk.1]
  have fin : ∀ (x : SkN) (g : Gs) (a b c d e f : Nat), B47_35 skZL (skL x g a b c d e f) hp = some (skA x g a b c d e f, hp) := by
    intro x g a b c d e f
    rw [B47_35_eq]
    unfold skL skZL skA
    simp [getN, putN]
  rw [E47]
  unfold sketchN
  by_cases h0 : s.kind % 6 = 0
  · rw [if_pos h0]
    obtain ⟨t, q⟩ := sk_set skZL skZL s (rk k) (rk k') hp ok.hs hl s.hs 0 [] rfl (by simp) (by simp)
    refine ⟨_, isSk_tags (x := { skZ with kind := 0, set := srt [] (smset s.few s.hs) }) gz_W rfl t 2 2 2 2 2, ?_⟩
    have f := fin { skZ with kind := 0, set := srt [] (smset s.few s.hs) } gz t 2 2 2 2 2
    have q := q (skL { skZ with kind := 0, set := srt [] (smset s.few s.hs) } gz t 2 2 2 2 2) (by unfold skZL skL; simp [putN, skZ, gz, LF])
    unfold skL skZL at q f
    unfold skA at f ⊢
    simp [skZ, gz, LF] at q f
    simp [getSc, getC, r6, h0, q, f, skZ, gz, LF]
  · rw [if_neg h0]
    by_cases h1 : s.kind % 6 = 1
    · rw [if_pos h1]
      have q := fun k hp => run_kmv s.A s.few s.hs k hA (by omega) (fun n hn => (ok.hs n hn).1) hp
      refine ⟨_, isSk_tags (x := { skZ with kind := 1, K := 1 + s.A % 20, hs := kmvs (1 + s.A % 20).toNat [] (s.hs.map (cut s.few)) }) gz_W rfl 2 2 2 2 2 2, ?_⟩
      have f := fin { skZ with kind := 1, K := 1 + s.A % 20, hs := kmvs (1 + s.A % 20).toNat [] (s.hs.map (cut s.few)) } gz 2 2 2 2 2 2
      unfold skL skZL at f
      unfold skA at f ⊢
      simp [skZ, gz, LF] at f
      simp [getSc, getC, putN, r6, h1, q, f, skZ, gz, LF]
    · rw [if_neg h1]
      by_cases h2 : s.kind % 6 = 2
      · rw [if_pos h2]
        obtain ⟨t, q⟩ := run_hll s.A s.hs (rk k) hA (by omega) ok.hs hp0
        refine ⟨_, isSk_tags (x := { skZ with kind := 2, P := 4 + s.A % 5, rg := hfold (4 + s.A % 5) (List.replicate (hpow (4 + s.A % 5)) 0) s.hs }) gz_W rfl 2 2 t 2 2 2, ?_⟩
        have f := fin { skZ with kind := 2, P := 4 + s.A % 5, rg := hfold (4 + s.A % 5) (List.replicate (hpow (4 + s.A % 5)) 0) s.hs } gz 2 2 t 2 2 2
        unfold skL skZL at f
        unfold skA at f ⊢
        simp [skZ, gz, LF] at f
        simp [getSc, getC, putN, r6, h2, q, f, skZ, gz, LF]
      · rw [if_neg h2]
        by_cases h3 : s.kind % 6 = 3
        · rw [if_pos h3]
          have q := fun k hp => run_bloom s.wide s.A k s.hs ok.wide hA (by omega) hp
          refine ⟨_, isSk_tags (x := { skZ with kind := 3, B := 1 + s.wide % 300, H := 1 + s.A % 8, bs := blm (1 + s.wide % 300) (1 + s.A % 8) [] s.hs }) gz_W rfl 2 2 2 2 2 2, ?_⟩
          have f := fin { skZ with kind := 3, B := 1 + s.wide % 300, H := 1 + s.A % 8, bs := blm (1 + s.wide % 300) (1 + s.A % 8) [] s.hs } gz 2 2 2 2 2 2
          unfold skL skZL at f
          unfold skA at f ⊢
          simp [skZ, gz, LF] at f
          simp [getSc, getC, putN, r6, h3, q, f, skZ, gz, LF]
        · rw [if_neg h3]
          by_cases h4 : s.kind % 6 = 4
          · rw [if_pos h4]
            obtain ⟨t, q⟩ := sk_cms skZL ((AV.sc (.int .u8 4)) :: skZL.tail) s (rk k) (rk k') hp ok.hs hA hB hl s.hs 0 [] rfl (by simp) (by simp) (by simp)
            refine ⟨_, isSk_tags (x := { skZ with kind := 4, R := 1 + s.A % 8, C := 1 + s.B % 40, cs := cfold (1 + s.A % 8) (1 + s.B % 40) (List.replicate ((1 + s.A % 8) * (1 + s.B % 40)).toNat 0) (smc 0 s.hs) }) gz_W rfl 2 2 2 2 t 2, ?_⟩
            have f := fin { skZ with kind := 4, R := 1 + s.A % 8, C := 1 + s.B % 40, cs := cfold (1 + s.A % 8) (1 + s.B % 40) (List.replicate ((1 + s.A % 8) * (1 + s.B % 40)).toNat 0) (smc 0 s.hs) } gz 2 2 2 2 t 2
            have q := q (skL { skZ with kind := 4, R := 1 + s.A % 8, C := 1 + s.B % 40, cs := cfold (1 + s.A % 8) (1 + s.B % 40) (List.replicate ((1 + s.A % 8) * (1 + s.B % 40)).toNat 0) (smc 0 s.hs) } gz 2 2 2 2 t 2) (by unfold skZL skL; simp [putN, skZ, gz, LF])
            unfold skL skZL at q f
            unfold skA at f ⊢
            have nq : S 2 2 (LQ .u64 .u32 []) = S 2 1 [] := rfl
            rw [nq] at q
            simp [skZ, gz, LF] at q f
            simp [getSc, getC, r6, h4, q, f, skZ, gz, LF]
          · rw [if_neg h4]
            have h5 : s.kind % 6 = 5 := by omega
            obtain ⟨gw, gc⟩ := gfold_fine (K := 1 + s.A % 16) (by omega) (ws_wd ok.fl) gnew_W (gnew_chk (by omega))
            have q := fun k hp => run_gauge s.A k s.fl hA (by omega) ok.fl hp
            refine ⟨_, isSk_tags (x := { skZ with kind := 5, gK := 1 + s.A % 16, g := (gfold (1 + s.A % 16) gnew (s.fl.map wd)).nf }) gw rfl 2 2 2 2 2 2, ?_⟩
            have f := fin { skZ with kind := 5, gK := 1 + s.A % 16, g := (gfold (1 + s.A % 16) gnew (s.fl.map wd)).nf } (gfold (1 + s.A % 16) gnew (s.fl.map wd)) 2 2 2 2 2 2
            unfold skL skZL at f
            unfold skA at f ⊢
            simp [skZ] at f
            simp [getSc, getC, putN, r6, h5, q, f, skZ]
end Go.Proofs.Ytalnoedhacobkaa.AI
