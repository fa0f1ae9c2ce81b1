/- Gauges: are two the same; of many floats. -/
import Derived.Test.YtdmpcbealegicaaGaugeB
namespace Go.Proofs.Ytdmpcbealegicaa.AI
open Go
set_option linter.unusedVariables false
set_option linter.unusedSimpArgs false

theorem pureOf_bind {α β : Type} (P : Program) (s : Sem α) (f : α → Sem β) : pureOf P (s >>= f) = (pureOf P s).bind fun a => pureOf P (f a) := by
  show pureOf P (Sem.bind s f) = _
  induction s with
  | pure a => rfl
  | program k ih => simp only [Sem.bind, pureOf]; exact ih P
  | mark x k ih => simp only [Sem.bind, pureOf]; exact ih
  | _ => rfl
@[simp] theorem pureOf_pure {α : Type} (P : Program) (a : α) : pureOf P (pure a : Sem α) = some a := rfl
theorem eqInt (d : Nat) (a b : Int) : pureOf Go.Proofs.Try.prog (Op.equalIn (d + 1) 43 (.int .u32 a) (.int .u32 b)) = some (a == b) := by
  unfold Op.equalIn
  rw [pureOf_bind]
  have : pureOf Go.Proofs.Try.prog (underlying 43) = some (.int .u32) := by kernel_rfl
  rw [this]
  rfl
theorem eqArr (e0 e1 e2 e3 e4 e5 f0 f1 f2 f3 f4 f5 : Int) : pureOf Go.Proofs.Try.prog (Op.equal 44 (.agg #[.int .u32 e0, .int .u32 e1, .int .u32 e2, .int .u32 e3, .int .u32 e4, .int .u32 e5]) (.agg #[.int .u32 f0, .int .u32 f1, .int .u32 f2, .int .u32 f3, .int .u32 f4, .int .u32 f5])) =
    some (decide (e0 = f0 ∧ e1 = f1 ∧ e2 = f2 ∧ e3 = f3 ∧ e4 = f4 ∧ e5 = f5)) := by
  unfold Op.equal Op.maxDepth
  unfold Op.equalIn
  rw [pureOf_bind]
  have : pureOf Go.Proofs.Try.prog (underlying 44) = some (.array 6 43) := by kernel_rfl
  rw [this]
  simp only [Option.bind_some]
  rw [pureOf_bind]
  have hs : pureOf Go.Proofs.Try.prog (sizeOf 43) = some 1 := by kernel_rfl
  rw [hs]
  simp only [Option.bind_some]
  have hp : ∀ (x0 x1 x2 x3 x4 x5 : Value), pureOf Go.Proofs.Try.prog (part 43 #[x0, x1, x2, x3, x4, x5] 0) = some x0 ∧ pureOf Go.Proofs.Try.prog (part 43 #[x0, x1, x2, x3, x4, x5] 1) = some x1 ∧ pureOf Go.Proofs.Try.prog (part 43 #[x0, x1, x2, x3, x4, x5] 2) = some x2 ∧
      pureOf Go.Proofs.Try.prog (part 43 #[x0, x1, x2, x3, x4, x5] 3) = some x3 ∧ pureOf Go.Proofs.Try.prog (part 43 #[x0, x1, x2, x3, x4, x5] 4) = some x4 ∧ pureOf Go.Proofs.Try.prog (part 43 #[x0, x1, x2, x3, x4, x5] 5) = some x5 := by
    intro x0 x1 x2 x3 x4 x5
    refine ⟨?_, ?_, ?_, ?_, ?_, ?_⟩ <;> kernel_rfl
  have he := eqInt 9998
  obtain ⟨a0, a1, a2, a3, a4, a5⟩ := hp (.int .u32 e0) (.int .u32 e1) (.int .u32 e2) (.int .u32 e3) (.int .u32 e4) (.int .u32 e5)
  obtain ⟨b0, b1, b2, b3, b4, b5⟩ := hp (.int .u32 f0) (.int .u32 f1) (.int .u32 f2) (.int .u32 f3) (.int .u32 f4) (.int .u32 f5)
  rw [Std.Legacy.Range.forIn_eq_forIn_range']
  simp [Std.Legacy.Range.size, List.range'_succ, pureOf_bind, a0, b0, he]
  by_cases h0 : e0 = f0
  · subst h0
    simp [pureOf_bind, a1, b1, he]
    by_cases h1 : e1 = f1
    · subst h1
      simp [pureOf_bind, a2, b2, he]
      by_cases h2 : e2 = f2
      · subst h2
        simp [pureOf_bind, a3, b3, he]
        by_cases h3 : e3 = f3
        · subst h3
          simp [pureOf_bind, a4, b4, he]
          by_cases h4 : e4 = f4
          · subst h4
            simp [pureOf_bind, a5, b5, he]
            by_cases h5 : e5 = f5
            · subst h5
              simp [pureOf_bind]
            · simp [h5, pureOf_bind]
          · simp [h4, pureOf_bind]
        · simp [h3, pureOf_bind]
      · simp [h2, pureOf_bind]
    · simp [h1, pureOf_bind]
  · simp [h0, pureOf_bind]
theorem neq44 (x y : Operand) (e0 e1 e2 e3 e4 e5 f0 f1 f2 f3 f4 f5 : Int) : binV Go.Proofs.Try.prog .neq 44 x y (.agg #[.int .u32 e0, .int .u32 e1, .int .u32 e2, .int .u32 e3, .int .u32 e4, .int .u32 e5]) (.agg #[.int .u32 f0, .int .u32 f1, .int .u32 f2, .int .u32 f3, .int .u32 f4, .int .u32 f5]) =
    some (.bool (!decide (e0 = f0 ∧ e1 = f1 ∧ e2 = f2 ∧ e3 = f3 ∧ e4 = f4 ∧ e5 = f5))) := by
  unfold binV
  rw [pureOf_bind]
  have hg : pureOf Go.Proofs.Try.prog (eqGuard .neq 44 x y (.agg #[.int .u32 e0, .int .u32 e1, .int .u32 e2, .int .u32 e3, .int .u32 e4, .int .u32 e5]) (.agg #[.int .u32 f0, .int .u32 f1, .int .u32 f2, .int .u32 f3, .int .u32 f4, .int .u32 f5])) = some () := by kernel_rfl
  rw [hg]
  simp only [Option.bind_some, Go.binOp]
  rw [pureOf_bind, eqArr]
  rfl
theorem eql44 (x y : Operand) (e0 e1 e2 e3 e4 e5 f0 f1 f2 f3 f4 f5 : Int) : binV Go.Proofs.Try.prog .eql 44 x y (.agg #[.int .u32 e0, .int .u32 e1, .int .u32 e2, .int .u32 e3, .int .u32 e4, .int .u32 e5]) (.agg #[.int .u32 f0, .int .u32 f1, .int .u32 f2, .int .u32 f3, .int .u32 f4, .int .u32 f5]) =
    some (.bool (decide (e0 = f0 ∧ e1 = f1 ∧ e2 = f2 ∧ e3 = f3 ∧ e4 = f4 ∧ e5 = f5))) := by
  unfold binV
  rw [pureOf_bind]
  have hg : pureOf Go.Proofs.Try.prog (eqGuard .eql 44 x y (.agg #[.int .u32 e0, .int .u32 e1, .int .u32 e2, .int .u32 e3, .int .u32 e4, .int .u32 e5]) (.agg #[.int .u32 f0, .int .u32 f1, .int .u32 f2, .int .u32 f3, .int .u32 f4, .int .u32 f5])) = some () := by kernel_rfl
  rw [hg]
  simp only [Option.bind_some, Go.binOp]
  rw [pureOf_bind, eqArr]
  rfl
/-! ### Same -/
theorem gsame_loop (r0 r1 r2 r3 r4 r5 r6 r7 r8 r9 s0 s1 s2 s3 s4 s5 s6 s7 s8 s9 : AV) (a b : List Nat) (k k' : Nat) (hab : a.length = b.length) (hl : a.length ≤ 1000000) (ha : Ws a) (hb : Ws b) (hp : Hp) : ∀ (r s : List Nat) (i : Nat), a.drop i = r → b.drop i = s →
    B31_4 (.int .i64 a.length) (.int .i64 i) [r0, r1, r2, r3, r4, r5, r6, r7, r8, r9, S k 1 (LF a)] [s0, s1, s2, s3, s4, s5, s6, s7, s8, s9, S k' 1 (LF b)] hp = some (.sc (.bool (decide (r.map kw = s.map kw))), hp) := by
  intro r
  induction r with
  | nil =>
    intro s i hr hs
    have h1 := drop_nil hr
    have h2 : s = [] := by rw [← hs]; exact List.drop_eq_nil_of_le (by omega)
    have hlt : ¬((i : Int) < (a.length : Int)) := by omega
    rw [B31_4_eq]
    simp [hlt, h2]
  | cons x r ih =>
    intro s i hr hs
    obtain ⟨e1, e2, hi, e3⟩ := drop_cons hr
    rw [B31_4_eq]
    have hw : IntKind.i64.wrap ((i : Int) + 1) = ((i + 1 : Nat) : Int) := by rw [wrap64] <;> omega
    cases s with
    | nil => have := drop_nil hs; omega
    | cons y s =>
      obtain ⟨f1, f2, hj, f3⟩ := drop_cons hs
      have h := ih s (i + 1) e2 f2
      have q := fun hp => run_fsame x y (ha x (List.mem_of_getElem? e1)) (hb y (List.mem_of_getElem? f1)) hp
      simp at h hw
      by_cases e : kw x = kw y
      · simp only [e, decide_true] at q
        simp [hi, hj, getC, getSc, e3, f3, e, hw, h, q]
      · simp only [e, decide_false] at q
        simp [hi, hj, getC, getSc, e3, f3, e, q]
/-- Two gauges. -/
def GSame (K K' : Int) (g o : Gs) : Prop := K = K' ∧ g.M = o.M ∧ (g.e0 = o.e0 ∧ g.e1 = o.e1 ∧ g.e2 = o.e2 ∧ g.e3 = o.e3 ∧ g.e4 = o.e4 ∧ g.e5 = o.e5) ∧ kw g.lo = kw o.lo ∧ kw g.hi = kw o.hi ∧ g.L.map kw = o.L.map kw
theorem run_gsame (K K' : Int) (g o : Gs) (k k' : Nat) (hs : GSame K K' g o) (h1 : g.lo < 18446744073709551616 ∧ o.lo < 18446744073709551616) (h2 : g.hi < 18446744073709551616 ∧ o.hi < 18446744073709551616) (h3 : Ws g.L ∧ Ws o.L) (hl : g.L.length ≤ 1000000) (hp : Hp) :
    run cxX 31 [g.av K k, o.av K' k'] hp = some (.sc (.bool true), hp) := by
  obtain ⟨q1, q2, q3, q4, q5, q6⟩ := hs
  have len : g.L.length = o.L.length := by simpa using congrArg List.length q6
  have l := gsame_loop (.sc (.int .i64 K)) (.sc (.int .u32 g.M)) (.sc (.int .u32 g.e0)) (.sc (.int .u32 g.e1)) (.sc (.int .u32 g.e2)) (.sc (.int .u32 g.e3)) (.sc (.int .u32 g.e4)) (.sc (.int .u32 g.e5)) (fl g.lo) (fl g.hi)
    (.sc (.int .i64 K')) (.sc (.int .u32 o.M)) (.sc (.int .u32 o.e0)) (.sc (.int .u32 o.e1)) (.sc (.int .u32 o.e2)) (.sc (.int .u32 o.e3)) (.sc (.int .u32 o.e4)) (.sc (.int .u32 o.e5)) (fl o.lo) (fl o.hi) g.L o.L (rk k) (rk k') len hl h3.1 h3.2 hp g.L o.L 0 rfl rfl
  have r1 := fun hp => run_fsame g.lo o.lo h1.1 h1.2 hp
  have r2 := fun hp => run_fsame g.hi o.hi h2.1 h2.2 hp
  have a := neq44 (.tmp 20) (.tmp 22) g.e0 g.e1 g.e2 g.e3 g.e4 g.e5 o.e0 o.e1 o.e2 o.e3 o.e4 o.e5
  simp only [eq_true q3, eq_true q4, eq_true q5, eq_true q6, decide_true, Bool.not_true] at a r1 r2 l
  subst q1
  rw [E31]
  simp at l
  rw [len] at l
  rw [q2] at l
  simp [getSc, getC, getN, concA, allSc, q2, a, r1, r2, len, B31_3_eq]
  exact l
/-! ### the law's floats -/
open Classical in
/-- An item's float. -/
noncomputable def wd (p : Int × Int) : Nat := if h : ∃ w, w < 18446744073709551616 ∧ ∀ hp, run cxX 16 [.sc (.int .u64 p.1), .sc (.int .u8 p.2)] hp = some (fl w, hp) then h.choose else 0
/-- An item's bounds. -/
def InI (p : Int × Int) : Prop := (0 ≤ p.1 ∧ p.1 < 18446744073709551616) ∧ (0 ≤ p.2 ∧ p.2 < 256)
theorem wd_ok {p : Int × Int} (h : InI p) : wd p < 18446744073709551616 ∧ ∀ hp, run cxX 16 [.sc (.int .u64 p.1), .sc (.int .u8 p.2)] hp = some (fl (wd p), hp) := by
  have he := run_float p.1 p.2 h.1 h.2
  unfold wd
  rw [dif_pos he]
  exact he.choose_spec
theorem run_item (p : Int × Int) (h : InI p) (hp : Hp) : run cxX 29 [.agg [.sc (.int .u64 p.1), .sc (.int .u8 p.2)]] hp = some (fl (wd p), hp) := by
  rw [E29]
  simp [getSc, (wd_ok h).2]
end Go.Proofs.Ytdmpcbealegicaa.AI
