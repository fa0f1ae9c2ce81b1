/- Gauges: of many floats; a fixed fact; the law of two as one. -/
import Derived.Test.YtdmpcbealegicaaGaugeC
namespace Go.Proofs.Ytdmpcbealegicaa.AI
open Go
set_option linter.unusedVariables false
set_option linter.unusedSimpArgs false

@[simp] theorem S3_nil1 : S 3 1 [] = S 2 1 [] := rfl
/-! ### rows of pairs -/
def LP : List (Int × Int) → List AV
  | [] => []
  | p :: l => .sc (.int .u64 p.1) :: .sc (.int .u8 p.2) :: LP l
theorem lenP : ∀ l, (LP l).length = 2 * l.length
  | [] => rfl
  | p :: l => by simp only [LP, List.length_cons, lenP l]; omega
theorem dropP : ∀ (i : Nat) (l : List (Int × Int)), (LP l).drop (i * 2) = LP (l.drop i)
  | 0, l => by simp
  | i + 1, [] => by simp [LP]
  | i + 1, p :: l => by
    have h : (i + 1) * 2 = i * 2 + 1 + 1 := by omega
    rw [h, LP, List.drop_succ_cons, List.drop_succ_cons, dropP i l, List.drop_succ_cons]
theorem appP : ∀ a b, LP (a ++ b) = LP a ++ LP b
  | [], b => rfl
  | p :: a, b => by simp only [List.cons_append, LP, appP a b]
theorem flatP : ∀ l, Flat (LP l)
  | [] => rfl
  | p :: l => by
    have h : (LP l).map ro1 = LP l := flatP l
    show (LP (p :: l)).map ro1 = LP (p :: l)
    simp only [LP, List.map_cons, h, ro1_sc]
theorem lenA_P (k : Nat) (l : List (Int × Int)) : lenA (S k 2 (LP l)) = some l.length := by
  have h : (if (2 : Nat) = 1 then (LP l).length else (LP l).length / 2) = l.length := by rw [if_neg (by omega), lenP]; omega
  rcases S_cases k 2 (LP l) with e | e | ⟨e, e'⟩
  · rw [e]; simp only [lenA, h]
  · rw [e]; simp only [lenA, h]
  · rw [e]
    have : l.length = 0 := by have := lenP l; rw [e'] at this; simp at this; omega
    rw [this]; rfl
theorem idxA_P (k : Nat) {l : List (Int × Int)} {i : Nat} {p : Int × Int} (h : l[i]? = some p) : idxA 2 (S k 2 (LP l)) (.int .i64 (i : Int)) = some [.sc (.int .u64 p.1), .sc (.int .u8 p.2)] := by
  obtain ⟨hi, hp⟩ := List.getElem?_eq_some_iff.mp h
  have hl : (if (2 : Nat) = 1 then (LP l).length else (LP l).length / 2) = l.length := by rw [if_neg (by omega), lenP]; omega
  have hx : idx l.length (.int .i64 (i : Int)) = some i := by
    have hc : (0 : Int) ≤ (i : Int) ∧ (i : Int) < (l.length : Int) := ⟨by omega, by omega⟩
    simp only [idx, asI, Option.bind_some, hc, and_self, if_true, Int.toNat_natCast]
  have hg : getN (LP l) (i * 2) 2 = some [.sc (.int .u64 p.1), .sc (.int .u8 p.2)] := by
    unfold getN
    rw [if_pos (by rw [lenP]; omega), dropP, List.drop_eq_getElem_cons hi, hp]
    rfl
  rcases S_cases k 2 (LP l) with e | e | ⟨e, e'⟩
  · rw [e]; simp only [idxA, if_true, hl, hx, Option.bind_some, hg]
  · rw [e]; simp only [idxA, if_true, hl, hx, Option.bind_some, hg]
  · exfalso
    have := lenP l
    rw [e'] at this
    simp at this
    omega
/-! ### of many floats -/
def gfold (K : Int) (g : Gs) : List Nat → Gs
  | [] => g
  | w :: r => gfold K (gmg K g (gone w)) r
theorem gfold_ok {K : Int} (hK : 1 ≤ K) : ∀ {r F : List Nat} {g : Gs}, GR K F g → Ws r → F.length + r.length ≤ 1000 → GR K (F ++ r) (gfold K g r)
  | [], F, g, h, _, _ => by simpa [gfold] using h
  | w :: r, F, g, h, hr, hl => by
    have h1 := h.merge (gone_ok hK (hr w (by simp))) (by simp at hl ⊢; omega)
    have h2 := gfold_ok hK (r := r) h1 (fun x hx => hr x (by simp [hx])) (by simp at hl ⊢; omega)
    rw [List.append_assoc] at h2
    exact h2
theorem gauge_loop (K : Int) (k : Nat) (l : List (Int × Int)) (z0 z1 z2 z3 z4 z5 z6 z7 z8 z9 z10 : AV) (hK : 1 ≤ K) (hl : l.length ≤ 900) (hI : ∀ p ∈ l, InI p) (hp : Hp) : ∀ (r : List (Int × Int)) (i : Nat) (F : List Nat) (g : Gs), l.drop i = r → F.length = i → GR K F g →
    B28_3 (S k 2 (LP l)) (.int .i64 l.length) (.int .i64 i) [z0, z1, z2, z3, z4, z5, z6, z7, z8, z9, z10] [.sc (.int .i64 K), .sc (.int .u32 g.M), .sc (.int .u32 g.e0), .sc (.int .u32 g.e1), .sc (.int .u32 g.e2), .sc (.int .u32 g.e3), .sc (.int .u32 g.e4), .sc (.int .u32 g.e5), fl g.lo, fl g.hi, S 2 1 (LF g.L)] hp =
      some ((gfold K g (r.map wd)).av K 2, hp) := by
  intro r
  induction r with
  | nil =>
    intro i F g hr hF hg
    have := drop_nil hr
    have hlt : ¬((i : Int) < (l.length : Int)) := by omega
    rw [B28_3_eq]
    simp [hlt, getN, putN, gfold]
  | cons p r ih =>
    intro i F g hr hF hg
    obtain ⟨e1, e2, hi, e3⟩ := drop_cons hr
    have hpI := hI p (List.mem_of_getElem? e1)
    have hw := (wd_ok hpI).1
    have ix := idxA_P k e1
    have it := fun hp => run_item p hpI hp
    have ad := fun k hp => run_gadd K k (wd p) hK hg (by omega) hw hp
    have h := ih (i + 1) (F ++ [wd p]) (gmg K g (gone (wd p))) e2 (by simp [hF]) (hg.merge (gone_ok hK hw) (by simp; omega))
    have hwi : IntKind.i64.wrap ((i : Int) + 1) = ((i + 1 : Nat) : Int) := by rw [wrap64] <;> omega
    rw [B28_3_eq]
    simp at h hwi
    simp [hi, ix, getN, putN, it, ad, hwi, h, gfold]
theorem run_gauge (c : Int) (k : Nat) (l : List (Int × Int)) (hc : 0 ≤ c ∧ c < 256) (hl : l.length ≤ 900) (hI : ∀ p ∈ l, InI p) (hp : Hp) :
    run cxX 28 [.sc (.int .u8 c), S k 2 (LP l)] hp = some ((gfold (1 + c % 16) gnew (l.map wd)).av (1 + c % 16) 2, hp) := by
  have m : ∀ x y, binV Go.Proofs.Try.prog .rem 5 x y (.int .u8 c) (.int .u8 16) = some (.int .u8 (c % 16)) := by
    intro x y; rw [binV_rem _ _ _ _ _ _ _ (by omega), tmod_pos hc.1]
  have w1 : IntKind.i64.wrap (c % 16) = c % 16 := wrap64 (by omega) (by omega)
  have w2 : IntKind.i64.wrap (1 + c % 16) = 1 + c % 16 := wrap64 (by omega) (by omega)
  have cv : ∀ n : Int, cvV Go.Proofs.Try.prog 5 3 (.int .u8 n) = some (.int .i64 (IntKind.i64.wrap n)) := fun n => by kernel_rfl
  have nw := fun hp => run_gnew (1 + c % 16) (by omega) hp
  have lp := fun z0 z1 z2 z3 z4 z5 z6 z7 z8 z9 z10 => gauge_loop (1 + c % 16) (rk k) l z0 z1 z2 z3 z4 z5 z6 z7 z8 z9 z10 (by omega) hl hI hp l 0 [] gnew rfl rfl (gnew_ok _)
  simp at lp
  rw [E28]
  simp [m, cv, w1, w2, nw, putN, lenA_P]
  exact lp _ _ _ _ _ _ _ _ _ _ _
end Go.Proofs.Ytdmpcbealegicaa.AI
