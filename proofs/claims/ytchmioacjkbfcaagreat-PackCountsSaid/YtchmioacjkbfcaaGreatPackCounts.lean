/- PackCounts: rows of counts, each less the one ahead. -/
import Derived.Test.YtchmioacjkbfcaaGreatEqZPackCounts
import Derived.Test.YtchmioacjkbfcaaGreatSpPackZ
namespace Go.Proofs.YtchmioacjkbfcaaGreat.AI
open Go
set_option linter.unusedVariables false
set_option linter.unusedSimpArgs false
set_option maxRecDepth 100000

def pcnt (c : Int) : List Int → Nat → Int → List Int
  | [], _, _ => []
  | n :: r, i, last => uv (zz (n - if (i : Int) % max c 1 = 0 then 0 else last)) ++ pcnt c r (i + 1) n
theorem rem_max (c : Int) (i : Nat) (t : TypeId) (x y : Operand) : binV Go.Proofs.Tryz.prog .rem t x y (.int .i64 (i : Int)) (.int .i64 (max c 1)) = some (.int .i64 ((i : Int) % max c 1)) := by
  rw [binV_rem _ _ _ _ _ _ _ (by omega), tmod_pos (by omega)]
section
variable (c : Int) (l : List Int) (hl : l.length ≤ 100) (h32 : U32 l)
theorem wint_le {n m : Int} (hn : 0 ≤ n ∧ n < 4294967296) (hm : 0 ≤ m ∧ m < 4294967296) : (uv (zz (n - m))).length ≤ 10 := uv_len64 (zz_lt (by omega) (by omega))
include hl h32 in
theorem counts_loop (b k : Nat) : ∀ (r : List Int) (i : Nat) (last : Int) (acc : List Int) (hp : Hp), l.drop i = r → hp.rd b 0 = some (Wc acc) → acc.length ≤ 10 * i → i ≤ l.length → (0 ≤ last ∧ last < 4294967296) →
    B11_2 (.ptr b 0 0) (.int .i64 c) (.int .i64 last) (S k 1 (LI .u32 l)) (.int .i64 l.length) (.int .i64 i) hp = some (.tup [], hp.put b 0 (Wc (acc ++ pcnt c r i last))) := by
  intro r
  induction r with
  | nil =>
    intro i last acc hp hr h ha hil hla
    have := drop_nil hr
    have hlt : ¬((i : Int) < (l.length : Int)) := by omega
    rw [B11_2_eq]
    simp only [pcnt, List.append_nil, put_same h]
    simp [hlt]
  | cons x r ih =>
    intro i last acc hp hr h ha hil hla
    obtain ⟨e1, e2, hi, e3⟩ := drop_cons hr
    have hx := h32 x (List.mem_of_getElem? e1)
    have rm := rem_max c i
    obtain ⟨lst, hlst⟩ : ∃ lst : Int, lst = if (i : Int) % max c 1 = 0 then 0 else last := ⟨_, rfl⟩
    have hb : 0 ≤ lst ∧ lst < 4294967296 := by rw [hlst]; split <;> omega
    have le := wint_le hx hb
    have wi := run_wint b (x - lst) acc (by omega) (by omega) hp h
    have ws : IntKind.i64.wrap x = x := wrap64 (by omega) (by omega)
    have wd : IntKind.i64.wrap (x - lst) = x - lst := wrap64 (by omega) (by omega)
    have hw : IntKind.i64.wrap ((i : Int) + 1) = ((i + 1 : Nat) : Int) := by rw [wrap64] <;> omega
    have hh := ih (i + 1) x (acc ++ uv (zz (x - lst))) (hp.put b 0 (Wc (acc ++ uv (zz (x - lst))))) e2 (rd_put _ _ _) (by simp; omega) (by omega) hx
    rw [put_put] at hh
    have ec : acc ++ pcnt c (x :: r) i last = acc ++ uv (zz (x - lst)) ++ pcnt c r (i + 1) x := by
      rw [hlst, List.append_assoc]; rfl
    rw [ec]
    have b6 : B11_6 (.ptr b 0 0) (.int .i64 c) (.int .i64 lst) (.int .u32 x) (S k 1 (LI .u32 l)) (.int .i64 l.length) (.int .i64 i) hp = some (.tup [], hp.put b 0 (Wc (acc ++ uv (zz (x - lst)) ++ pcnt c r (i + 1) x))) := by
      rw [B11_6_eq]
      simp only [Int.natCast_add, Int.natCast_one] at hw hh
      generalize uv (zz (x - lst)) = u at *
      simp [ws, wd, wi, hw]
      simpa using hh
    rw [B11_2_eq]
    by_cases h0 : (i : Int) % max c 1 = 0
    · have el : lst = 0 := by rw [hlst, if_pos h0]
      rw [el] at b6
      simp [hi, e3, getSc, rm, h0]
      rw [List.append_assoc] at b6
      rw [el]
      exact b6
    · have el : lst = last := by rw [hlst, if_neg h0]
      rw [el] at b6
      simp [hi, e3, getSc, rm, h0]
      rw [List.append_assoc] at b6
      rw [el]
      exact b6
/-- The law's own row. -/
theorem law_loop (w v k k' j : Nat) (hj : j ≤ 10) (x24 : AV) (v25 : Value) (hwv : w ≠ v) (full : List Int) (hfl : full.length ≤ 1000) (hl : l.length ≤ 100) (h32 : U32 l) : ∀ (r : List Int) (i : Nat) (acc : List Int) (hp : Hp), l.drop i = r → hp.rd w 0 = some (Wc full) → hp.rd v 0 = some (Wc acc) → acc.length ≤ 10 * i → i ≤ l.length →
    full = acc ++ pcnt c r i (if i = 0 then 0 else l.getD (i - 1) 0) →
    ∃ hp', B3_11 (S k 1 (LI .u32 l)) (.int .i64 c) (.ptr w 0 0) (.ptr v 0 0) x24 v25 (.int .i64 (j : Int)) (S k' 1 (LI .u32 l)) (.int .i64 l.length) (.int .i64 (i : Int)) hp = B3_6 (S k 1 (LI .u32 l)) x24 v25 (.int .i64 ((j + 1 : Nat) : Int)) hp' := by
  intro r
  induction r with
  | nil =>
    intro i acc hp hr hw hv ha hil hf
    have := drop_nil hr
    have hlt : ¬((i : Int) < (l.length : Int)) := by omega
    have ef : full = acc := by simpa [pcnt] using hf
    subst ef
    have b1 := run_wbytes w full (by omega) hp hw
    have b2 := run_wbytes v full (by omega) hp hv
    have wj : IntKind.i64.wrap ((j : Int) + 1) = ((j + 1 : Nat) : Int) := by rw [wrap64] <;> omega
    refine ⟨hp, ?_⟩
    rw [B3_11_eq]
    simp only [Int.natCast_add, Int.natCast_one] at wj ⊢
    simp [hlt, b1, b2, wj]
  | cons x r ih =>
    intro i acc hp hr hw hv ha hil hf
    obtain ⟨e1, e2, hi, e3⟩ := drop_cons hr
    have hx := h32 x (List.mem_of_getElem? e1)
    have rm := rem_max c i
    have ws : IntKind.i64.wrap x = x := wrap64 (by omega) (by omega)
    have hwi : IntKind.i64.wrap ((i : Int) + 1) = ((i + 1 : Nat) : Int) := by rw [wrap64] <;> omega
    obtain ⟨lst, hlst⟩ : ∃ lst : Int, lst = if (i : Int) % max c 1 = 0 then 0 else (if i = 0 then 0 else l.getD (i - 1) 0) := ⟨_, rfl⟩
    have hlb : 0 ≤ l.getD (i - 1) 0 ∧ l.getD (i - 1) 0 < 4294967296 := getD_u32 h32 (i - 1)
    have hb : 0 ≤ lst ∧ lst < 4294967296 := by
      rw [hlst]; split
      · omega
      · split
        · omega
        · exact hlb
    have le := wint_le hx hb
    have wi := run_wint v (x - lst) acc (by omega) (by omega) hp hv
    have wl : IntKind.i64.wrap lst = lst := wrap64 (by omega) (by omega)
    have wd : IntKind.i64.wrap (x - lst) = x - lst := wrap64 (by omega) (by omega)
    have gx : l.getD i 0 = x := by simp [hi, e3]
    obtain ⟨hp', hh⟩ := ih (i + 1) (acc ++ uv (zz (x - lst))) (hp.put v 0 (Wc (acc ++ uv (zz (x - lst))))) e2 (by rw [rd_put_ne _ _ hwv]; exact hw) (rd_put _ _ _) (by simp; omega) (by omega) (by
      rw [if_neg (by omega), Nat.add_sub_cancel, gx, hf, hlst, List.append_assoc]; rfl)
    refine ⟨hp', ?_⟩
    rw [← hh]
    have b16 : B3_16 (S k 1 (LI .u32 l)) (.int .i64 c) (.ptr w 0 0) (.ptr v 0 0) (.int .u32 x) (.int .u32 lst) x24 v25 (.int .i64 (j : Int)) (S k' 1 (LI .u32 l)) (.int .i64 l.length) (.int .i64 (i : Int)) hp =
        B3_11 (S k 1 (LI .u32 l)) (.int .i64 c) (.ptr w 0 0) (.ptr v 0 0) x24 v25 (.int .i64 (j : Int)) (S k' 1 (LI .u32 l)) (.int .i64 l.length) (.int .i64 ((i + 1 : Nat) : Int)) (hp.put v 0 (Wc (acc ++ uv (zz (x - lst))))) := by
      rw [B3_16_eq]
      generalize uv (zz (x - lst)) = u at *
      simp only [Int.natCast_add, Int.natCast_one] at hwi ⊢
      simp [ws, wl, wd, wi, hwi]
    rw [← b16, B3_11_eq]
    by_cases h0 : (i : Int) % max c 1 = 0
    · have el : lst = 0 := by rw [hlst, if_pos h0]
      rw [el]
      simp [hi, e3, getSc, rm, h0]
    · have hi0 : i ≠ 0 := by
        intro e; subst e; simp at h0
      have el : lst = l.getD (i - 1) 0 := by rw [hlst, if_neg h0, if_neg hi0]
      have w1 : IntKind.i64.wrap ((i : Int) - 1) = ((i - 1 : Nat) : Int) := by rw [wrap64] <;> omega
      have hi1 : i - 1 < l.length := by omega
      have g1 : l[i - 1]? = some (l.getD (i - 1) 0) := by simp [hi1]
      rw [el]
      generalize l.getD (i - 1) 0 = z at *
      simp [hi, e3, getSc, rm, h0, w1, g1]
theorem pcnt_len (h32 : U32 l) : ∀ (r : List Int) (i : Nat) (last : Int), (∀ n ∈ r, 0 ≤ n ∧ n < 4294967296) → (0 ≤ last ∧ last < 4294967296) → (pcnt c r i last).length ≤ 10 * r.length
  | [], _, _, _, _ => by simp [pcnt]
  | x :: r, i, last, h, hla => by
    have ih := pcnt_len h32 r (i + 1) x (fun n hn => h n (by simp [hn])) (h x (by simp))
    have le : (uv (zz (x - if (i : Int) % max c 1 = 0 then 0 else last))).length ≤ 10 := wint_le (h x (by simp)) (by split <;> omega)
    simp only [pcnt, List.length_append, List.length_cons]
    omega
end
theorem run_counts (c : Int) (l : List Int) (hl : l.length ≤ 100) (h32 : U32 l) (b k : Nat) (hp : Hp) (h : hp.rd b 0 = some (Wc [])) :
    run cxX 11 [.ptr b 0 0, .sc (.int .i64 c), S k 1 (LI .u32 l)] hp = some (.tup [], hp.put b 0 (Wc (pcnt c l 0 0))) := by
  have hh := counts_loop c l hl h32 b (rk k) l 0 0 [] hp rfl h (by simp) (by omega) (by omega)
  simp only [List.nil_append] at hh
  rw [E11]
  simp at hh
  simpa using hh
theorem law_iter (c1 c2 : Int) (l : List Int) (hl : l.length ≤ 100) (h32 : U32 l) (k kk i : Nat) (hi : i < 2) (hp : Hp) :
    ∃ hp', B3_6 (S k 1 (LI .u32 l)) (S kk 1 (LI .i64 [c1, c2])) (.int .i64 2) (.int .i64 (i : Int)) hp = B3_6 (S k 1 (LI .u32 l)) (S kk 1 (LI .i64 [c1, c2])) (.int .i64 2) (.int .i64 ((i + 1 : Nat) : Int)) hp' := by
  obtain ⟨c, hc⟩ : ∃ c, [c1, c2][i]? = some c := ⟨_, List.getElem?_eq_getElem (by simpa using hi)⟩
  obtain ⟨H, hH⟩ : ∃ H, H = (hp.new (Wc [])).new (Wc []) := ⟨_, rfl⟩
  have hw : H.rd hp.next 0 = some (Wc []) := by rw [hH, rd_new_ne _ _ (by simp), rd_new]
  have hv : H.rd (hp.next + 1) 0 = some (Wc []) := by rw [hH]; exact rd_new (hp.new (Wc [])) _
  have rc := run_counts c l hl h32 hp.next (rk k) H hw
  have hlen := pcnt_len c l h32 l 0 0 h32 (by omega)
  obtain ⟨hp', hh⟩ := law_loop c l hp.next (hp.next + 1) k (rk k) i (by omega) (S kk 1 (LI .i64 [c1, c2])) (.int .i64 2) (by omega) (pcnt c l 0 0) (by omega) hl h32 l 0 [] (H.put hp.next 0 (Wc (pcnt c l 0 0))) rfl (rd_put _ _ _) (by rw [rd_put_ne _ _ (by omega)]; exact hv) (by simp) (by omega) (by simp)
  refine ⟨hp', ?_⟩
  rw [← hh, B3_6_eq]
  have hlt : (i : Int) < 2 := by omega
  simp only [Wc, nilI] at hH rc ⊢
  generalize pcnt c l 0 0 = full at *
  simp [hlt, hc, getSc, ← hH, rc]
theorem law_PackCounts (c : Int) (wc : InK .i64 c) (k : Nat) (l : List Int) (wl : ∀ n ∈ l, InK .u32 n) (d : Int) (wd : InK .u8 d) (hp : Hp) :
    ∃ hp', run cxX 3 [.sc (.int .i64 c), S k 1 (LI .u32 l), .sc (.int .u8 d)] hp = some (.sc (.bool true), hp') := by
  obtain ⟨ha, aw⟩ := run_awake18 hp0
  have hd := wd.u8
  have h32 : U32 l := fun n hn => (wl n hn).u32
  rw [E3]
  by_cases hl : (60 : Int) < (l.length : Int)
  · exact ⟨hp, by simp [aw, hl]⟩
  · have r9 : ∀ t x y, binV Go.Proofs.Tryz.prog .rem t x y (.int .u8 d) (.int .u8 9) = some (.int .u8 (d % 9)) := by
      intro t x y; rw [binV_rem _ _ _ _ _ _ _ (by omega), tmod_pos hd.1]
    have w1 : IntKind.i64.wrap (d % 9) = d % 9 := wrap64 (by omega) (by omega)
    have w2 : IntKind.i64.wrap (1 + d % 9) = 1 + d % 9 := wrap64 (by omega) (by omega)
    obtain ⟨h1, e1⟩ := law_iter c (1 + d % 9) l (by omega) h32 k 1 0 (by omega) hp
    obtain ⟨h2, e2⟩ := law_iter c (1 + d % 9) l (by omega) h32 k 1 1 (by omega) h1
    have e3 : B3_6 (S k 1 (LI .u32 l)) (S 1 1 (LI .i64 [c, 1 + d % 9])) (.int .i64 2) (.int .i64 ((2 : Nat) : Int)) h2 = some (.sc (.bool true), h2) := by
      rw [B3_6_eq]; simp
    rw [e2, e3] at e1
    have eL : LI .i64 [c, 1 + d % 9] = [.sc (.int .i64 c), .sc (.int .i64 (1 + d % 9))] := rfl
    rw [eL] at e1
    simp at e1
    exact ⟨h2, by simp [aw, hl, r9, w1, w2, e1]⟩
end Go.Proofs.YtchmioacjkbfcaaGreat.AI
